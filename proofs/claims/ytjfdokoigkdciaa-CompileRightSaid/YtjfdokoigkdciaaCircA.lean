/- Circles without a step, walked. What Check and Depths ask: look, walked. Check and Depths, walked. The code that each law of this layer asks for first, walked; how long code may be. -/
import Derived.Test.YtjfdokoigkdciaaLookA
import Derived.Test.YtjfdokoigkdciaaLookE
import Derived.Deep.OwnRows
import Derived.Deep.RegionWith
import Derived.Deep.DeepCutAuto
import Derived.Deep.QuietTactic
import Derived.BigQuiet
namespace Go.Proofs.Ytjfdokoigkdciaa
open Go.RowKit Go.Maps

/-- None of the first k places has a circle. -/
def NoC (c : List Ins) (d : List Int) (k : Nat) : Prop := ∀ j, j < k → (decide (0 ≤ dAt d j) && circS c j) = false
theorem NoC.zero {c : List Ins} {d : List Int} : NoC c d 0 := fun j h => absurd h (by omega)
theorem NoC.succ {c : List Ins} {d : List Int} {k : Nat} (h : NoC c d k) (hk : (decide (0 ≤ dAt d k) && circS c k) = false) : NoC c d (k + 1) := fun j hj => by
  by_cases e : j = k
  · subst e; exact hk
  · exact h j (by omega)
theorem circ_none {c : List Ins} {d : List Int} (h : NoC c d c.length) : circAt c d = -1 := by
  unfold circAt
  have : ((List.range c.length).find? fun i => decide (0 ≤ dAt d i) && circS c i) = none := by
    rw [List.find?_range_eq_none]
    intro i hi
    rw [h i hi]; rfl
  rw [this]; rfl
theorem circ_some {c : List Ins} {d : List Int} {k : Nat} (h : NoC c d k) (hk : k < c.length) (h0 : 0 ≤ dAt d k) (h1 : circS c k = true) : circAt c d = k := by
  unfold circAt
  have : ((List.range c.length).find? fun i => decide (0 ≤ dAt d i) && circS c i) = some k := by
    rw [List.find?_range_eq_some]
    refine ⟨by rw [decide_eq_true h0, h1]; rfl, List.mem_range.2 hk, fun j hj => by rw [h j hj]; rfl⟩
  rw [this]; rfl
theorem free_jump {c : List Ins} {k j : Nat} (h : (atI c j).op = 1) : freeS c (k + 1) j = freeS c k (atI c j).a.toNat := if_pos h
theorem free_bool {c : List Ins} {k j : Nat} (h : (atI c j).op = 5) : freeS c (k + 1) j = freeS c k (j + 1) := (if_neg (by omega)).trans (if_pos h)
theorem free_no {c : List Ins} {k j : Nat} (h : (atI c j).op ≠ 1) (h' : (atI c j).op ≠ 5) : freeS c (k + 1) j = false := (if_neg h).trans (if_neg h')
/-- On the way from place k: at j behind nn free steps. -/
def Onw (c : List Ins) (d : List Int) (k nn j : Nat) : Prop := nn ≤ c.length + 1 ∧ j < c.length ∧ 0 ≤ dAt d j ∧ circS c k = freeS c (c.length + 1 - nn) j
theorem Onw.zero {c : List Ins} {d : List Int} {k : Nat} (hk : k < c.length) (h0 : 0 ≤ dAt d k) : Onw c d k 0 k := ⟨by omega, hk, h0, rfl⟩
/-- All places that are met fit, and all code is right. -/
structure AllF (c : List Ins) (d : List Int) : Prop where
  len : d.length = c.length
  right : AllR c
  fit : ∀ i, i < c.length → 0 ≤ dAt d i → FitAt c d i
theorem Onw.jump {c : List Ins} {d : List Int} {k nn j : Nat} (h : Onw c d k nn j) (hf : AllF c d) (hn : nn ≤ c.length) (ho : (atI c j).op = 1) : ∃ q : Nat, (atI c j).a = (q : Int) ∧ Onw c d k (nn + 1) q := by
  obtain ⟨h1, h2, h3, h4⟩ := h
  obtain ⟨a, b⟩ := (free_step hf.len (hf.right j h2) (hf.fit j h2 h3)).1 ho
  refine ⟨(atI c j).a.toNat, by omega, by omega, b.1, b.2, ?_⟩
  rw [h4, show c.length + 1 - nn = (c.length + 1 - (nn + 1)) + 1 by omega, free_jump ho]
theorem Onw.bool {c : List Ins} {d : List Int} {k nn j : Nat} (h : Onw c d k nn j) (hf : AllF c d) (hn : nn ≤ c.length) (ho : (atI c j).op = 5) : Onw c d k (nn + 1) (j + 1) := by
  obtain ⟨h1, h2, h3, h4⟩ := h
  obtain ⟨a, b⟩ := (free_step hf.len (hf.right j h2) (hf.fit j h2 h3)).2 ho
  refine ⟨by omega, a, b, ?_⟩
  rw [h4, show c.length + 1 - nn = (c.length + 1 - (nn + 1)) + 1 by omega, free_bool ho]
theorem Onw.no {c : List Ins} {d : List Int} {k nn j : Nat} (h : Onw c d k nn j) (hn : nn ≤ c.length) (h1 : (atI c j).op ≠ 1) (h5 : (atI c j).op ≠ 5) : circS c k = false := by
  rw [h.2.2.2, show c.length + 1 - nn = (c.length + 1 - (nn + 1)) + 1 by omega, free_no h1 h5]
theorem Onw.yes {c : List Ins} {d : List Int} {k nn j : Nat} (h : Onw c d k nn j) (hn : ¬ nn ≤ c.length) : circS c k = true := by
  rw [h.2.2.2, show c.length + 1 - nn = 0 by omega]; rfl

set_option maxHeartbeats 2000000 in
theorem circle_st {w0 w : World} {x : Fx} {d : List Int} {g : List Bool} {m : Nat} {K : Nat → Prop} {cs : List InsV} (h : St w0 w x d g m K) (hcode : CodeIn w0 x.A cs) (hl : cs.length = x.n) (hn : (x.n : Int) ≤ 8192) (hF : AllF (insL cs) d) :
    Calls Try.prog 28 #[.pointer (some ⟨x.wb, 0, none⟩)] w (Ret (.int .i64 (circAt (insL cs) d)) w) := by
  have hlc : (insL cs).length = x.n := by rw [insL_length, hl]
  obtain ⟨k0, k1, k2, dl, dcell, wlt, dlt⟩ := h.cells
  have hcw : CodeIn w x.A cs := hcode.below h.low (Nat.le_refl _)
  clear h hcode k2
  have HC := Lib.hid hcw
  have HF := Lib.hid hF
  have HL := Lib.hid hl
  have HLC := Lib.hid hlc
  have HD := Lib.hid dcell
  clear hcw hF hl hlc dcell dl
  obtain ⟨A, n, cc, wb, db, dc, base, sb, bm⟩ := x
  simp only at k0 k1 wlt dlt hn HC HL HLC HD
  go_enter Try.func28, Try.ntmps28
  go_wp2_with fail
  go_loop [12, 3, 4, 5, 6] (fun i _ _ _ _ => ∃ k : Nat, k ≤ n ∧ i = .int .i64 k ∧ NoC (insL cs) d k) (fun i _ _ _ _ => n - (intOf i).toNat)
  case atStart => exact ⟨0, Nat.zero_le _, rfl, NoC.zero⟩
  case round =>
    obtain ⟨k, hk, rfl, hno⟩ := hrel
    have NO := Lib.hid hno
    clear hno
    by_cases hlt : k < n
    · have dk := HD.out k hlt
      obtain ⟨b, off, hA, _, hcell⟩ := HC.out (by have := HL.out; omega)
      subst hA
      have CE := Lib.hid hcell
      clear hcell
      by_cases h0 : 0 ≤ dAt d k
      · have H0 := Lib.hid h0
        have hge : decide (0 ≤ dAt d k) = true := decide_eq_true h0
        go_wp2_with fail
        go_loop [5, 6] (fun t v => ∃ (j nn : Nat), t = .int .i64 j ∧ v = .int .i64 nn ∧ Onw (insL cs) d k nn j) (fun _ v => n + 1 - (intOf v).toNat)
        case atStart => exact ⟨k, 0, rfl, rfl, Onw.zero (by rw [HLC.out]; exact hlt) H0.out⟩
        case round =>
          obtain ⟨j, nn, rfl, rfl, hon⟩ := hrel
          have hnn := hon.1
          have hj := hon.2.1
          rw [HLC.out] at hnn hj
          have ON := Lib.hid hon
          clear hon
          by_cases hle : nn ≤ n
          · obtain ⟨q0, q1, _, _⟩ := CE.out j (by have := HL.out; omega)
            have EI := Lib.hid (atI_ins cs j)
            generalize atV cs j = v at *
            obtain ⟨op, a, int, text⟩ := v
            simp only at q0 q1
            have hle2 : nn ≤ (insL cs).length := by have := HLC.out; omega
            have LE2 := Lib.hid hle2
            clear hle2
            by_cases h1 : op = 1
            · subst h1
              obtain ⟨q, hq, hon'⟩ := ON.out.jump HF.out LE2.out (by rw [EI.out]; rfl)
              rw [EI.out] at hq
              have hq' : a = (q : Int) := hq
              subst hq'
              have ON' := Lib.hid hon'
              have q0' : w.cell? ⟨b, off + j * 4, none⟩ = some (.int .u8 1) := q0
              clear hq hon' q0
              go_wp2_with fail
              go_round
              case rel => exact ⟨q, nn + 1, rfl, by go_num, ON'.out⟩
              case measure => simp [intOf]; omega
            · by_cases h5 : op = 5
              · subst h5
                have ON' := Lib.hid (ON.out.bool HF.out LE2.out (by rw [EI.out]; rfl))
                have q0' : w.cell? ⟨b, off + j * 4, none⟩ = some (.int .u8 5) := q0
                clear q0
                go_wp2_with fail
                go_round
                case rel => exact ⟨j + 1, nn + 1, by go_num, by go_num, ON'.out⟩
                case measure => simp [intOf]; omega
              · have t1 : ((op : Int) == 1) = false := beq_eq_false_iff_ne.2 (by omega)
                have t5 : ((op : Int) == 5) = false := beq_eq_false_iff_ne.2 (by omega)
                have hfin := Lib.hid (NO.out.succ (show (decide (0 ≤ dAt d k) && circS (insL cs) k) = false by rw [ON.out.no LE2.out (by rw [EI.out]; exact h1) (by rw [EI.out]; exact h5)]; simp))
                clear h1 h5
                go_wp2_with fail
                go_round
                case rel => exact ⟨k + 1, by omega, by go_num, hfin.out⟩
                case measure => simp [intOf]; omega
          · have E := Lib.hid (circ_some NO.out (by rw [HLC.out]; exact hlt) H0.out (ON.out.yes (by have := HLC.out; omega)))
            go_wp2_with fail
            go_ret
            exact ⟨ret_int E.out.symm, rfl⟩
      · have hge : decide (0 ≤ dAt d k) = false := decide_eq_false h0
        have hfin := Lib.hid (NO.out.succ (show (decide (0 ≤ dAt d k) && circS (insL cs) k) = false by rw [hge]; rfl))
        go_wp2_with fail
        refine wp_loop_rounds 1 ?_
        rw [rounds_succ]
        go_wp2_with fail
        go_round
        case rel => exact ⟨k + 1, by omega, by go_num, hfin.out⟩
        case measure => simp [intOf]; omega
    · have E := Lib.hid (circ_none (c := insL cs) (d := d) (by rw [HLC.out, show n = k by omega]; exact NO.out))
      go_wp2_with fail
      go_ret
      exact ⟨ret_int E.out.symm, rfl⟩
end Go.Proofs.Ytjfdokoigkdciaa
namespace Go.Proofs.Ytjfdokoigkdciaa
open Go.RowKit Go.Maps

theorem infoI : (Try.prog.info? 3).map (fun i => (i.zero, i.size, i.bytes)) = some (some (.int .i64 0), 1, 8) := by kernel_rfl
/-- look answers no walk. -/
theorem look_arg (A : Option Addr) (n cc : Nat) (p : Int) (hp : p < 0 ∨ 100 < p) (w : World) :
    Calls Try.prog 14 #[.slice A n cc, .int .i64 p] w (Ret (.tuple #[.pointer none, .int .i64 0, .int .i64 1]) w) := by
  rcases hp with hp | hp
  · have h1 : decide (p < 0) = true := decide_eq_true hp
    go_enter Try.func14, Try.ntmps14
    go_wp2_with fail
    go_ret3
    exact ⟨rfl, rfl⟩
  · have h1 : decide (p < 0) = false := decide_eq_false (by omega)
    have h2 : decide (100 < p) = true := decide_eq_true hp
    go_enter Try.func14, Try.ntmps14
    go_wp2_with fail
    go_ret3
    exact ⟨rfl, rfl⟩
theorem look_long (A : Option Addr) (n cc : Nat) (p : Int) (hn : n ≤ 9223372036854775807) (hn2 : 8192 < n) (hp0 : 0 ≤ p) (hp1 : p ≤ 100) (w : World) :
    Calls Try.prog 14 #[.slice A n cc, .int .i64 p] w (Ret (.tuple #[.pointer none, .int .i64 0, .int .i64 2]) w) := by
  have h1 : decide (p < 0) = false := decide_eq_false (by omega)
  have h2 : decide (100 < p) = false := decide_eq_false (by omega)
  have h3 : decide ((8192 : Int) < (n : Int)) = true := decide_eq_true (by omega)
  go_enter Try.func14, Try.ntmps14
  go_wp2_with fail
  go_ret3
  exact ⟨rfl, rfl⟩
theorem look_empty (A : Option Addr) (cc : Nat) (p : Int) (hp0 : 0 ≤ p) (hp1 : p ≤ 100) (w : World) :
    Calls Try.prog 14 #[.slice A 0 cc, .int .i64 p] w (Ret (.tuple #[.pointer none, .int .i64 0, .int .i64 3]) w) := by
  have h1 : decide (p < 0) = false := decide_eq_false (by omega)
  have h2 : decide (100 < p) = false := decide_eq_false (by omega)
  go_enter Try.func14, Try.ntmps14
  go_wp2_with fail
  go_ret3
  exact ⟨rfl, rfl⟩
/-- The walk as it is made: depths all 0. -/
def Made (w0 wx : World) (A : Option Addr) (n cc : Nat) (v : Value) : Prop :=
  ∃ (x : Fx) (K : Nat → Prop), v = .pointer (some ⟨x.wb, 0, none⟩) ∧ x.A = A ∧ x.n = n ∧ x.cc = cc ∧ WS wx x (.slice none 0 0) 0 [] 0 (List.replicate n 0) ∧ Below w0.heap.size w0 wx ∧ K x.db ∧ K x.sb ∧ K x.bm ∧ (∀ k, K k → w0.heap.size ≤ k ∧ k < wx.heap.size) ∧ x.dc = n
theorem dAt_rep0 (n j : Nat) : dAt (List.replicate n 0) j = 0 := by
  unfold dAt
  by_cases h : j < n
  · rw [List.getD, List.getElem?_eq_getElem (by simpa using h)]; simp
  · rw [List.getD, List.getElem?_eq_none (by simp; omega)]; rfl
theorem made_ws {w2 : World} {A : Option Addr} {n cc db base sb bm : Nat} (hp : HP w2 base sb bm (.slice none 0 0) 0 [] 0) (hr : w2.rowIs db 3 n (fun _ => .int .i64 0)) (n3 : db ≠ sb) (n4 : db ≠ bm) (cells : Array Value)
    (hc : cells = #[.slice A n cc, .slice (some ⟨db, 0, none⟩) n n, .pointer (some ⟨sb, 0, none⟩)]) (t : TypeId) :
    WS (w2.alloc (.cells cells t)) ⟨A, n, cc, w2.heap.size, db, n, base, sb, bm⟩ (.slice none 0 0) 0 [] 0 (List.replicate n 0) := by
  subst hc
  have hb : Below w2.heap.size w2 (w2.alloc (.cells #[.slice A n cc, .slice (some ⟨db, 0, none⟩) n n, .pointer (some ⟨sb, 0, none⟩)] t)) := (Below.refl _ _).alloc (Nat.le_refl _) _
  exact {
    k0 := by simp
    k1 := by simp
    k2 := by simp
    dl := by simp
    dcell := fun j hj => by rw [dAt_rep0]; exact (hb.cell (p := ⟨db, j, none⟩) hr.lt).trans (hr.cell hj)
    dfz := fun j => (hb.frozen (p := ⟨db, j, none⟩) hr.lt).trans (hr.frozen j)
    hp := hp.below hb
    wlt := by simp
    dlt := Nat.lt_of_lt_of_le hr.lt hb.size
    n1 := by have := hp.lt_sb; show w2.heap.size ≠ sb; omega
    n2 := by have := hp.lt_bm; show w2.heap.size ≠ bm; omega
    n3 := n3
    n4 := n4
    n5 := by have := hr.lt; show w2.heap.size ≠ db; omega
    n6 := fun g h => by simp [Value.ownBlock] at h }
/-- The depths while they are laid. -/
def mkD (n k : Nat) : List Int := List.replicate k (-1) ++ List.replicate (n - k) 0
theorem mkD_set (n k : Nat) (h : k < n) : (mkD n k).set k (-1) = mkD n (k + 1) := by
  unfold mkD
  rw [List.set_append_right _ _ (by simp), List.length_replicate, Nat.sub_self, show n - k = (n - (k + 1)) + 1 by omega, List.replicate_succ, List.set_cons_zero, List.replicate_succ', List.append_assoc]
  rfl
theorem mkD_zero (n : Nat) : mkD n 0 = List.replicate n 0 := by simp [mkD]
theorem mkD_all (n : Nat) : mkD n n = List.replicate n (-1) := by simp [mkD]
/-- The first k instructions are right. -/
def RightTo (c : List Ins) (k : Nat) : Prop := ∀ j, j < k → rightI (atI c j) c.length = true
theorem RightTo.zero {c : List Ins} : RightTo c 0 := fun j h => absurd h (by omega)
theorem RightTo.succ {c : List Ins} {k : Nat} (h : RightTo c k) (hk : rightI (atI c k) c.length = true) : RightTo c (k + 1) := fun j hj => by
  by_cases e : j = k
  · subst e; exact hk
  · exact h j (by omega)
theorem bad_some {c : List Ins} {k : Nat} (h : RightTo c k) (hk : k < c.length) (hb : rightI (atI c k) c.length = false) : badAt c = some k := by
  unfold badAt
  rw [List.find?_range_eq_some]
  exact ⟨by rw [hb]; rfl, List.mem_range.2 hk, fun j hj => by rw [h j hj]; rfl⟩
theorem bad_none {c : List Ins} (h : AllR c) : badAt c = none := by
  unfold badAt
  rw [List.find?_range_eq_none]
  exact fun i hi => by rw [h i hi]; rfl
theorem look_bad {c : List Ins} {p : Int} {k : Nat} (hp0 : 0 ≤ p) (hp1 : p ≤ 100) (hn : c.length ≤ 8192) (hk : k < c.length) (hb : badAt c = some k) : lookS c p = ⟨0, 0, k, [], 3⟩ := by
  unfold lookS
  rw [if_neg (by omega), if_neg (by omega), if_neg (by omega), hb]
theorem look_wrong {c : List Ins} {p : Int} (hp0 : 0 ≤ p) (hp1 : p ≤ 100) (hn : c.length ≤ 8192) (hn0 : 0 < c.length) (hb : badAt c = none) (hw : 0 ≤ wrongS c) : lookS c p = ⟨0, 0, wrongS c, [], 140⟩ := by
  unfold lookS
  rw [if_neg (by omega), if_neg (by omega), if_neg (by omega), hb]
  exact if_pos hw
theorem look_good {c : List Ins} {p : Int} (hp0 : 0 ≤ p) (hp1 : p ≤ 100) (hn : c.length ≤ 8192) (hn0 : 0 < c.length) (hb : badAt c = none) (hw : ¬ 0 ≤ wrongS c) : lookS c p = ⟨slotsTo c p c.length, stackTo (fitsS c).1 c.length, 0, (fitsS c).1, 0⟩ := by
  unfold lookS
  rw [if_neg (by omega), if_neg (by omega), if_neg (by omega), hb]
  exact if_neg hw
/-- What look answers. -/
def LPost (c : List Ins) (p : Int) (w : World) (A : Option Addr) (n cc : Nat) (e : Ending) (w' : World) : Prop :=
  ((lookS c p).e ≠ 0 ∧ (lookS c p).d = [] ∧ (lookS c p).slots = 0 ∧ (lookS c p).stack = 0 ∧ e = .returned (.tuple #[.pointer none, .int .i64 (lookS c p).wrong, .int .i64 (lookS c p).e]) ∧ Below w.heap.size w w') ∨
  (lookS c p = ⟨slotsTo c p c.length, stackTo (fitsS c).1 c.length, 0, (fitsS c).1, 0⟩ ∧ AllR c ∧ ¬ 0 ≤ wrongS c ∧ ∃ (x : Fx) (g : List Bool) (m : Nat) (K : Nat → Prop), e = .returned (.tuple #[.pointer (some ⟨x.wb, 0, none⟩), .int .i64 0, .int .i64 0]) ∧
    St w w' x (fitsS c).1 g m K ∧ x.A = A ∧ x.n = n ∧ x.cc = cc ∧ x.dc = n)
set_option maxRecDepth 100000 in
set_option maxHeartbeats 8000000 in
theorem look_more {w : World} {A : Option Addr} {n cc : Nat} {cs : List InsV} (hcode : CodeIn w A cs) (hl : cs.length = n) (hok : OkC cs) (hn : (n : Int) ≤ 8192) (hn0 : 0 < n) (p : Int) (hp0 : 0 ≤ p) (hp1 : p ≤ 100) :
    Calls Try.prog 14 #[.slice A n cc, .int .i64 p] w (LPost (insL cs) p w A n cc) := by
  have h1 : decide (p < 0) = false := decide_eq_false (by omega)
  have h2 : decide (100 < p) = false := decide_eq_false (by omega)
  have h3 : decide ((8192 : Int) < (n : Int)) = false := decide_eq_false (by omega)
  have h4 : ((n : Int) == 0) = false := beq_eq_false_iff_ne.2 (by omega)
  have hmk := run_make_row' (P := Try.prog) 41 3 (.int .i64 0) 8 Try.underlying41 infoI rfl .i64 .i64 n (by omega) (by omega)
  have HC := Lib.hid hcode
  have HL := Lib.hid hl
  have HO := Lib.hid hok
  have HLC := Lib.hid (show (insL cs).length = n by rw [insL_length, hl])
  clear hcode hl hok
  go_enter Try.func14, Try.ntmps14
  go_upto_region 7 with fail
  go_cut [7] (fun s7 wx => Made w wx A n cc s7)
  case first =>
    go_region_with (first | (go_at_call 25; refine (new_any _).mono ?_; rintro e w2 ⟨rfl, hp2, hb2⟩))
    all_goals go_wp2_with fail
    all_goals go_meet
    · clear hmk
      have e1 : (w.alloc (Obj.cells (madeCells #[Value.int IntKind.i64 0] n) 3)).drew.heap.size = w.heap.size + 1 := by simp
      have hr : w2.rowIs w.heap.size 3 n (fun _ => .int .i64 0) := (World.rowIs_made w (.int .i64 0) n 3).of_block (hb2.block w.heap.size (by rw [e1]; omega))
      have hz := hb2.size
      rw [e1] at hp2 hb2 hz
      refine ⟨⟨A, n, cc, w2.heap.size, w.heap.size, n, w.heap.size + 1 + 2, w.heap.size + 1 + 1, w.heap.size + 1⟩, fun k => k = w.heap.size ∨ k = w.heap.size + 1 + 1 ∨ k = w.heap.size + 1, rfl, rfl, rfl, rfl, made_ws hp2 hr (by omega) (by omega) _ rfl _, ?_, .inl rfl, .inr (.inl rfl), .inr (.inr rfl), ?_, rfl⟩
      · exact ((((Below.refl _ w).alloc (Nat.le_refl _) _).drew).trans (hb2.mono (by omega))).alloc (by omega) _
      · rintro k (rfl | rfl | rfl) <;> (simp; have := hp2.lt_sb; omega)
    · clear hmk
      have e1 : w.drew.heap.size = w.heap.size := rfl
      have hz := hb2.size
      rw [e1] at hp2 hb2 hz
      have hr := World.rowIs_made w2 (.int .i64 0) n 3
      have hp3 := hp2.below ((Below.refl _ w2).alloc (Nat.le_refl _) (.cells (madeCells #[.int .i64 0] n) 3))
      have q1 := hp2.lt_sb
      have q2 := hp2.lt_bm
      have := made_ws (A := A) (cc := cc) hp3 hr (by omega) (by omega) _ rfl 57
      have e2 : (w2.alloc (Obj.cells (madeCells #[Value.int IntKind.i64 0] n) 3)).heap.size = w2.heap.size + 1 := by simp
      rw [e2] at this
      refine ⟨⟨A, n, cc, w2.heap.size + 1, w2.heap.size, n, w.heap.size + 2, w.heap.size + 1, w.heap.size⟩, fun k => k = w2.heap.size ∨ k = w.heap.size + 1 ∨ k = w.heap.size, rfl, rfl, rfl, rfl, this, ?_, .inl rfl, .inr (.inl rfl), .inr (.inr rfl), ?_, rfl⟩
      · exact ((((Below.refl _ w).drew).trans hb2).alloc (by omega) _).alloc (by simp; omega) _
      · rintro k (rfl | rfl | rfl) <;> (simp; omega)
  case rest =>
    obtain ⟨x, K, rfl, rfl, rfl, rfl, hw, hb, k1, k2, k3, hK, hdc⟩ := hcut
    have HW := Lib.hid hw
    have HB := Lib.hid hb
    have HK1 := Lib.hid k1
    have HK2 := Lib.hid k2
    have HK3 := Lib.hid k3
    have HK := Lib.hid hK
    have HDC := Lib.hid hdc
    clear hw hb k1 k2 k3 hK hdc hmk
    go_wp2_with fail
    go_loopw [35, 8, 9] (fun i _ _ wr => ∃ k : Nat, k ≤ x.n ∧ i = .int .i64 k ∧ RightTo (insL cs) k ∧ WS wr x (.slice none 0 0) 0 [] 0 (mkD x.n k) ∧ Below w.heap.size w wr ∧ wc.heap.size ≤ wr.heap.size) (fun i _ _ _ => x.n - (intOf i).toNat)
    case atStart => exact ⟨0, Nat.zero_le _, rfl, RightTo.zero, by rw [mkD_zero]; exact HW.out, HB.out, Nat.le_refl _⟩
    case round =>
      obtain ⟨k, hk, rfl, hrt, hw, hb, hsz⟩ := hrel
      have HR := Lib.hid hrt
      have HW2 := Lib.hid hw
      have HB2 := Lib.hid hb
      clear hrt hw hb
      by_cases hlt : k < x.n
      · obtain ⟨b, off, hA, hbl, hcell⟩ := HC.out (by have := HL.out; omega)
        obtain ⟨q0, q1, q2, q3⟩ := hcell k (by have := HL.out; omega)
        have hkk := fun o => HB2.out.cell (p := ⟨b, o, none⟩) hbl
        have q0 := (hkk _).trans q0
        have q1 := (hkk _).trans q1
        have q2 := (hkk _).trans q2
        have q3 := (hkk _).trans q3
        obtain ⟨ok1, ok2⟩ := HO.out k (by have := HL.out; omega)
        have EI := Lib.hid (atI_ins cs k)
        rw [hA]
        have RA := Lib.hid (fun w => right_any (atV cs k) x.n ok1 ok2 w)
        generalize atV cs k = v at *
        obtain ⟨op, a, int, text⟩ := v
        simp only at q0 q1 q2 q3
        clear hkk hcell ok1 ok2
        go_wp2_with fail
        refine (RA.out _).mono ?_
        rintro e w2 ⟨rfl, h2⟩
        have hbx : Below wr.heap.size wr w2 := bthen ((Below.refl _ wr).alloc (Nat.le_refl _) _) h2
        have HS2 := Lib.hid (HW2.out.below hbx)
        have HB3 := Lib.hid (bthen' HB2.out hbx (Nat.le_refl _))
        have hz2 := hbx.size
        have HX := Lib.hid hbx
        clear hbx h2
        cases hrb : rightI (InsV.ins ⟨op, a, int, text⟩) x.n with
        | false =>
          have E := Lib.hid (look_bad (p := p) hp0 hp1 (by have := HLC.out; omega) (by have := HLC.out; omega) (bad_some HR.out (by have := HLC.out; omega) (by rw [HLC.out, EI.out]; exact hrb)))
          clear hrb
          go_wp2_with fail
          go_ret3
          refine .inl ?_
          rw [E.out]
          exact ⟨by simp, rfl, rfl, rfl, rfl, HB3.out⟩
        | true =>
          have k0 := HS2.out.k0
          have k1 := HS2.out.k1
          have dq := HS2.out.dcell k hlt
          have df := HS2.out.dfz k
          have HRT := Lib.hid (HR.out.succ (by rw [HLC.out, EI.out]; exact hrb))
          have wlt := HS2.out.wlt
          have dlt := HS2.out.dlt
          clear hrb
          go_wp2_with fail
          go_roundw
          case rel =>
            have hw3 := HS2.out.store k hlt (-1)
            rw [mkD_set _ _ hlt] at hw3
            exact ⟨k + 1, by omega, by go_num, HRT.out, hw3, HB3.out.setCell (by have := (HK.out _ HK1.out).1; exact this) _, by simp; omega⟩
          case measure => simp [intOf]; omega
      · have hkn : k = x.n := by omega
        have hst : St w wr x (List.replicate x.n (-1)) (g0S x.n) 0 K := ⟨_, _, _, _, by have := HW2.out; rwa [hkn, mkD_all] at this, fun j _ h => absurd h (by simp), (fun t h => by cases h), sync_start _, by omega, HB2.out, ⟨HK1.out, HK2.out, HK3.out, fun g h => by simp [Value.ownBlock] at h⟩, fun k hk => ⟨(HK.out k hk).1, by have := (HK.out k hk).2; omega⟩⟩
        have hR : AllR (insL cs) := fun i hi => HR.out i (by have := HLC.out; omega)
        have HST := Lib.hid hst
        have HRR := Lib.hid hR
        have HBN := Lib.hid (bad_none hR)
        clear hst hR hkn
        go_wp2_with fail
        refine (all_st HST.out HC.out HL.out HO.out hn hn0 HRR.out).mono ?_
        rintro e w2 ⟨rfl, t2, g2, m2, K2, s2⟩
        have S2 := Lib.hid s2
        clear s2 t2
        obtain ⟨f1, f2, f3, f4, f5⟩ := fits_spec HRR.out (by have := HLC.out; omega)
        have F4 := Lib.hid f4
        have F1 := Lib.hid f1
        have F5 := f5
        clear f1 f2 f3 f4 f5
        have hnl := Lib.hid (show (insL cs).length ≤ 8192 by have := HLC.out; omega)
        have hn0l := Lib.hid (show 0 < (insL cs).length by have := HLC.out; omega)
        by_cases hneg : (fitsS (insL cs)).2 < 0
        · have W := Lib.hid (show wrongS (insL cs) = circAt (insL cs) (fitsS (insL cs)).1 from if_pos hneg)
          have AF := Lib.hid (show AllF (insL cs) (fitsS (insL cs)).1 from ⟨F1.out, HRR.out, F4.out hneg⟩)
          have hd1 : decide ((fitsS (insL cs)).2 < 0) = true := decide_eq_true hneg
          have F1' := Lib.hid F5
          clear hneg F5
          go_wp2_with fail
          refine (circle_st S2.out HC.out HL.out hn AF.out).mono ?_
          rintro e w3 ⟨rfl, rfl⟩
          by_cases hc : 0 ≤ circAt (insL cs) (fitsS (insL cs)).1
          · have hd2 : decide (0 ≤ circAt (insL cs) (fitsS (insL cs)).1) = true := decide_eq_true hc
            have E := Lib.hid (look_wrong (p := p) hp0 hp1 hnl.out hn0l.out HBN.out (by rw [W.out]; exact hc))
            clear hc
            go_wp2_with fail
            go_ret3
            refine .inl ?_
            rw [E.out, W.out]
            exact ⟨by simp, rfl, rfl, rfl, rfl, S2.out.low⟩
          · have hd2 : decide (0 ≤ circAt (insL cs) (fitsS (insL cs)).1) = false := decide_eq_false hc
            have NW := Lib.hid (show ¬ 0 ≤ wrongS (insL cs) by rw [W.out]; exact hc)
            have E := Lib.hid (look_good (p := p) hp0 hp1 hnl.out hn0l.out HBN.out NW.out)
            clear hc
            go_wp2_with fail
            go_ret3
            exact .inr ⟨E.out, HRR.out, (by have := NW.out; omega), x, g2, m2, K2, rfl, S2.out, rfl, rfl, rfl, HDC.out⟩
        · have W := Lib.hid (show wrongS (insL cs) = (fitsS (insL cs)).2 from if_neg hneg)
          have hd1 : decide ((fitsS (insL cs)).2 < 0) = false := decide_eq_false hneg
          have hd2 : decide (0 ≤ (fitsS (insL cs)).2) = true := decide_eq_true (by omega)
          have E := Lib.hid (look_wrong (p := p) hp0 hp1 hnl.out hn0l.out HBN.out (by rw [W.out]; omega))
          have F1' := Lib.hid F5
          clear hneg F5
          go_wp2_with fail
          go_ret3
          refine .inl ?_
          rw [E.out, W.out]
          exact ⟨by simp, rfl, rfl, rfl, rfl, S2.out.low⟩
end Go.Proofs.Ytjfdokoigkdciaa
namespace Go.Proofs.Ytjfdokoigkdciaa
open Go.RowKit Go.Maps

theorem lookS_arg {c : List Ins} {p : Int} (h : p < 0 ∨ 100 < p) : lookS c p = ⟨0, 0, 0, [], 1⟩ := if_pos h
theorem lookS_long {c : List Ins} {p : Int} (h : ¬ (p < 0 ∨ 100 < p)) (h2 : 8192 < c.length) : lookS c p = ⟨0, 0, 0, [], 2⟩ := (if_neg h).trans (if_pos h2)
theorem lookS_empty {c : List Ins} {p : Int} (h : ¬ (p < 0 ∨ 100 < p)) (h2 : c.length = 0) : lookS c p = ⟨0, 0, 0, [], 3⟩ := (if_neg h).trans ((if_neg (by omega)).trans (if_pos h2))
theorem look_any {w : World} {A : Option Addr} {n cc : Nat} {cs : List InsV} (hcode : CodeIn w A cs) (hl : cs.length = n) (hok : OkC cs) (hn : n ≤ 9223372036854775807) (p : Int) :
    Calls Try.prog 14 #[.slice A n cc, .int .i64 p] w (LPost (insL cs) p w A n cc) := by
  have hlc : (insL cs).length = n := by rw [insL_length, hl]
  by_cases hp : p < 0 ∨ 100 < p
  · refine (look_arg A n cc p hp w).mono ?_
    rintro e w' ⟨rfl, rfl⟩
    refine .inl ?_
    rw [lookS_arg hp]
    exact ⟨by simp, rfl, rfl, rfl, rfl, Below.refl _ _⟩
  · by_cases h8 : 8192 < n
    · refine (look_long A n cc p hn h8 (by omega) (by omega) w).mono ?_
      rintro e w' ⟨rfl, rfl⟩
      refine .inl ?_
      rw [lookS_long hp (by omega)]
      exact ⟨by simp, rfl, rfl, rfl, rfl, Below.refl _ _⟩
    · by_cases h0 : n = 0
      · subst h0
        refine (look_empty A cc p (by omega) (by omega) w).mono ?_
        rintro e w' ⟨rfl, rfl⟩
        refine .inl ?_
        rw [lookS_empty hp hlc]
        exact ⟨by simp, rfl, rfl, rfl, rfl, Below.refl _ _⟩
      · exact look_more hcode hl hok (by omega) (by omega) p (by omega) (by omega)
def CPost (S : Said) (w : World) (e : Ending) (w' : World) : Prop :=
  e = .returned (.tuple #[.int .i64 S.slots, .int .i64 S.stack, .int .i64 S.wrong, .int .i64 S.e]) ∧ Below w.heap.size w w'
theorem slots_two {c : List Ins} {p : Int} {k : Nat} (h : aK (atI c k).op = 2) : slotsTo c p (k + 1) = max (slotsTo c p k) ((atI c k).a + 1) := if_pos h
theorem slots_no {c : List Ins} {p : Int} {k : Nat} (h : aK (atI c k).op ≠ 2) : slotsTo c p (k + 1) = slotsTo c p k := if_neg h
theorem slots_bd {c : List Ins} {p : Int} (hr : AllR c) (h0 : 0 ≤ p) (h1 : p ≤ 100) : ∀ k, k ≤ c.length → 0 ≤ slotsTo c p k ∧ slotsTo c p k ≤ 100 := by
  intro k
  induction k with
  | zero => intro _; exact ⟨h0, h1⟩
  | succ k ih =>
    intro hk
    have := ih (by omega)
    by_cases h : aK (atI c k).op = 2
    · rw [slots_two h]
      have ha := rightI_a (hr k (by omega))
      have : topK (atI c k).op c.length = 100 := by unfold topK; rw [h]; rfl
      omega
    · rw [slots_no h]; exact this
theorem two_B (op : Nat) (h : aK op = 2) : (aB op == 115) = true := by unfold aB; rw [h]; rfl
theorem not_two_B (op : Nat) (h : aK op ≠ 2) : (aB op == 115) = false := by
  unfold aB
  by_cases h1 : aK op = 1
  · rw [if_pos h1]; rfl
  · rw [if_neg h1, if_neg h]; split <;> rfl
theorem lpost_p {c : List Ins} {p : Int} (h : lookS c p = ⟨slotsTo c p c.length, stackTo (fitsS c).1 c.length, 0, (fitsS c).1, 0⟩) : 0 ≤ p ∧ p ≤ 100 ∧ 0 < c.length ∧ c.length ≤ 8192 := by
  have he : (lookS c p).e = 0 := by rw [h]
  by_cases hp : p < 0 ∨ 100 < p
  · rw [lookS_arg hp] at he; cases he
  · by_cases h8 : 8192 < c.length
    · rw [lookS_long hp h8] at he; cases he
    · by_cases h0 : c.length = 0
      · rw [lookS_empty hp h0] at he; cases he
      · omega
set_option maxRecDepth 100000 in
set_option maxHeartbeats 4000000 in
theorem check_any {w : World} {A : Option Addr} {n cc : Nat} {cs : List InsV} (hcode : CodeIn w A cs) (hl : cs.length = n) (hok : OkC cs) (hn : n ≤ 9223372036854775807) (p : Int) :
    Calls Try.prog 9 #[.slice A n cc, .int .i64 p] w (CPost (lookS (insL cs) p) w) := by
  have HC := Lib.hid hcode
  have HL := Lib.hid hl
  have HO := Lib.hid hok
  have HLC := Lib.hid (show (insL cs).length = n by rw [insL_length, hl])
  clear hcode hl hok
  go_enter Try.func9, Try.ntmps9
  go_wp2_with fail
  refine (look_any HC.out HL.out HO.out hn p).mono ?_
  rintro e w1 (⟨h1, h2, h3, h4, rfl, hb⟩ | ⟨hS, hR, hW, x, g, m, K, rfl, s1, ha, hnn, hcc, hdc⟩)
  · have E := Lib.hid (show lookS (insL cs) p = ⟨0, 0, (lookS (insL cs) p).wrong, [], (lookS (insL cs) p).e⟩ by
      generalize lookS (insL cs) p = S at *
      obtain ⟨a, b, c, d, e⟩ := S
      simp only at h2 h3 h4
      subst h2 h3 h4
      rfl)
    generalize (lookS (insL cs) p).e = ee at *
    generalize (lookS (insL cs) p).wrong = ww at *
    have hne : (ee != 0) = true := by simpa using h1
    clear h1 h2 h3 h4
    go_wp2_with fail
    refine bodyPost_ret (v := .tuple #[.int .i64 0, .int .i64 0, .int .i64 ww, .int .i64 ee]) (by simp [results, Try.results9, go_sem]) rfl ?_
    rw [E.out]
    exact ⟨rfl, hb⟩
  · subst hnn
    obtain ⟨hp0, hp1, hn0, hn8⟩ := lpost_p hS
    have SB := Lib.hid (slots_bd hR hp0 hp1)
    have hS2 := s1
    obtain ⟨k0, k1, k2, dl, dcell, wlt, dlt⟩ := s1.cells
    have HD := Lib.hid dcell
    have HS := Lib.hid hS
    have HRR := Lib.hid hR
    have S1 := Lib.hid s1
    have hn8' : x.n ≤ 8192 := by have := HLC.out; omega
    have DM := Lib.hid (fits_spec hR hn0).2.2.1
    have DL := Lib.hid dl
    clear hS hR hW s1 hS2 dcell dl k0 k2 hn0 hn8
    subst ha hcc
    go_wp2_with fail
    go_loopw [25, 9, 10, 4, 5] (fun i _ _ s t wr => ∃ k : Nat, k ≤ x.n ∧ i = .int .i64 k ∧ s = .int .i64 (slotsTo (insL cs) p k) ∧ t = .int .i64 (stackTo (fitsS (insL cs)).1 k) ∧ Below w1.heap.size w1 wr) (fun i _ _ _ _ _ => x.n - (intOf i).toNat)
    case atStart => exact ⟨0, Nat.zero_le _, rfl, rfl, rfl, Below.refl _ _⟩
    case round =>
      obtain ⟨k, hk, rfl, rfl, rfl, hb⟩ := hrel
      have HB := Lib.hid hb
      by_cases hlt : k < x.n
      · have dk := (hb.cell (p := ⟨x.db, k, none⟩) dlt).trans (HD.out k hlt)
        have k1' := (hb.cell (p := ⟨x.wb, 1, none⟩) wlt).trans k1
        obtain ⟨b, off, hA, hbl, hcell⟩ := HC.out (by have := HL.out; omega)
        obtain ⟨q0, q1, q2, q3⟩ := hcell k (by have := HL.out; omega)
        have hkk := fun o => (hb.cell (p := ⟨b, o, none⟩) (Nat.lt_of_lt_of_le hbl S1.out.low.size)).trans (S1.out.low.cell (p := ⟨b, o, none⟩) hbl)
        have q0 := (hkk _).trans q0
        have q1 := (hkk _).trans q1
        have q2 := (hkk _).trans q2
        have q3 := (hkk _).trans q3
        obtain ⟨ok1, ok2⟩ := HO.out k (by have := HL.out; omega)
        have EI := Lib.hid (atI_ins cs k)
        rw [hA]
        have hwl := hb.size
        have sb := SB.out k (by have := HLC.out; omega)
        have ra := rightI_a (HRR.out k (by have := HLC.out; omega))
        rw [atI_ins] at ra
        generalize atV cs k = v at *
        obtain ⟨op, a, int, text⟩ := v
        simp only [InsV.ins] at q0 q1 q2 q3 ok1 ra
        have KA := Lib.hid (fun w => kind_any op ok1 w)
        have dm := DM.out k (by have := DL.out; omega)
        have ST := Lib.hid (show stackTo (fitsS (insL cs)).1 (k + 1) = max (stackTo (fitsS (insL cs)).1 k) (dAt (fitsS (insL cs)).1 k) from rfl)
        generalize stackTo (fitsS (insL cs)).1 k = st at *
        generalize dAt (fitsS (insL cs)).1 k = dd at *
        have hfl : ∀ w, (Instr.field 53 (kindV op) 1).run Try.prog w = .ok (.int .u8 (aB op)) w := fun _ => by kernel_rfl
        clear hkk hcell ok2 hb
        by_cases h2 : aK op = 2
        · have hB := two_B op h2
          have htop : topK op (insL cs).length = 100 := by unfold topK; rw [h2]; rfl
          rw [htop] at ra
          have SL := Lib.hid (slots_two (c := insL cs) (p := p) (k := k) (by rw [EI.out]; exact h2))
          have SL2 := Lib.hid (show slotsTo (insL cs) p (k + 1) = max (slotsTo (insL cs) p k) (a + 1) by rw [SL.out, EI.out]; rfl)
          generalize slotsTo (insL cs) p k = sl at *
          clear h2 htop
          go_wp2_with fail
          refine (KA.out _).mono ?_
          rintro e w2 ⟨rfl, h2⟩
          have c2 := (bcell h2).1
          have hX2 : Below wr.heap.size wr w2 := bthen ((Below.refl _ wr).alloc (Nat.le_refl _) _) h2
          have HX := Lib.hid (bthen' HB.out hX2 (Nat.le_refl _))
          have k1'' := (hX2.cell (p := ⟨x.wb, 1, none⟩) (show x.wb < wr.heap.size by omega)).trans k1'
          have dk'' := (hX2.cell (p := ⟨x.db, k, none⟩) (show x.db < wr.heap.size by omega)).trans dk
          clear hX2
          go_wp2_with fail
          all_goals
            go_roundw
            case rel => exact ⟨k + 1, by omega, by go_num, int_eq (by rw [SL2.out]; first | done | omega), int_eq (by rw [ST.out]; first | done | omega), HX.out⟩
            case measure => simp [intOf]; omega
        · have hB := not_two_B op h2
          have SL := Lib.hid (slots_no (c := insL cs) (p := p) (k := k) (by rw [EI.out]; exact h2))
          generalize slotsTo (insL cs) p k = sl at *
          clear h2
          go_wp2_with fail
          refine (KA.out _).mono ?_
          rintro e w2 ⟨rfl, h2⟩
          have c2 := (bcell h2).1
          have hX2 : Below wr.heap.size wr w2 := bthen ((Below.refl _ wr).alloc (Nat.le_refl _) _) h2
          have HX := Lib.hid (bthen' HB.out hX2 (Nat.le_refl _))
          have k1'' := (hX2.cell (p := ⟨x.wb, 1, none⟩) (show x.wb < wr.heap.size by omega)).trans k1'
          have dk'' := (hX2.cell (p := ⟨x.db, k, none⟩) (show x.db < wr.heap.size by omega)).trans dk
          clear hX2
          go_wp2_with fail
          all_goals
            go_roundw
            case rel => exact ⟨k + 1, by omega, by go_num, int_eq (by rw [SL.out]; first | done | omega), int_eq (by rw [ST.out]; first | done | omega), HX.out⟩
            case measure => simp [intOf]; omega
      · have E := Lib.hid (HS.out)
        have hkn : k = (insL cs).length := by have := HLC.out; omega
        have F := Lib.hid (show lookS (insL cs) p = ⟨slotsTo (insL cs) p k, stackTo (fitsS (insL cs)).1 k, 0, (fitsS (insL cs)).1, 0⟩ by rw [HS.out, hkn])
        generalize slotsTo (insL cs) p k = sl at *
        generalize stackTo (fitsS (insL cs)).1 k = st at *
        clear hkn
        go_wp2_with fail
        refine bodyPost_ret (v := .tuple #[.int .i64 sl, .int .i64 st, .int .i64 0, .int .i64 0]) (by simp [results, Try.results9, go_sem]) rfl ?_
        rw [F.out]
        exact ⟨rfl, bthen' S1.out.low HB.out (by exact Nat.le_refl _)⟩
/-- The depths, handed back. -/
def DPost (c : List Ins) (S : Said) (w : World) (n : Nat) (e : Ending) (w' : World) : Prop :=
  (S.e ≠ 0 ∧ S.d = [] ∧ e = .returned (.tuple #[.slice none 0 0, .int .i64 S.e]) ∧ Below w.heap.size w w') ∨
  (S.e = 0 ∧ S.d = (fitsS c).1 ∧ AllR c ∧ ¬ 0 ≤ wrongS c ∧ 0 < c.length ∧ ∃ db dc : Nat, e = .returned (.tuple #[.slice (some ⟨db, 0, none⟩) n dc, .int .i64 0]) ∧ w.heap.size ≤ db ∧ db < w'.heap.size ∧ (∀ j, j < n → w'.cell? ⟨db, j, none⟩ = some (.int .i64 (dAt (fitsS c).1 j))) ∧ Below w.heap.size w w')
end Go.Proofs.Ytjfdokoigkdciaa
namespace Go.Proofs.Ytjfdokoigkdciaa
open Go.RowKit Go.Maps

def e0 : ByteArray := ⟨#[]⟩
def addsV : List InsV := [⟨26, 0, 0, e0⟩, ⟨23, 0, 1, e0⟩, ⟨36, 0, 0, e0⟩, ⟨8, 0, 0, e0⟩, ⟨28, 0, 0, e0⟩]
theorem adds_ok : OkC addsV := fun k hk => by
  have hk' : k < 5 := hk
  match k, hk' with
  | 0, _ => exact ⟨by decide, by decide⟩
  | 1, _ => exact ⟨by decide, by decide⟩
  | 2, _ => exact ⟨by decide, by decide⟩
  | 3, _ => exact ⟨by decide, by decide⟩
  | 4, _ => exact ⟨by decide, by decide⟩
def AdPost (w : World) (e : Ending) (w' : World) : Prop := ∃ b : Nat, e = .returned (.slice (some ⟨b, 0, none⟩) 5 5) ∧ CodeIn w' (some ⟨b, 0, none⟩) addsV ∧ Below w.heap.size w w'
theorem adds_look : (lookS (insL addsV) 1).slots = 1 ∧ (lookS (insL addsV) 1).stack = 2 ∧ (lookS (insL addsV) 1).wrong = 0 ∧ (lookS (insL addsV) 1).e = 0 := by decide +kernel
def longB (n : Nat) : Bool := decide (400 < n) && decide (n ≤ 8192)
end Go.Proofs.Ytjfdokoigkdciaa

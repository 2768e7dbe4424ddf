/- Whether code may be told, both; how long its texts are. Walked. The memory of telling code as bytes. -/
import Derived.Test.YtefijgdbnjmifaaDoorBytP
import Derived.Test.YtefijgdbnjmifaaDoorRightD
import Derived.Test.YtefijgdbnjmifaaDoorBytA
import Derived.Test.YtefijgdbnjmifaaDoorInstrK
namespace Go.Proofs.YtefijgdbnjmifaaDoor
open Go.RowKit

set_option maxRecDepth 100000 in
set_option maxHeartbeats 1000000 in
theorem all_may {w : World} {A : Option Addr} {n cc : Nat} {cs : List InsV} (hcode : CodeIn w A cs) (hl : cs.length = n) (hok : OkC cs) (hn : n ≤ 9223372036854775807) :
    Calls Tryd.prog 17 #[.slice A n cc] w (RetB (.int .i64 (mayS cs)) w) := by
  have HC := Lib.hid hcode
  have HL := Lib.hid hl
  have HO := Lib.hid hok
  clear hcode hl hok
  by_cases h8 : 8192 < n
  · have hb : decide ((8192 : Int) < (n : Int)) = true := decide_eq_true (by omega)
    have M := Lib.hid (may_long (c := cs) (by rw [HL.out]; exact h8))
    go_enter Tryd.func17, Tryd.ntmps17
    go_wp2_with fail
    go_ret
    exact ⟨ret_int M.out.symm, Below.refl _ _⟩
  · have hb : decide ((8192 : Int) < (n : Int)) = false := decide_eq_false (by omega)
    go_enter Tryd.func17, Tryd.ntmps17
    go_wp2_with fail
    go_loopw [10] (fun i wr => ∃ k : Nat, i = .int .i64 k ∧ k ≤ n ∧ (∀ j, j < k → rightI (atV cs j).ins n = true) ∧ Below w.heap.size w wr) (fun i _ => n - (intOf i).toNat)
    case atStart => exact ⟨0, rfl, Nat.zero_le _, fun j hj => absurd hj (by omega), Below.refl _ _⟩
    case round =>
      obtain ⟨k, rfl, hk, hr, hbw⟩ := hrel
      have HR := Lib.hid hr
      have HB := Lib.hid hbw
      clear hr
      by_cases hlt : k < n
      · obtain ⟨b, off, rfl, hbl, hcell⟩ := HC.out (by rw [HL.out]; omega)
        obtain ⟨q0, q1, q2, q3⟩ := hcell k (by rw [HL.out]; omega)
        have hkk := fun o => hbw.cell (p := ⟨b, o, none⟩) hbl
        have q0 := (hkk _).trans q0
        have q1 := (hkk _).trans q1
        have q2 := (hkk _).trans q2
        have q3 := (hkk _).trans q3
        obtain ⟨ok1, ok2⟩ := HO.out k (by rw [HL.out]; omega)
        have RA := Lib.hid (fun w => right_any (atV cs k) n ok1 ok2 w)
        have hsz := hbw.size
        clear hkk hcell hbw ok1 ok2
        have HRk := Lib.hid (fun (h : rightI (atV cs k).ins n = false) => may_bad (c := cs) (by rw [HL.out]; exact h8) (k := k) (by rw [HL.out]; exact hlt) (by rw [HL.out]; exact h))
        have HRn := Lib.hid (fun (h : rightI (atV cs k).ins n = true) (j : Nat) (hj : j < k + 1) => show rightI (atV cs j).ins n = true from if e : j = k then e ▸ h else HR.out j (by omega))
        generalize atV cs k = v at *
        obtain ⟨op, a, int, text⟩ := v
        simp only at q0 q1 q2 q3
        go_wp2_with fail
        refine (RA.out _).mono ?_
        rintro e w2 ⟨rfl, h2⟩
        have HB2 := Lib.hid (bthen' (HB.out.alloc hsz (.cells #[.int .u8 op, .int .i64 a, .int .i64 int, .string text] 36)) h2 (Nat.le_refl _))
        clear h2
        cases hrb : rightI (InsV.ins ⟨op, a, int, text⟩) n with
        | false =>
          have M := Lib.hid (HRk.out hrb)
          clear hrb
          go_wp2_with fail
          go_ret
          exact ⟨ret_int M.out.symm, HB2.out⟩
        | true =>
          have M := Lib.hid (HRn.out hrb)
          clear hrb
          go_wp2_with fail
          go_roundw
          case rel => exact ⟨k + 1, by go_num, by omega, M.out, HB2.out⟩
          case measure => simp [intOf]; omega
      · have M := Lib.hid (may_good (c := cs) (by rw [HL.out]; exact h8) (by rw [HL.out]; intro j hj; exact HR.out j (by omega)))
        go_wp2_with fail
        go_ret
        exact ⟨ret_int M.out.symm, HB.out⟩
set_option maxRecDepth 100000 in
set_option maxHeartbeats 1000000 in
theorem rmay_any {w : World} {A : Option Addr} {n cc : Nat} {cs : List InsV} (hcode : CodeIn w A cs) (hl : cs.length = n) (hok : OkC cs) (hn : n ≤ 9223372036854775807) :
    Calls Tryd.prog 22 #[.slice A n cc] w (RetB (.int .i64 (mayS cs)) w) := by
  have HC := Lib.hid hcode
  have HL := Lib.hid hl
  have HO := Lib.hid hok
  clear hcode hl hok
  by_cases h8 : 8192 < n
  · have hb : decide ((8192 : Int) < (n : Int)) = true := decide_eq_true (by omega)
    have M := Lib.hid (may_long (c := cs) (by rw [HL.out]; exact h8))
    go_enter Tryd.func22, Tryd.ntmps22
    go_wp2_with fail
    go_ret
    exact ⟨ret_int M.out.symm, Below.refl _ _⟩
  · have hb : decide ((8192 : Int) < (n : Int)) = false := decide_eq_false (by omega)
    go_enter Tryd.func22, Tryd.ntmps22
    go_wp2_with fail
    go_loopw [3] (fun i wr => ∃ k : Nat, i = .int .i64 k ∧ k ≤ n ∧ (∀ j, j < k → rightI (atV cs j).ins n = true) ∧ Below w.heap.size w wr) (fun i _ => n - (intOf i).toNat)
    case atStart => exact ⟨0, rfl, Nat.zero_le _, fun j hj => absurd hj (by omega), Below.refl _ _⟩
    case round =>
      obtain ⟨k, rfl, hk, hr, hbw⟩ := hrel
      have HR := Lib.hid hr
      have HB := Lib.hid hbw
      clear hr
      by_cases hlt : k < n
      · obtain ⟨b, off, rfl, hbl, hcell⟩ := HC.out (by rw [HL.out]; omega)
        obtain ⟨q0, q1, q2, q3⟩ := hcell k (by rw [HL.out]; omega)
        have hkk := fun o => hbw.cell (p := ⟨b, o, none⟩) hbl
        have q0 := (hkk _).trans q0
        have q1 := (hkk _).trans q1
        have q2 := (hkk _).trans q2
        have q3 := (hkk _).trans q3
        obtain ⟨ok1, ok2⟩ := HO.out k (by rw [HL.out]; omega)
        have RA := Lib.hid (fun w => rright_any (atV cs k) n ok1 ok2 w)
        have hsz := hbw.size
        clear hkk hcell hbw ok1 ok2
        have HRk := Lib.hid (fun (h : rightI (atV cs k).ins n = false) => may_bad (c := cs) (by rw [HL.out]; exact h8) (k := k) (by rw [HL.out]; exact hlt) (by rw [HL.out]; exact h))
        have HRn := Lib.hid (fun (h : rightI (atV cs k).ins n = true) (j : Nat) (hj : j < k + 1) => show rightI (atV cs j).ins n = true from if e : j = k then e ▸ h else HR.out j (by omega))
        generalize atV cs k = v at *
        obtain ⟨op, a, int, text⟩ := v
        simp only at q0 q1 q2 q3
        go_wp2_with fail
        refine (RA.out _).mono ?_
        rintro e w2 ⟨rfl, h2⟩
        have HB2 := Lib.hid (bthen' HB.out h2 (Nat.le_refl _))
        clear h2
        cases hrb : rightI (InsV.ins ⟨op, a, int, text⟩) n with
        | false =>
          have M := Lib.hid (HRk.out hrb)
          clear hrb
          go_wp2_with fail
          go_ret
          exact ⟨ret_int M.out.symm, HB2.out⟩
        | true =>
          have M := Lib.hid (HRn.out hrb)
          clear hrb
          go_wp2_with fail
          go_roundw
          case rel => exact ⟨k + 1, by go_num, by omega, M.out, HB2.out⟩
          case measure => simp [intOf]; omega
      · have M := Lib.hid (may_good (c := cs) (by rw [HL.out]; exact h8) (by rw [HL.out]; intro j hj; exact HR.out j (by omega)))
        go_wp2_with fail
        go_ret
        exact ⟨ret_int M.out.symm, HB.out⟩
/-- Whether the texts are too long together. -/
def HvPost (c : List InsV) (w : World) (e : Ending) (w' : World) : Prop := ∃ b : Bool, e = .returned (.bool b) ∧ (b = false → c.length ≤ 8192 → textsTo c c.length ≤ 20000) ∧ w = w'
set_option maxRecDepth 100000 in
set_option maxHeartbeats 1000000 in
theorem heavy_any {w : World} {A : Option Addr} {n cc : Nat} {cs : List InsV} (hcode : CodeIn w A cs) (hl : cs.length = n) (hok : OkC cs) (hn : n ≤ 9223372036854775807) :
    Calls Tryd.prog 7 #[.slice A n cc] w (HvPost cs w) := by
  have HC := Lib.hid hcode
  have HL := Lib.hid hl
  have HO := Lib.hid hok
  clear hcode hl hok
  go_enter Tryd.func7, Tryd.ntmps7
  go_wp2_with fail
  go_loop [4, 3] (fun i t => ∃ (k m : Nat), i = .int .i64 k ∧ t = .int .i64 m ∧ k ≤ n ∧ m ≤ 20000 ∧ m + textsTo cs k = 20000) (fun i _ => n - (intOf i).toNat)
  case atStart => exact ⟨0, 20000, rfl, rfl, Nat.zero_le _, Nat.le_refl _, rfl⟩
  case round =>
    obtain ⟨k, m, rfl, rfl, hk, hm, ht⟩ := hrel
    have HT := Lib.hid ht
    clear ht
    by_cases hlt : k < n
    · have h1 : decide ((k : Int) < (n : Int)) = true := decide_eq_true (by omega)
      by_cases h8 : k ≤ 8192
      · have h2 : decide ((k : Int) ≤ 8192) = true := decide_eq_true (by omega)
        obtain ⟨b, off, rfl, hbl, hcell⟩ := HC.out (by rw [HL.out]; omega)
        obtain ⟨q0, q1, q2, q3⟩ := hcell k (by rw [HL.out]; omega)
        have ok2 := (HO.out k (by rw [HL.out]; omega)).2
        have HS := Lib.hid (show textsTo cs (k + 1) = textsTo cs k + (atV cs k).text.size from rfl)
        clear hcell
        generalize atV cs k = v at *
        obtain ⟨op, a, int, text⟩ := v
        simp only at q3 ok2
        by_cases hgt : m < text.size
        · have h3 : decide ((m : Int) < (text.size : Int)) = true := decide_eq_true (by omega)
          go_wp2_with fail
          go_ret
          exact ⟨true, rfl, fun h => absurd h (by simp), rfl⟩
        · have h3 : decide ((m : Int) < (text.size : Int)) = false := decide_eq_false (by omega)
          go_wp2_with fail
          go_round
          case rel => exact ⟨k + 1, m - text.size, by go_num, by go_num, by omega, by omega, by rw [HS.out]; have := HT.out; show m - text.size + (textsTo cs k + text.size) = 20000; omega⟩
          case measure => simp [intOf]; omega
      · have h2 : decide ((k : Int) ≤ 8192) = false := decide_eq_false (by omega)
        go_wp2_with fail
        go_ret
        exact ⟨false, rfl, fun _ h => by have := HL.out; omega, rfl⟩
    · have h1 : decide ((k : Int) < (n : Int)) = false := decide_eq_false (by omega)
      have hkn : k = n := by omega
      have KN := Lib.hid hkn
      clear hkn
      go_wp2_with fail
      go_ret
      exact ⟨false, rfl, fun _ _ => by rw [HL.out, ← KN.out]; have := HT.out; omega, rfl⟩
end Go.Proofs.YtefijgdbnjmifaaDoor
namespace Go.Proofs.YtefijgdbnjmifaaDoor
open Go.RowKit

theorem cells_of {W : World} {b : Nat} {cs : Array Value} {t : TypeId} (h : W.heap[b]? = some (.cells cs t (0, 0))) (j : Nat) : W.cell? ⟨b, j, none⟩ = cs[j]? := by
  simp [World.cell?, h]
theorem alloc_new (W : World) (o : Obj) : (W.alloc o).heap[W.heap.size]? = some o := by
  show (W.heap.push o)[W.heap.size]? = some o
  simp
theorem own_base_le {w : World} {base base' : Nat} {v : Value} {bs : List UInt8} (h : OwnBy w base v bs) (hb : base' ≤ base) : OwnBy w base' v bs := by
  obtain ⟨h1, h2 | ⟨g, cap, cur, a, b, c, d⟩⟩ := h
  · exact ⟨h1, .inl h2⟩
  · exact ⟨h1, .inr ⟨g, cap, cur, a, Nat.le_trans hb b, c, d⟩⟩
/-- In the midst of a round: what has been told (v: bs), the instruction's block, its kind's block. -/
structure Rd (w W : World) (xb kb : Nat) (x : InsV) (kc : Array Value) (kt : TypeId) (v : Value) (bs : List UInt8) : Prop where
  low : Below w.heap.size w W
  own : OwnBy W w.heap.size v bs
  hx : W.heap[xb]? = some (.cells #[.int .u8 (x.op : Int), .int .i64 x.a, .int .i64 x.int, .string x.text] 36 (0, 0))
  hk : W.heap[kb]? = some (.cells kc kt (0, 0))
section
variable {w W W' : World} {xb kb : Nat} {x : InsV} {kc : Array Value} {kt : TypeId} {v v' : Value} {bs bs' : List UInt8}
theorem Rd.xlt (h : Rd w W xb kb x kc kt v bs) : xb < W.heap.size := (Array.getElem?_eq_some_iff.1 h.hx).1
theorem Rd.klt (h : Rd w W xb kb x kc kt v bs) : kb < W.heap.size := (Array.getElem?_eq_some_iff.1 h.hk).1
theorem Rd.below (h : Rd w W xb kb x kc kt v bs) (b : Below W.heap.size W W') : Rd w W' xb kb x kc kt v bs :=
  ⟨bthen h.low b, h.own.keep b, (b.block xb h.xlt).trans h.hx, (b.block kb h.klt).trans h.hk⟩
/-- Something has been put behind. -/
theorem Rd.put (h : Rd w W xb kb x kc kt v bs) (hkt : kt ≠ 5) {W1 : World} (b : Below W.heap.size W W1) (g : W1.grownBy W' v.ownBlock) (o : OwnBy W' w.heap.size v' bs') : Rd w W' xb kb x kc kt v' bs' := by
  have h1 := h.below b
  have ne : ∀ (q : Nat) (cs : Array Value) (t : TypeId), t ≠ 5 → W1.heap[q]? = some (.cells cs t (0, 0)) → v.ownBlock ≠ some q := fun q cs t ht hq e => by
    rcases h1.own.2 with ⟨rfl, _⟩ | ⟨g0, cap, cur, rfl, _, hc, _⟩
    · simp [Value.ownBlock] at e
    · simp [Value.ownBlock] at e
      subst e
      rw [hc] at hq
      injection hq with hq
      injection hq with _ h2 _
      exact ht h2.symm
  exact ⟨Below.grown h1.low g h1.low.size (fun q e => own_base h1.own e), o, (g.block xb h1.xlt (fun e => ne _ _ _ (by decide) h1.hx e.symm)).trans h1.hx, (g.block kb h1.klt (fun e => ne _ _ _ hkt h1.hk e.symm)).trans h1.hk⟩
end
/-- Bytes that are not none, as what is put behind. -/
theorem OwnBy.src {w : World} {base : Nat} {v : Value} {bs : List UInt8} (h : OwnBy w base v bs) (hn : 0 < bs.length) :
    ∃ g cap, v = .slice (some ⟨g, 0, none⟩) bs.length cap ∧ ∀ j u, (bs.map byteV)[j]? = some u → w.cell? ((⟨g, 0, none⟩ : Addr).add j) = some u := by
  obtain ⟨g, cap, hv, _, _⟩ := World.ownsRow.form h hn
  exact ⟨g, cap, hv, World.ownsRow.cells h (g := g) (by rw [hv]; rfl)⟩
theorem OwnBy.more {w : World} {base : Nat} {v : Value} {bs cs : List UInt8} (h : w.ownsRow base 5 1 v (bs.length + cs.length) (bs.map byteV ++ cs.map byteV)) : OwnBy w base v (bs ++ cs) := by
  unfold OwnBy
  rw [List.length_append, List.map_append]
  exact h
theorem OwnBy.of {w : World} {base n : Nat} {v : Value} {bs : List UInt8} {xs : List Value} (h : w.ownsRow base 5 1 v n xs) (e1 : n = bs.length) (e2 : xs = bs.map byteV) : OwnBy w base v bs := by
  subst e1 e2; exact h
theorem one_cells (bs : List UInt8) : ∀ u ∈ bs.map byteV, u.oneCell' = true := fun u hu => by
  obtain ⟨b, _, rfl⟩ := List.mem_map.1 hu
  rfl
theorem op_byte {op : Nat} (h : op < 256) : (.int .u8 (op : Int) : Value) = byteV (UInt8.ofNat op) := by
  have : (UInt8.ofNat op).toNat = op := by rw [UInt8.toNat_ofNat']; omega
  unfold byteV; rw [this]
end Go.Proofs.YtefijgdbnjmifaaDoor

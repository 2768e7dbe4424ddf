/- A tree gone through, walked. -/
import Derived.Test.YtjfdokoigkdciaaTreW
import Derived.Deep.DeepCutAuto
import Derived.BigQuiet
namespace Go.Proofs.Ytjfdokoigkdciaa
open Go.RowKit

/-- A twig's cells. -/
structure TwC (w : World) (b o : Nat) (x : InsV) : Prop where
  c0 : w.cell? ⟨b, o, none⟩ = some (.int .u8 (x.op : Int))
  c1 : w.cell? ⟨b, o + 1, none⟩ = some (.int .i64 x.a)
  c2 : w.cell? ⟨b, o + 2, none⟩ = some (.int .i64 x.int)
  c3 : w.cell? ⟨b, o + 3, none⟩ = some (.string x.text)
/-- The counter that a cell holds. -/
def iOf (ip : Value) (w : World) : Nat := match ip with | .pointer (some a) => (match w.cell? a with | some (.int _ q) => q.toNat | _ => 0) | _ => 0
structure LpI (x : TB) (w : World) (xb : Nat) (kids : Int) (pv : Value) (F : Nat → Nat → Int → Int → Nat × Int × Int) (lo : Nat) (rr : Nat × Int × Int) (i nxt : Nat) (wr dp : Int) (ib : Nat) (wl : World) : Prop where
  hi : i ≤ kids.toNat
  lo : lo ≤ nxt
  nx : nxt ≤ x.cs.length
  ci : wl.cell? ⟨ib, 0, none⟩ = some (.int .i64 (i : Int))
  zi : wl.frozen? ⟨ib, 0, none⟩ = false
  bi : xb + 2 ≤ ib
  tw : TW x wr dp wl
  kp : Keep (noT x) w wl
  ck : wl.cell? ⟨xb, 1, none⟩ = some (.int .i64 kids)
  cf : wl.cell? ⟨xb + 1, 3, none⟩ = some pv
  eq : rr = F i nxt wr dp
structure Mid1 (x : TB) (w : World) (tw : InsV) (xb fb : Nat) : Prop where
  low : xb < w.heap.size
  lof : fb < w.heap.size
  twc : TwC w xb 0 tw
  f0 : w.cell? ⟨fb, 0, none⟩ = some (textF (formS tw.op).tk)
  f1 : w.cell? ⟨fb, 1, none⟩ = some (.int .i64 (formS tw.op).lo)
  f2 : w.cell? ⟨fb, 2, none⟩ = some (.int .i64 (formS tw.op).hi)
  f3 : w.cell? ⟨fb, 3, none⟩ = some (partF (formS tw.op).pk)
theorem form_bounds (op : Nat) : 0 ≤ (formS op).lo ∧ (formS op).hi ≤ 2048 := by
  unfold formS
  generalize formN op = n
  unfold formR
  split <;> decide
theorem partF_is (pk : Nat) : ∃ fid, partF pk = .func (.func fid) #[] #[] := by
  unfold partF
  by_cases h0 : pk = 0
  · exact ⟨_, if_pos h0⟩
  · by_cases h1 : pk = 1
    · exact ⟨_, by rw [if_neg h0]; exact if_pos h1⟩
    · by_cases h2 : pk = 2
      · exact ⟨_, by rw [if_neg h0, if_neg h1]; exact if_pos h2⟩
      · by_cases h3 : pk = 3
        · exact ⟨_, by rw [if_neg h0, if_neg h1, if_neg h2]; exact if_pos h3⟩
        · by_cases h4 : pk = 4
          · exact ⟨_, by rw [if_neg h0, if_neg h1, if_neg h2, if_neg h3]; exact if_pos h4⟩
          · exact ⟨_, by rw [if_neg h0, if_neg h1, if_neg h2, if_neg h3]; exact if_neg h4⟩
theorem TW.setW {x : TB} {wr dp : Int} {w : World} (hd : TD x) (h : TW x wr dp w) (v : Int) : TW x v dp (w.setCell ⟨x.wb, 0, none⟩ (.int .i64 v)) :=
  h.move hd ((Keep.refl _ w).setCell (.inl rfl) _) (World.cell?_setCell_same _ _ _ h.wr) ((World.cell?_setCell_other _ _ _ _ (fun e => hd.d1 (congrArg Addr.block e))).trans h.dp) (by rw [World.frozen?_setCell]; exact h.zw) (by rw [World.frozen?_setCell]; exact h.zd)
theorem TW.setD {x : TB} {wr dp : Int} {w : World} (hd : TD x) (h : TW x wr dp w) (v : Int) : TW x wr v (w.setCell ⟨x.db, 0, none⟩ (.int .i64 v)) :=
  h.move hd ((Keep.refl _ w).setCell (.inr rfl) _) ((World.cell?_setCell_other _ _ _ _ (fun e => hd.d1 (congrArg Addr.block e).symm)).trans h.wr) (World.cell?_setCell_same _ _ _ h.dp) (by rw [World.frozen?_setCell]; exact h.zw) (by rw [World.frozen?_setCell]; exact h.zd)
set_option maxRecDepth 100000 in
set_option maxHeartbeats 4000000 in
theorem walk_step (x : TB) (hd : TD x) (f : Nat) (at_ lv : Nat) (mv : Value) (may : Nat → Bool) (wr dp : Int) (w : World) (ht : TW x wr dp w) (hm : MayOk x mv may w) (_hwr : wr < 0) (hf : x.cs.length < f + 1 + at_)
    (ih : ∀ (at_ lv : Nat) (mv : Value) (may : Nat → Bool) (wr dp : Int) (w : World), TW x wr dp w → MayOk x mv may w → wr < 0 → x.cs.length < f + at_ → at_ ≤ x.cs.length → lv + (x.cs.length - at_) ≤ 4000 → Calls Try.prog 31 (#[.int .i64 (at_ : Int), .int .i64 (lv : Int), mv] ++ x.caps) w (TPost x (walkS x.cs f at_ lv may wr dp) w)) (hat : at_ ≤ x.cs.length) (hlv : lv + (x.cs.length - at_) ≤ 4000) :
    Calls Try.prog 31 (#[.int .i64 (at_ : Int), .int .i64 (lv : Int), mv] ++ x.caps) w (TPost x (walkS x.cs (f + 1) at_ lv may wr dp) w) := by
  obtain ⟨fid, caps, rfl, hen, hmc⟩ := hm
  unfold Ent at hen
  obtain ⟨tp, wb, mb, db, fb, b, A, c, cs⟩ := x
  have hlen := hd.len
  have t1 := ht.t
  have t2 := ht.wr
  have t3 := ht.zw
  simp only at t1 t2 t3 hf hat hlv hlen
  show Calls Try.prog 31 #[.int .i64 (at_ : Int), .int .i64 (lv : Int), .func (.func fid) #[] caps, .pointer (some ⟨tp, 0, none⟩), .pointer (some ⟨wb, 0, none⟩), .pointer (some ⟨mb, 0, none⟩), .pointer (some ⟨db, 0, none⟩), .pointer (some ⟨fb, 0, none⟩)] w _
  have HT := Lib.hid ht
  have HM := Lib.hid hmc
  have HD := Lib.hid hd
  have IH := Lib.hid ih
  clear ht hmc hd ih
  by_cases hend : cs.length ≤ at_
  · obtain rfl : at_ = cs.length := by omega
    have hdd : decide ((cs.length : Int) ≤ (cs.length : Int)) = true := decide_eq_true (by omega)
    have E := Lib.hid (show walkS cs (f + 1) cs.length lv may wr dp = (cs.length, (cs.length : Int), dp) by rw [walkS, if_pos (Nat.le_refl _)])
    have hwlt := World.block_lt_of_cell? w _ t2
    simp only
    generalize walkS cs (f + 1) cs.length lv may wr dp = rr at *
    go_enter Try.func31, Try.ntmps31
    go_wp2
    go_ret
    refine ⟨?_, ?_, ?_⟩
    · rw [E.out]; rfl
    · rw [E.out]; exact HT.out.setW HD.out _
    · exact (Keep.refl _ w).setCell (.inl rfl) _
  · have hlt : at_ < cs.length := by omega
    have hdd : decide ((cs.length : Int) ≤ (at_ : Int)) = false := decide_eq_false (by omega)
    have E := Lib.hid (show walkS cs (f + 1) at_ lv may wr dp = if okTw (atV cs at_) may then
      kidsS (fun nx m wr dp => walkS cs f nx (lv + 1) m wr dp) (formS (atV cs at_).op).pk (atV cs at_).a (atV cs at_).a.toNat 0 (at_ + 1) wr (if 40 < lv ∧ dp < 0 then (at_ : Int) else dp)
      else (at_, (at_ : Int), dp) by rw [walkS, if_neg hend])
    obtain ⟨cb, co, hA, hcb, hck⟩ := HT.out.code (by simp only; omega)
    simp only at hA hck
    subst hA
    obtain ⟨k0, k1, k2, k3⟩ := hck at_ hlt
    have hop : (atV cs at_).op < 256 := (HD.out.ok at_ (by simpa using hlt)).1
    have htx : (atV cs at_).text.size ≤ 9223372036854775807 := (HD.out.ok at_ (by simpa using hlt)).2
    clear hck
    generalize atV cs at_ = tw at *
    obtain ⟨op, kids, int, text⟩ := tw
    simp only at k0 k1 k2 k3 hop htx
    have m1 := HT.out.mp
    have m2 := HT.out.dp
    have m3 := HT.out.zd
    simp only at m1 m2 m3
    have lt1 := World.block_lt_of_cell? w _ t1
    have lt2 := World.block_lt_of_cell? w _ t2
    have lt3 := World.block_lt_of_cell? w _ m1
    have lt4 := World.block_lt_of_cell? w _ m2
    simp only at lt1 lt2 lt3 lt4
    obtain ⟨fid1, e1, en1, hc1⟩ := text_any (formS op).tk text htx
    obtain ⟨fid2, e2⟩ := partF_is (formS op).pk
    unfold Ent at en1
    have HE1 := Lib.hid e1
    have HE2 := Lib.hid e2
    have HC1 := Lib.hid hc1
    have hsf : ∀ (a : Addr) (f : Fn) (c1 c2 : Array Value) (m : Mode) (w : World), (store a (.func f c1 c2) m).run Try.prog w = stored Try.prog w a (.func f c1 c2) m := fun a f c1 c2 m w => run_store _ w a _ m rfl
    have hsn : ∀ (a : Addr) (m : Mode) (w : World), (store a .nilFunc m).run Try.prog w = stored Try.prog w a .nilFunc m := fun a m w => run_store _ w a _ m rfl
    have hblt := HT.out.tab.lt
    simp only at hblt
    have hal := (Below.refl _ w).alloc (Nat.le_refl _) (.cells #[.int .u8 (op : Int), .int .i64 kids, .int .i64 int, .string text] 31)
    have htab := (HT.out.tab.below hal hblt)
    simp only at htab
    cases hio : isO op with
    | false =>
      have hl : (Instr.lookup 72 (.map (some b)) (.int .u8 (op : Int)) true).run Try.prog (w.alloc (.cells #[.int .u8 (op : Int), .int .i64 kids, .int .i64 int, .string text] 31)) = .ok (.tuple #[.agg #[.nilFunc, .int .i64 0, .int .i64 0, .nilFunc], .bool false]) (w.alloc (.cells #[.int .u8 (op : Int), .int .i64 kids, .int .i64 int, .string text] 31)) := htab.miss hio
      clear e1 e2 hc1 htab hal
      go_enter Try.func31, Try.ntmps31
      go_wp2_with fail
      go_ret
      have hok : okTw ⟨op, kids, int, text⟩ may = false := by unfold okTw; simp [hio]
      have hE := E.out
      rw [if_neg (by rw [hok]; decide)] at hE
      refine ⟨?_, ?_, ?_⟩
      · rw [hE]; rfl
      · rw [hE]; exact ((HT.out.setW HD.out _).low HD.out ((Below.refl _ _).alloc (Nat.le_refl _) _)).low HD.out ((Below.refl _ _).alloc (Nat.le_refl _) _)
      · exact (((Keep.refl _ w).setCell (.inl rfl) _).alloc _).alloc _
    | true =>
      have hl : (Instr.lookup 72 (.map (some b)) (.int .u8 (op : Int)) true).run Try.prog (w.alloc (.cells #[.int .u8 (op : Int), .int .i64 kids, .int .i64 int, .string text] 31)) = .ok (.tuple #[.agg #[.func (.func fid1) #[] #[], .int .i64 (formS op).lo, .int .i64 (formS op).hi, .func (.func fid2) #[] #[]], .bool true]) (w.alloc (.cells #[.int .u8 (op : Int), .int .i64 kids, .int .i64 int, .string text] 31)) := by
        rw [htab.look hio, formV, e1, e2]
      clear e1 e2 hc1 htab hal
      go_enter Try.func31, Try.ntmps31
      go_upto_region 6 with fail
      obtain ⟨wq, hwq⟩ : ∃ wq, wq = (w.alloc (.cells #[.int .u8 (op : Int), .int .i64 kids, .int .i64 int, .string text] 31)).alloc (.cells #[.func (.func fid1) #[] #[], .int .i64 (formS op).lo, .int .i64 (formS op).hi, .func (.func fid2) #[] #[]] 78) := ⟨_, rfl⟩
      have hbq : Below w.heap.size w wq := by rw [hwq]; exact ((Below.refl _ w).alloc (Nat.le_refl _) _).alloc (by simp) _
      have HBQ := Lib.hid hbq
      have HTQ := Lib.hid (HT.out.low HD.out hbq)
      have sq : wq.heap.size = w.heap.size + 2 := by rw [hwq]; simp
      have q0 : wq.cell? ⟨w.heap.size, 0, none⟩ = some (.int .u8 (op : Int)) := by rw [hwq]; simp
      have q1 : wq.cell? ⟨w.heap.size, 1, none⟩ = some (.int .i64 kids) := by rw [hwq]; simp
      have q2 : wq.cell? ⟨w.heap.size, 2, none⟩ = some (.int .i64 int) := by rw [hwq]; simp
      have q3 : wq.cell? ⟨w.heap.size, 3, none⟩ = some (.string text) := by rw [hwq]; simp
      have g0 : wq.cell? ⟨w.heap.size + 1, 0, none⟩ = some (.func (.func fid1) #[] #[]) := by rw [hwq]; simp
      have g1 : wq.cell? ⟨w.heap.size + 1, 1, none⟩ = some (.int .i64 (formS op).lo) := by rw [hwq]; simp
      have g2 : wq.cell? ⟨w.heap.size + 1, 2, none⟩ = some (.int .i64 (formS op).hi) := by rw [hwq]; simp
      have g3 : wq.cell? ⟨w.heap.size + 1, 3, none⟩ = some (.func (.func fid2) #[] #[]) := by rw [hwq]; simp
      have E2 := Lib.hid (show okTw ⟨op, kids, int, text⟩ may = (may op && twText (formS op).tk text && decide ((formS op).lo ≤ kids) && decide (kids ≤ (formS op).hi) && (decide (op = 23) || decide (int = 0)) && decide (0 ≤ int)) by unfold okTw; simp [hio])
      have hfb := form_bounds op
      rw [← hwq]
      clear hl hwq k0 k1 k2 k3 hbq hio t1 t2 t3 m1 m2 m3 hcb hblt hdd
      generalize okTw ⟨op, kids, int, text⟩ may = ok at *
      generalize (formS op).lo = flo at *
      generalize (formS op).hi = fhi at *
      go_cut [80] (fun s80 wx => s80 = .bool (!ok) ∧ Below wq.heap.size wq wx)
      case first =>
        go_wp2_with fail
        refine (HM.out _ (Keep.of_below HBQ.out) op hop).mono ?_
        rintro e w1 ⟨rfl, h1⟩
        have H1 := Lib.hid h1
        have r0 := (h1.cell (p := ⟨w.heap.size, 0, none⟩) (by simp only; omega)).trans q0
        have r1 := (h1.cell (p := ⟨w.heap.size, 1, none⟩) (by simp only; omega)).trans q1
        have r2 := (h1.cell (p := ⟨w.heap.size, 2, none⟩) (by simp only; omega)).trans q2
        have r3 := (h1.cell (p := ⟨w.heap.size, 3, none⟩) (by simp only; omega)).trans q3
        have s0 := (h1.cell (p := ⟨w.heap.size + 1, 0, none⟩) (by simp only; omega)).trans g0
        have s1 := (h1.cell (p := ⟨w.heap.size + 1, 1, none⟩) (by simp only; omega)).trans g1
        have s2 := (h1.cell (p := ⟨w.heap.size + 1, 2, none⟩) (by simp only; omega)).trans g2
        clear h1 q0 q1 q2 q3 g0 g1 g2 g3
        have E3 := Lib.hid E2.out
        clear E2
        cases hmy : may op with
        | false =>
          have E4 := Lib.hid (show ok = false by rw [E3.out, hmy]; rfl)
          clear hmy
          go_wp2_with fail
          go_meet
          exact ⟨by rw [E4.out]; rfl, H1.out⟩
        | true =>
          have E4 := Lib.hid (show ok = (twText (formS op).tk text && decide (flo ≤ kids) && decide (kids ≤ fhi) && (decide (op = 23) || decide (int = 0)) && decide (0 ≤ int)) by rw [E3.out, hmy, Bool.true_and])
          clear hmy E3
          go_wp2_with fail
          refine (HC1.out _).mono ?_
          rintro e w2 ⟨rfl, rfl⟩
          cases htt : twText (formS op).tk text with
          | false =>
            have E5 := Lib.hid (show ok = false by rw [E4.out, htt]; rfl)
            clear htt
            go_wp2_with fail
            go_meet
            exact ⟨by rw [E5.out]; rfl, H1.out⟩
          | true =>
            have E5 := Lib.hid (show ok = (decide (flo ≤ kids) && decide (kids ≤ fhi) && (decide (op = 23) || decide (int = 0)) && decide (0 ≤ int)) by rw [E4.out, htt, Bool.true_and])
            clear htt E4
            go_wp2_with fail
            all_goals go_meet
            all_goals (refine ⟨congrArg Value.bool ?_, H1.out⟩; rw [E5.out, Bool.eq_iff_iff]; simp; omega)
      case rest =>
        obtain ⟨rfl, hbx⟩ := hcut
        have HTC := Lib.hid (HTQ.out.low HD.out hbx)
        have HKC := Lib.hid (show Keep (noT ⟨tp, wb, mb, db, fb, b, some ⟨cb, co, none⟩, c, cs⟩) w wc from Keep.of_below (bthen HBQ.out hbx))
        have r0 := (hbx.cell (p := ⟨w.heap.size, 0, none⟩) (by simp only; omega)).trans q0
        have r1 := (hbx.cell (p := ⟨w.heap.size, 1, none⟩) (by simp only; omega)).trans q1
        have s3 := (hbx.cell (p := ⟨w.heap.size + 1, 3, none⟩) (by simp only; omega)).trans g3
        have swc := hbx.size
        have t2 := HTC.out.wr
        have t3 := HTC.out.zw
        have m2 := HTC.out.dp
        have m3 := HTC.out.zd
        simp only at t2 t3 m2 m3
        clear hbx q0 q1 q2 q3 g0 g1 g2 g3 HTQ HBQ HM HC1 hen en1
        cases ok with
        | false =>
          have hE := E.out
          rw [if_neg (by decide)] at hE
          have E1 := Lib.hid hE
          clear hE E
          go_wp2_with fail
          go_ret
          refine ⟨?_, ?_, ?_⟩
          · rw [E1.out]; rfl
          · rw [E1.out]; exact HTC.out.setW HD.out _
          · exact HKC.out.setCell (.inl rfl) _
        | true =>
          have hE := E.out
          rw [if_pos rfl] at hE
          simp only at hE
          have hkb : 0 ≤ kids ∧ kids ≤ 2048 := by
            have := E2.out
            simp at this
            omega
          clear E E2
          have hw1 : IntKind.i64.wrap ((at_ : Int) + 1) = (at_ : Int) + 1 := by rw [IntKind.wrap_i64]; omega
          have hw2 : IntKind.i64.wrap ((lv : Int) + 1) = (lv : Int) + 1 := by rw [IntKind.wrap_i64]; omega
          generalize walkS cs (f + 1) at_ lv may wr dp = rr at *
          rcases (show (40 < lv ∧ dp < 0) ∨ ¬ 40 < lv ∨ (40 < lv ∧ 0 ≤ dp) by omega) with hde | hde | hde
          case' inl =>
            have d1 : decide ((40 : Int) < (lv : Int)) = true := decide_eq_true (by omega)
            have d2 : decide (dp < 0) = true := decide_eq_true hde.2
            rw [if_pos hde] at hE
            have E1 := Lib.hid hE
            have HTD := Lib.hid (HTC.out.setD HD.out (at_ : Int))
            have HKD := Lib.hid (HKC.out.setCell (p := ⟨db, 0, none⟩) (.inr rfl) (.int .i64 (at_ : Int)))
            have n0 := (World.cell?_setCell_other _ _ _ (.int .i64 (at_ : Int)) (show (⟨db, 0, none⟩ : Addr) ≠ ⟨w.heap.size, 0, none⟩ from fun e => by have := congrArg Addr.block e; simp only at this; omega)).trans r0
            have n1 := (World.cell?_setCell_other _ _ _ (.int .i64 (at_ : Int)) (show (⟨db, 0, none⟩ : Addr) ≠ ⟨w.heap.size, 1, none⟩ from fun e => by have := congrArg Addr.block e; simp only at this; omega)).trans r1
            have n3 := (World.cell?_setCell_other _ _ _ (.int .i64 (at_ : Int)) (show (⟨db, 0, none⟩ : Addr) ≠ ⟨w.heap.size + 1, 3, none⟩ from fun e => by have := congrArg Addr.block e; simp only at this; omega)).trans s3
            have nz : w.heap.size + 2 ≤ (wc.setCell ⟨db, 0, none⟩ (.int .i64 (at_ : Int))).heap.size := by simp; omega
            clear hE r0 r1 s3 hde
            go_upto_region 11 with fail
            generalize wc.setCell ⟨db, 0, none⟩ (.int .i64 (at_ : Int)) = wd at *
            obtain ⟨dpp, hdpp⟩ : ∃ d : Int, d = (at_ : Int) := ⟨_, rfl⟩
            rw [← hdpp] at HTD E1
            clear hdpp
            clear t2 t3 m2 m3 swc HTC HKC d1
          case' inr.inl =>
            have d1 : decide ((40 : Int) < (lv : Int)) = false := decide_eq_false (by omega)
            rw [if_neg (by omega)] at hE
            have E1 := Lib.hid hE
            have HTD := HTC
            have HKD := HKC
            have n0 := r0
            have n1 := r1
            have n3 := s3
            have nz : w.heap.size + 2 ≤ wc.heap.size := by omega
            clear hE r0 r1 s3 hde
            go_upto_region 11 with fail
            clear t2 t3 m2 m3 swc HTC HKC d1
            generalize wc = wd at *
            generalize hdpp : dp = dpp at HTD E1
            clear hdpp
          case' inr.inr =>
            have d1 : decide ((40 : Int) < (lv : Int)) = true := decide_eq_true (by omega)
            have d2 : decide (dp < 0) = false := decide_eq_false (by omega)
            rw [if_neg (by omega)] at hE
            have E1 := Lib.hid hE
            have HTD := HTC
            have HKD := HKC
            have n0 := r0
            have n1 := r1
            have n3 := s3
            have nz : w.heap.size + 2 ≤ wc.heap.size := by omega
            clear hE r0 r1 s3 hde
            go_upto_region 11 with fail
            clear t2 t3 m2 m3 swc HTC HKC d1
            generalize wc = wd at *
            generalize hdpp : dp = dpp at HTD E1
            clear hdpp
          all_goals (
            have hx1 : w.heap.size < wd.heap.size := by omega
            go_wp2_with fail
            go_loopw [15, 16] (fun nx ip wl => ∃ (i nxt : Nat) (wr2 dp2 : Int) (ib : Nat), nx = .int .i64 (nxt : Int) ∧ ip = .pointer (some ⟨ib, 0, none⟩) ∧
              LpI ⟨tp, wb, mb, db, fb, b, some ⟨cb, co, none⟩, c, cs⟩ w w.heap.size kids (.func (.func fid2) #[] #[]) (fun i nxt wr2 dp2 => kidsS (fun nx m wr dp => walkS cs f nx (lv + 1) m wr dp) (formS op).pk kids (kids.toNat - i) i nxt wr2 dp2) (at_ + 1) rr i nxt wr2 dp2 ib wl) (fun _ ip wl => kids.toNat - iOf ip wl)
            case atStart =>
              refine ⟨0, at_ + 1, wr, dpp, wd.heap.size, by simp, rfl, ⟨Nat.zero_le _, Nat.le_refl _, by simp only; omega, by simp, by simp, by omega, HTD.out.low HD.out ((Below.refl _ wd).alloc (Nat.le_refl _) _), HKD.out.alloc _, ?_, ?_, by simpa using E1.out⟩⟩
              · exact (((Below.refl _ wd).alloc (Nat.le_refl _) (.cells #[.int .i64 0] 3)).cell (p := ⟨w.heap.size, 1, none⟩) (by simp only; omega)).trans n1
              · exact (((Below.refl _ wd).alloc (Nat.le_refl _) (.cells #[.int .i64 0] 3)).cell (p := ⟨w.heap.size + 1, 3, none⟩) (by simp only; omega)).trans n3
            case round =>
              clear HTD HKD E1 n0 n1 n3 nz hx1
              obtain ⟨i, nxt, wr2, dp2, ib, rfl, rfl, hL⟩ := hrel
              have l1 := hL.ci
              have l2 := hL.zi
              have l3 := hL.ck
              have l4 := hL.tw.wr
              have l5 := hL.tw.fn
              simp only [TB.caps] at l4 l5
              have b1 := World.block_lt_of_cell? wr _ l1
              have b3 := World.block_lt_of_cell? wr _ l3
              have b4 := World.block_lt_of_cell? wr _ l4
              have b5 := World.block_lt_of_cell? wr _ l5
              simp only at b1 b3 b4 b5
              have HL := Lib.hid hL
              clear hL
              by_cases hik : i < kids.toNat
              · by_cases hw0 : wr2 < 0
                · have c1 : decide ((i : Int) < kids) = true := decide_eq_true (by omega)
                  have c2 : decide (wr2 < 0) = true := decide_eq_true hw0
                  have hn0 : ∀ k, w.heap.size ≤ k → ¬ noT ⟨tp, wb, mb, db, fb, b, some ⟨cb, co, none⟩, c, cs⟩ k := fun k hk h => by rcases h with h | h <;> simp only at h <;> omega
                  have hcall := IH.out nxt (lv + 1) _ _ wr2 dp2 wr HL.out.tw (may_part (pk := (formS op).pk) (i := (i : Int)) (n := kids) (by omega) hkb.1 (by omega) (by rw [HE2.out]; exact HL.out.cf) l1 l3 (hn0 _ (by omega)) (hn0 _ (by have := HL.out.bi; omega)) (hn0 _ (by omega))) hw0 (by have := HL.out.lo; omega) HL.out.nx (by have := HL.out.lo; have := HL.out.nx; simp only at this ⊢; omega)
                  have HC := Lib.hid hcall
                  clear hcall
                  go_wp2_with fail
                  refine HC.out.mono ?_
                  rintro e w2 ⟨rfl, ht2, hk2⟩
                  have z2 := hk2.size
                  have HT2 := Lib.hid ht2
                  have HK2 := Lib.hid hk2
                  have HBD := Lib.hid (walk_bounds cs f nxt (lv + 1) (partOk (formS op).pk i kids) wr2 dp2 HL.out.nx)
                  have HEQ := Lib.hid (show rr = kidsS (fun nx m wr dp => walkS cs f nx (lv + 1) m wr dp) (formS op).pk kids (kids.toNat - (i + 1)) (i + 1) (walkS cs f nxt (lv + 1) (partOk (formS op).pk i kids) wr2 dp2).1 (walkS cs f nxt (lv + 1) (partOk (formS op).pk i kids) wr2 dp2).2.1 (walkS cs f nxt (lv + 1) (partOk (formS op).pk i kids) wr2 dp2).2.2 from by
                    have he : rr = kidsS (fun nx m wr dp => walkS cs f nx (lv + 1) m wr dp) (formS op).pk kids (kids.toNat - i) i nxt wr2 dp2 := HL.out.eq
                    rw [show kids.toNat - i = (kids.toNat - (i + 1)) + 1 by omega, kidsS, if_pos hw0] at he
                    exact he)
                  have j1 := (hk2.cell (p := ⟨ib, 0, none⟩) b1 (hn0 ib (by have := HL.out.bi; omega))).trans l1
                  have HJ3 := Lib.hid ((hk2.cell (p := ⟨w.heap.size, 1, none⟩) b3 (hn0 w.heap.size (Nat.le_refl _))).trans l3)
                  have HJ4 := Lib.hid ((hk2.cell (p := ⟨w.heap.size + 1, 3, none⟩) (World.block_lt_of_cell? wr _ HL.out.cf) (hn0 (w.heap.size + 1) (by omega))).trans HL.out.cf)
                  have hw3 : IntKind.i64.wrap ((i : Int) + 1) = (i : Int) + 1 := by rw [IntKind.wrap_i64]; omega
                  clear ht2 hk2 l1 l2 l3 l4 l5 c1 c2 HC
                  generalize walkS cs f nxt (lv + 1) (partOk (formS op).pk i kids) wr2 dp2 = q at *
                  go_wp2_with fail
                  go_roundw
                  case rel =>
                    refine ⟨i + 1, q.1, q.2.1, q.2.2, w2.heap.size, rfl, rfl, ?_⟩
                    have hbd := HBD.out
                    have hlo := HL.out.lo
                    have hbi := HL.out.bi
                    exact ⟨by omega, by omega, hbd.2, by simp, by simp, by omega, HT2.out.low HD.out ((Below.refl _ w2).alloc (Nat.le_refl _) _), (HL.out.kp.trans HK2.out).alloc _,
                      (((Below.refl _ w2).alloc (Nat.le_refl _) (.cells #[.int .i64 ((i : Int) + 1)] 3)).cell (p := ⟨w.heap.size, 1, none⟩) (by simp only; omega)).trans HJ3.out,
                      (((Below.refl _ w2).alloc (Nat.le_refl _) (.cells #[.int .i64 ((i : Int) + 1)] 3)).cell (p := ⟨w.heap.size + 1, 3, none⟩) (by simp only; omega)).trans HJ4.out, HEQ.out⟩
                  case measure =>
                    have e1 : iOf (.pointer (some ⟨ib, 0, none⟩)) wr = i := by simp [iOf, HL.out.ci]
                    have e2 : iOf (.pointer (some ⟨w2.heap.size, 0, none⟩)) (w2.alloc (.cells #[.int .i64 ((i : Int) + 1)] 3)) = i + 1 := by simp [iOf]
                    rw [e1, e2]
                    omega
                · have c1 : decide ((i : Int) < kids) = true := decide_eq_true (by omega)
                  have c2 : decide (wr2 < 0) = false := decide_eq_false hw0
                  have HEQ := Lib.hid (show rr = (nxt, wr2, dp2) from by
                    have he : rr = kidsS (fun nx m wr dp => walkS cs f nx (lv + 1) m wr dp) (formS op).pk kids (kids.toNat - i) i nxt wr2 dp2 := HL.out.eq
                    rw [show kids.toNat - i = (kids.toNat - (i + 1)) + 1 by omega, kidsS, if_neg hw0] at he
                    exact he)
                  go_wp2_with fail
                  go_ret
                  exact ⟨by rw [HEQ.out]; rfl, by rw [HEQ.out]; exact HL.out.tw, HL.out.kp⟩
              · have c1 : decide ((i : Int) < kids) = false := decide_eq_false (by omega)
                have HEQ := Lib.hid (show rr = (nxt, wr2, dp2) from by
                    have he : rr = kidsS (fun nx m wr dp => walkS cs f nx (lv + 1) m wr dp) (formS op).pk kids (kids.toNat - i) i nxt wr2 dp2 := HL.out.eq
                    rw [show kids.toNat - i = 0 by omega, kidsS] at he
                    exact he)
                go_wp2_with fail
                go_ret
                exact ⟨by rw [HEQ.out]; rfl, by rw [HEQ.out]; exact HL.out.tw, HL.out.kp⟩)
/-- tree.Check's walk, at every depth. -/
theorem walk_any (x : TB) (hd : TD x) : ∀ (f at_ lv : Nat) (mv : Value) (may : Nat → Bool) (wr dp : Int) (w : World), TW x wr dp w → MayOk x mv may w → wr < 0 → x.cs.length < f + at_ → at_ ≤ x.cs.length → lv + (x.cs.length - at_) ≤ 4000 →
    Calls Try.prog 31 (#[.int .i64 (at_ : Int), .int .i64 (lv : Int), mv] ++ x.caps) w (TPost x (walkS x.cs f at_ lv may wr dp) w)
  | 0, at_, lv, mv, may, wr, dp, w, _, _, _, hf, hat, _ => absurd hf (by omega)
  | f + 1, at_, lv, mv, may, wr, dp, w, ht, hm, hwr, hf, hat, hlv => walk_step x hd f at_ lv mv may wr dp w ht hm hwr hf (walk_any x hd f) hat hlv
end Go.Proofs.Ytjfdokoigkdciaa

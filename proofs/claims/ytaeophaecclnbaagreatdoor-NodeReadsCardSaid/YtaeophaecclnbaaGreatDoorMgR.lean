/- The document's reads of numbers and texts, walked. Whether a complex number is fine, at any bits: the document's functions, walked. -/
import Derived.Test.YtaeophaecclnbaaGreatDoorMgB
import Derived.Test.YtaeophaecclnbaaGreatDoorMgC
namespace Go.Proofs.YtaeophaecclnbaaGreatDoor
open Go.RowKit

theorem ret_tup3 {a b c d e f : Value} (h : a = d) (h' : b = e) (h'' : c = f) : Ending.returned (.tuple #[a, b, c]) = .returned (.tuple #[d, e, f]) := by rw [h, h', h'']
theorem rnum_step {l : List UInt8} {k acc : Nat} (h : Nm l k acc) (hb : ¬ ((byt l k = 0 ∧ 0 < k) ∨ (k = 9 ∧ byt l k ≠ 1))) :
    IntKind.u64.wrap ((acc : Int) + IntKind.u64.wrap ((byt l k : Int) % 128 * 2 ^ (7 * k))) = ((acc + byt l k % 128 * 2 ^ (7 * k) : Nat) : Int) := by
  obtain ⟨u1, u2⟩ := h.u64 hb
  rw [show ((byt l k : Int) % 128) = ((byt l k % 128 : Nat) : Int) by omega, show (((byt l k % 128 : Nat) : Int) * 2 ^ (7 * k)) = ((byt l k % 128 * 2 ^ (7 * k) : Nat) : Int) by simp, wrap_u64_nat _ u2, ← Int.natCast_add, wrap_u64_nat _ u1]
theorem rnum_nine {l : List UInt8} {acc : Nat} (h : Nm l 9 acc) (hb : ¬ ((byt l 9 = 0 ∧ 0 < 9) ∨ (9 = 9 ∧ byt l 9 ≠ 1))) :
    IntKind.u64.wrap ((acc : Int) + (byt l 9 : Int) % 128 * 9223372036854775808) = ((acc + byt l 9 % 128 * 2 ^ (7 * 9) : Nat) : Int) := by
  obtain ⟨u1, _⟩ := h.u64 hb
  rw [show ((acc : Int) + (byt l 9 : Int) % 128 * 9223372036854775808) = ((acc + byt l 9 % 128 * 2 ^ (7 * 9) : Nat) : Int) by
    have e : (2 : Nat) ^ (7 * 9) = 9223372036854775808 := by decide
    rw [e]; omega, wrap_u64_nat _ u1]
set_option maxRecDepth 100000 in
set_option maxHeartbeats 4000000 in
theorem ruint_any {w : World} {A : Option Addr} {n cc : Nat} {l : List UInt8} (h : BS w A n cc l) (p : Nat) (hp : p ≤ n) :
    Calls Tryz.prog 46 #[.slice A n cc, .int .i64 p] w (RetB (.tuple #[.int .u64 ((numS (l.drop p)).1 : Int), .int .i64 ((p + (numS (l.drop p)).2.1 : Nat) : Int), .int .i64 (numS (l.drop p)).2.2]) w) := by
  have H := Lib.hid h
  have HL := Lib.hid (show (l.drop p).length = n - p by rw [List.length_drop, h.len])
  have hsm := h.small
  clear h
  go_enter Tryz.func46, Tryz.ntmps46
  go_wp2_with fail
  go_loop [7, 8] (fun a i => ∃ (k acc : Nat), i = .int .i64 k ∧ a = .int .u64 acc ∧ p + k ≤ n ∧ Nm (l.drop p) k acc) (fun _ i => 10 - (intOf i).toNat)
  case atStart => exact ⟨0, 0, rfl, rfl, by omega, Nm.start _⟩
  case round =>
    obtain ⟨k, acc, rfl, rfl, hkn, hnm⟩ := hrel
    have hle := hnm.le
    have NM := Lib.hid hnm
    clear hnm
    by_cases hlt : p + k < n
    · obtain ⟨b, off, rfl, hbl, hcell⟩ := H.out.bytes (by omega)
      have cb : w.cell? ⟨b, off + (p + k), none⟩ = some (.int .u8 (byt (l.drop p) k : Int)) := by rw [byt_drop]; exact hcell (p + k) (by omega)
      have hc8 := byt_lt (l.drop p) k
      have e9 : ((k : Int) == 9) = decide (k = 9) := by
        by_cases h9 : k = 9
        · subst h9; rfl
        · rw [decide_eq_false h9]; exact beq_eq_false_iff_ne.2 (by omega)
      have hlt' : k < (l.drop p).length := by rw [HL.out]; omega
      clear hcell
      by_cases hbad : (byt (l.drop p) k = 0 ∧ 0 < k) ∨ (k = 9 ∧ byt (l.drop p) k ≠ 1)
      · have E := Lib.hid (NM.out.bad hlt' hbad)
        clear e9 hlt'
        generalize byt (l.drop p) k = c at *
        go_wp2_with fail
        all_goals
          first
            | (exfalso; omega)
            | (go_ret3
               refine ⟨?_, Below.refl _ _⟩
               rw [E.out]
               dsimp only
               exact ret_tup3 rfl (int_eq (by omega)) rfl)
            | (obtain rfl : k = 9 := by omega
               go_ret3
               refine ⟨?_, Below.refl _ _⟩
               rw [E.out]
               dsimp only
               exact ret_tup3 rfl (int_eq (by omega)) rfl)
      · have ST := Lib.hid (rnum_step NM.out hbad)
        have LA := Lib.hid (fun h => NM.out.last hlt' hbad h)
        have MO := Lib.hid (fun h => NM.out.more hlt' hbad h)
        clear e9 hlt'
        by_cases h128 : byt (l.drop p) k < 128
        · have LA2 := Lib.hid (LA.out h128)
          have N9 : Hid (k = 9 → IntKind.u64.wrap ((acc : Int) + (byt (l.drop p) k : Int) % 128 * 9223372036854775808) = ((acc + byt (l.drop p) k % 128 * 2 ^ (7 * 9) : Nat) : Int)) := Lib.hid (fun h9 => by subst h9; exact rnum_nine NM.out hbad)
          generalize byt (l.drop p) k = c at *
          go_wp2_with fail
          all_goals first
            | (exfalso; omega)
            | (go_ret3
               refine ⟨?_, Below.refl _ _⟩
               rw [LA2.out]
               dsimp only
               exact ret_tup3 (int_eq ST.out) (int_eq (by omega)) rfl)
            | (obtain rfl : k = 9 := by omega
               go_ret3
               refine ⟨?_, Below.refl _ _⟩
               rw [LA2.out]
               dsimp only
               exact ret_tup3 (int_eq (N9.out rfl)) (int_eq (by omega)) rfl)
        · have MO2 := Lib.hid (MO.out h128)
          have hk9 : k ≠ 9 := by omega
          have hk9b : ((k : Int) == 9) = false := beq_eq_false_iff_ne.2 (by omega)
          generalize byt (l.drop p) k = c at *
          go_wp2_with fail
          all_goals first
            | (exfalso; omega)
            | (go_round
               case rel => exact ⟨k + 1, _, by go_num, int_eq ST.out, by omega, MO2.out⟩
               case measure => simp [intOf]; omega)
    · have E := Lib.hid (NM.out.ended (by rw [HL.out]; omega))
      go_wp2_with fail
      go_ret3
      refine ⟨?_, Below.refl _ _⟩
      rw [E.out, HL.out]
      dsimp only
      exact ret_tup3 rfl (int_eq (by omega)) rfl
end Go.Proofs.YtaeophaecclnbaaGreatDoor
namespace Go.Proofs.YtaeophaecclnbaaGreatDoor
open Go.RowKit

theorem zagI_odd {v : Nat} (h : v % 2 = 1) : zagI v = -((v : Int) / 2) - 1 := by unfold zagI; rw [if_pos h]; omega
theorem zagI_even {v : Nat} (h : ¬ v % 2 = 1) : zagI v = (v : Int) / 2 := by unfold zagI; rw [if_neg h]; omega
theorem zag_bad {l : List UInt8} (h : (numS l).2.2 ≠ 0) : zagI (numS l).1 = 0 := by rw [num_zero h]; rfl
set_option maxRecDepth 100000 in
theorem rint_any {w : World} {A : Option Addr} {n cc : Nat} {l : List UInt8} (h : BS w A n cc l) (p : Nat) (hp : p ≤ n) :
    Calls Tryz.prog 44 #[.slice A n cc, .int .i64 p] w (RetB (.tuple #[.int .i64 (zagI (numS (l.drop p)).1), .int .i64 ((p + (numS (l.drop p)).2.1 : Nat) : Int), .int .i64 (numS (l.drop p)).2.2]) w) := by
  go_enter Tryz.func44, Tryz.ntmps44
  go_wp2_with fail
  refine (ruint_any h p hp).mono ?_
  rintro e w1 ⟨rfl, hb⟩
  have HB := Lib.hid hb
  clear h hb
  have hv := num_lt (l.drop p)
  by_cases he : (numS (l.drop p)).2.2 = 0
  · have he1 : ((numS (l.drop p)).2.2 != 0) = false := by rw [he]; rfl
    clear he
    by_cases h2 : (numS (l.drop p)).1 % 2 = 1
    · have hb2 : (((numS (l.drop p)).1 : Int) % 2 == 1) = true := beq_iff_eq.2 (by omega)
      have Z := Lib.hid (zagI_odd h2)
      generalize (numS (l.drop p)).1 = v at *
      go_wp2_with fail
      go_ret3
      exact ⟨ret_tup3 (int_eq (by rw [Z.out])) rfl rfl, HB.out⟩
    · have hb2 : (((numS (l.drop p)).1 : Int) % 2 == 1) = false := beq_eq_false_iff_ne.2 (by omega)
      have Z := Lib.hid (zagI_even h2)
      generalize (numS (l.drop p)).1 = v at *
      go_wp2_with fail
      go_ret3
      exact ⟨ret_tup3 (int_eq (by rw [Z.out])) rfl rfl, HB.out⟩
  · have he1 : ((numS (l.drop p)).2.2 != 0) = true := bne_iff_ne.2 he
    have Z := Lib.hid (zag_bad he)
    clear he
    go_wp2_with fail
    go_ret3
    exact ⟨ret_tup3 (int_eq Z.out.symm) rfl rfl, HB.out⟩
set_option maxRecDepth 100000 in
set_option maxHeartbeats 2000000 in
theorem rtext_any {w : World} {A : Option Addr} {n cc : Nat} {l : List UInt8} (h : BS w A n cc l) (p : Nat) (hp : p ≤ n) :
    Calls Tryz.prog 43 #[.slice A n cc, .int .i64 p] w (RetB (.tuple #[.string (strB (textS (l.drop p)).1), .int .i64 ((p + (textS (l.drop p)).2.1 : Nat) : Int), .int .i64 (textS (l.drop p)).2.2]) w) := by
  have H := Lib.hid h
  have hsm := h.small
  have hcap := h.cap
  have hcapb := h.capb
  have hnil := Lib.hid h.nil
  go_enter Tryz.func43, Tryz.ntmps43
  go_wp2_with fail
  refine (ruint_any h p hp).mono ?_
  rintro e w1 ⟨rfl, hb⟩
  have HB := Lib.hid hb
  have HBS := Lib.hid (h.below hb)
  have HL := Lib.hid (show (l.drop p).length = n - p by rw [List.length_drop, h.len])
  have hv := num_lt (l.drop p)
  have hq := @num_pos (l.drop p)
  rw [HL.out] at hq
  clear h hb
  by_cases he : (numS (l.drop p)).2.2 = 0
  · have he1 : ((numS (l.drop p)).2.2 != 0) = false := by rw [he]; rfl
    have T1 := Lib.hid (text_short he)
    have T2 := Lib.hid (text_good he)
    have HEq := Lib.hid he
    clear he
    rw [HL.out] at T1 T2
    have DR := Lib.hid (show (l.drop p).drop (numS (l.drop p)).2.1 = l.drop (p + (numS (l.drop p)).2.1) by rw [List.drop_drop])
    rw [DR.out] at T2
    generalize (numS (l.drop p)).1 = v at *
    generalize (numS (l.drop p)).2.1 = q at *
    have hw1 : IntKind.i64.wrap ((n : Int) - ((p + q : Nat) : Int)) = (n : Int) - ((p + q : Nat) : Int) := IntWalk.i64_in _ (by omega)
    have hw2 : IntKind.u64.wrap ((n : Int) - ((p + q : Nat) : Int)) = (n : Int) - ((p + q : Nat) : Int) := by rw [IntKind.wrap_u64]; omega
    by_cases hs : n - p - q < v
    · have T := Lib.hid (T1.out hs)
      clear T1 T2
      go_wp2_with fail
      go_ret3
      refine ⟨?_, HB.out⟩
      rw [T.out]
      dsimp only
      exact ret_tup3 rfl (int_eq (by omega)) rfl
    · have T := Lib.hid (T2.out hs)
      clear T1 T2
      by_cases hv0 : 0 < v
      · obtain ⟨b, off, rfl, hbl, hcell⟩ := HBS.out.bytes (by omega)
        have hcv : ∀ cap, (convert 34 9 (.slice (some ⟨b, off + (p + q), none⟩) v cap)).run Tryz.prog w1 = .ok (.string (strB ((l.drop (p + q)).take v))) w1 := fun cap => by
          have := Go.Lib.run_convert_window (P := Tryz.prog) w1 34 5 9 Tryz.underlying34 Tryz.underlying5 Tryz.underlying9 b off (strB l) (rd_bytes HBS.out.len (fun j hj => hcell j (by omega))) (p + q) v cap (by show p + q + v ≤ l.length; have := HBS.out.len; omega)
          rw [ext_take] at this
          exact this
        clear hcell
        go_wp2_with fail
        go_ret3
        refine ⟨?_, HB.out⟩
        rw [T.out]
        dsimp only
        exact ret_tup3 rfl (int_eq (by omega)) (int_eq HEq.out)
      · obtain rfl : v = 0 := by omega
        have hcv : ∀ (q : Option Addr) (cap : Nat) (w : World), (convert 34 9 (.slice q 0 cap)).run Tryz.prog w = .ok (.string (strB [])) w := fun q cap w => by
          rw [run_convert_bytes_string w 34 9 5 q 0 cap Tryz.underlying34 Tryz.underlying5 Tryz.underlying9]
          cases q <;> simp [Conv.bytesToString, loadCells, go_sem] <;> rfl
        clear hs
        cases A with
        | none =>
          have hcc := hnil.out rfl
          subst hcc
          have hn0 : n = 0 := by omega
          subst hn0
          have hp0 : p = 0 := by omega
          subst hp0
          have hq0 : q = 0 := by omega
          subst hq0
          go_wp2_with fail
          all_goals
            go_ret3
            refine ⟨?_, HB.out⟩
            rw [T.out]
            dsimp only
            exact ret_tup3 rfl (int_eq (by omega)) (int_eq HEq.out)
        | some a =>
          by_cases hpc : p + q = cc
          · subst hpc
            go_wp2_with fail
            go_ret3
            refine ⟨?_, HB.out⟩
            rw [T.out]
            dsimp only
            exact ret_tup3 rfl (int_eq (by omega)) (int_eq HEq.out)
          · go_wp2_with fail
            go_ret3
            refine ⟨?_, HB.out⟩
            rw [T.out]
            dsimp only
            exact ret_tup3 rfl (int_eq (by omega)) (int_eq HEq.out)
  · have he1 : ((numS (l.drop p)).2.2 != 0) = true := bne_iff_ne.2 he
    have T := Lib.hid (text_bad he)
    clear he
    go_wp2_with fail
    go_ret3
    refine ⟨?_, HB.out⟩
    rw [T.out]
    rfl
end Go.Proofs.YtaeophaecclnbaaGreatDoor
namespace Go.Proofs.YtaeophaecclnbaaGreatDoor
open Go.RowKit

theorem read_max : Ieee.double.read 9218868437227405311 = .number false 9007199254740991 971 := by decide +kernel
theorem read_min : Ieee.double.read 18442240474082181119 = .number true 9007199254740991 971 := by decide +kernel
theorem read_bounds {x : Nat} {s : Bool} {m : Nat} {e : Int} (h : Ieee.double.read x = .number s m e) : m ≤ 9007199254740991 ∧ e ≤ 971 := by
  unfold Ieee.Format.read at h
  rw [sign_double, binade_double, inf_double, least_double] at h
  simp only at h
  split at h
  · injection h with h1 h2 h3
    omega
  · split at h
    · injection h with h1 h2 h3
      omega
    · split at h <;> cases h
theorem signed_zero (s : Bool) (m : Nat) : Ieee.signed s m 0 = if s then -(m : Int) else (m : Int) := by
  unfold Ieee.signed
  rw [Nat.shiftLeft_zero]
theorem order_max {x : Nat} (h : isNum x) : FloatKind.f64.format.order x 9218868437227405311 = some .lt ∨ FloatKind.f64.format.order x 9218868437227405311 = some .eq := by
  obtain ⟨s, m, e, h⟩ := h
  obtain ⟨hm, he⟩ := read_bounds h
  have ho : FloatKind.f64.format.order x 9218868437227405311 = some (compare (Ieee.signed s m (e - min e 971).toNat) (Ieee.signed false 9007199254740991 (971 - min e 971).toNat)) := by
    show (Ieee.double.read x).order (Ieee.double.read 9218868437227405311) = _
    rw [h, read_max]
    rfl
  rw [ho, show min e 971 = e by omega, show (e - e).toNat = 0 by omega]
  generalize (971 - e).toNat = d
  have hp := Nat.two_pow_pos d
  have hq : 9007199254740991 * 1 ≤ 9007199254740991 * 2 ^ d := Nat.mul_le_mul_left _ hp
  have hle : Ieee.signed s m 0 ≤ Ieee.signed false 9007199254740991 d := by
    rw [signed_zero]
    unfold Ieee.signed
    rw [Nat.shiftLeft_eq]
    generalize 9007199254740991 * 2 ^ d = z at hq
    cases s <;> simp <;> omega
  rcases Int.lt_or_eq_of_le hle with h1 | h1
  · exact .inl (by rw [Int.compare_eq_lt.2 h1])
  · exact .inr (by rw [Int.compare_eq_eq.2 h1])
theorem order_min {x : Nat} (h : isNum x) : FloatKind.f64.format.order x 18442240474082181119 = some .gt ∨ FloatKind.f64.format.order x 18442240474082181119 = some .eq := by
  obtain ⟨s, m, e, h⟩ := h
  obtain ⟨hm, he⟩ := read_bounds h
  have ho : FloatKind.f64.format.order x 18442240474082181119 = some (compare (Ieee.signed s m (e - min e 971).toNat) (Ieee.signed true 9007199254740991 (971 - min e 971).toNat)) := by
    show (Ieee.double.read x).order (Ieee.double.read 18442240474082181119) = _
    rw [h, read_min]
    rfl
  rw [ho, show min e 971 = e by omega, show (e - e).toNat = 0 by omega]
  generalize (971 - e).toNat = d
  have hp := Nat.two_pow_pos d
  have hq : 9007199254740991 * 1 ≤ 9007199254740991 * 2 ^ d := Nat.mul_le_mul_left _ hp
  have hle : Ieee.signed true 9007199254740991 d ≤ Ieee.signed s m 0 := by
    rw [signed_zero]
    unfold Ieee.signed
    rw [Nat.shiftLeft_eq]
    generalize 9007199254740991 * 2 ^ d = z at hq
    cases s <;> simp <;> omega
  rcases Int.lt_or_eq_of_le hle with h1 | h1
  · exact .inl (by rw [Int.compare_eq_gt.2 h1])
  · exact .inr (by rw [Int.compare_eq_eq.2 h1.symm])
theorem order_inf {x : Nat} {s : Bool} (h : Ieee.double.read x = .infinity s) : FloatKind.f64.format.order x x = some .eq ∧ FloatKind.f64.format.order x 9218868437227405311 = some (if s then .lt else .gt) ∧ FloatKind.f64.format.order x 18442240474082181119 = some (if s then .lt else .gt) := by
  refine ⟨?_, ?_, ?_⟩
  · show (Ieee.double.read x).order (Ieee.double.read x) = _
    rw [h]; cases s <;> rfl
  · show (Ieee.double.read x).order (Ieee.double.read 9218868437227405311) = _
    rw [h, read_max]; rfl
  · show (Ieee.double.read x).order (Ieee.double.read 18442240474082181119) = _
    rw [h, read_min]; rfl
theorem fin_inf {x : Nat} {s : Bool} (h : Ieee.double.read x = .infinity s) : fin x = false := by
  show (!(Ieee.double.read x).isNaN && !(Ieee.double.read x).isInfinity) = false
  rw [h]; rfl
theorem fin_nan {x : Nat} {s : Bool} {f : Nat} (h : Ieee.double.read x = .nan s f) : fin x = false := by
  show (!(Ieee.double.read x).isNaN && !(Ieee.double.read x).isInfinity) = false
  rw [h]; rfl
theorem rnan_any (x : Nat) (w : World) : Calls Tryz.prog 192 #[.float .f64 x] w (Ret (.bool (FloatKind.f64.format.order x x != some .eq)) w) := by
  go_enter Tryz.func192, Tryz.ntmps192
  go_wp2
  go_ret
  exact ⟨rfl, rfl⟩
theorem rended_all (x : Nat) (w : World) : Calls Tryz.prog 154 #[.float .f64 x] w (Ret (.bool (fin x)) w) := by
  have N := Lib.hid (rnan_any x)
  cases hr : Ieee.double.read x with
  | nan s f =>
    have o0 := order_nan hr x
    rw [fin_nan hr]
    rw [o0] at N
    rw [show ((none : Option Ordering) != some .eq) = true from rfl] at N
    clear hr o0
    go_enter Tryz.func154, Tryz.ntmps154
    go_wp2_with (go_at_call 192; refine (N.out _).mono ?_; rintro e w1 ⟨rfl, rfl⟩)
    go_ret
    exact ⟨rfl, rfl⟩
  | infinity s =>
    obtain ⟨o0, o1, o2⟩ := order_inf hr
    rw [fin_inf hr]
    rw [o0] at N
    rw [show ((some .eq : Option Ordering) != some .eq) = false from rfl] at N
    clear hr o0
    cases s
    all_goals
      go_enter Tryz.func154, Tryz.ntmps154
      go_wp2_with (go_at_call 192; refine (N.out _).mono ?_; rintro e w1 ⟨rfl, rfl⟩)
      go_ret
      exact ⟨rfl, rfl⟩
  | number s m e =>
    have hn : isNum x := ⟨s, m, e, hr⟩
    have o0 := order_self hn
    rw [fin_of_num hn]
    rw [o0] at N
    rw [show ((some .eq : Option Ordering) != some .eq) = false from rfl] at N
    have h1 := order_max hn
    have h2 := order_min hn
    clear hr o0 hn
    rcases h1 with o1 | o1 <;> rcases h2 with o2 | o2
    all_goals
      go_enter Tryz.func154, Tryz.ntmps154
      go_wp2_with (go_at_call 192; refine (N.out _).mono ?_; rintro e w1 ⟨rfl, rfl⟩)
      go_ret
      exact ⟨rfl, rfl⟩
set_option maxRecDepth 100000 in
theorem rminus_any (x : Nat) (w : World) : Calls Tryz.prog 155 #[.float .f64 x] w (Ret (.bool (decide (x = negZ))) w) := by
  have hb := bits_any x
  go_enter Tryz.func155, Tryz.ntmps155
  by_cases h : x = negZ
  · have hd : ((x : Int) == 9223372036854775808) = true := by rw [h]; rfl
    rw [decide_eq_true h]
    clear h
    go_wp2_with fail
    go_ret
    exact ⟨rfl, rfl⟩
  · have hd : ((x : Int) == 9223372036854775808) = false := beq_eq_false_iff_ne.2 (by unfold negZ at h; omega)
    rw [decide_eq_false h]
    clear h
    go_wp2_with fail
    go_ret
    exact ⟨rfl, rfl⟩
theorem rfine_all (x y : Nat) (w : World) : Calls Tryz.prog 122 #[.complex .f64 x y] w (Ret (.bool (fineB x y)) w) := by
  have EX := Lib.hid (rended_all x)
  have EY := Lib.hid (rended_all y)
  have MX := Lib.hid (rminus_any x)
  have MY := Lib.hid (rminus_any y)
  unfold fineB
  generalize fin x = a at *
  generalize fin y = b at *
  generalize decide (x = negZ) = c at *
  generalize decide (y = negZ) = d at *
  cases a with
  | false =>
    go_enter Tryz.func122, Tryz.ntmps122
    go_wp2_with fail
    refine (EX.out _).mono ?_
    rintro e w1 ⟨rfl, rfl⟩
    go_wp2_with fail
    go_ret
    exact ⟨rfl, rfl⟩
  | true =>
    cases b with
    | false =>
      go_enter Tryz.func122, Tryz.ntmps122
      go_wp2_with fail
      refine (EX.out _).mono ?_
      rintro e w1 ⟨rfl, rfl⟩
      go_wp2_with fail
      refine (EY.out _).mono ?_
      rintro e w2 ⟨rfl, rfl⟩
      go_wp2_with fail
      go_ret
      exact ⟨rfl, rfl⟩
    | true =>
      cases c with
      | true =>
        go_enter Tryz.func122, Tryz.ntmps122
        go_wp2_with fail
        refine (EX.out _).mono ?_
        rintro e w1 ⟨rfl, rfl⟩
        go_wp2_with fail
        refine (EY.out _).mono ?_
        rintro e w2 ⟨rfl, rfl⟩
        go_wp2_with fail
        refine (MX.out _).mono ?_
        rintro e w3 ⟨rfl, rfl⟩
        go_wp2_with fail
        go_ret
        exact ⟨rfl, rfl⟩
      | false =>
        go_enter Tryz.func122, Tryz.ntmps122
        go_wp2_with fail
        refine (EX.out _).mono ?_
        rintro e w1 ⟨rfl, rfl⟩
        go_wp2_with fail
        refine (EY.out _).mono ?_
        rintro e w2 ⟨rfl, rfl⟩
        go_wp2_with fail
        refine (MX.out _).mono ?_
        rintro e w3 ⟨rfl, rfl⟩
        go_wp2_with fail
        refine (MY.out _).mono ?_
        rintro e w4 ⟨rfl, rfl⟩
        go_wp2_with fail
        go_ret
        exact ⟨rfl, rfl⟩
end Go.Proofs.YtaeophaecclnbaaGreatDoor

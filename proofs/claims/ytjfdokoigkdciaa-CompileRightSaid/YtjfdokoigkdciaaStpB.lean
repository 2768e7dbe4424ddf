/- CompileSteps, walked: the plain law and the walk, joined. -/
import Derived.Test.YtjfdokoigkdciaaStpA
namespace Go.Proofs.Ytjfdokoigkdciaa
open Go.RowKit

theorem code_cost {cs : List InsV} (h : (slotS cs).2.2 = 0) : (codeS cs).countP costI = cs.countP cntT ∧ (codeS cs).length ≤ 3 * cs.length ∧ cs.length ≤ 2048 := by
  obtain ⟨h1, h2, _, _⟩ := slotS_ok h
  obtain ⟨t1, t2⟩ := treeS_right h1
  obtain ⟨_, _, l, c⟩ := comp_ok cs (slotS cs).1 (cs.length + 1) 0 cs.length _ t2 (by omega) 0
  refine ⟨?_, ?_, t1⟩
  · unfold codeS
    rw [c]
    unfold cntS
    simp
  · unfold codeS; omega
theorem countP_snoc {p : InsV → Bool} {z : List InsV} {k : Nat} (h : k < z.length) : (z.take (k + 1)).countP p = (z.take k).countP p + (if p (atV z k) then 1 else 0) := by
  rw [List.take_add_one, List.getElem?_eq_getElem h, Option.toList_some, List.countP_append, List.countP_cons, List.countP_nil]
  unfold atV
  rw [List.getD_eq_getElem?_getD, List.getElem?_eq_getElem h]
  simp
set_option maxRecDepth 100000 in
set_option maxHeartbeats 4000000 in
theorem steps_law (z : List InsV) (A : Option Addr) (n c : Nat) (w : World) (hn : n ≤ 9223372036854775807) (hl : z.length = n) (hc : CodeIn w A z) (hok : OkC z) :
    Calls Try.prog 3 #[.slice A n c] w (RetB (.bool true) w) := by
  subst hl
  have HW := Lib.hid wakes_any
  by_cases hbig : 5000 < z.length
  · have d1 : decide ((5000 : Int) < (z.length : Int)) = true := decide_eq_true (by omega)
    go_enter Try.func3, Try.ntmps3
    go_wp2_with fail
    refine (HW.out _).mono ?_
    rintro e w1 ⟨rfl, h1⟩
    go_wp2_with fail
    go_ret
    exact ⟨rfl, h1⟩
  · have d1 : decide ((5000 : Int) < (z.length : Int)) = false := decide_eq_false (by omega)
    have HC := Lib.hid hc
    have CA := Lib.hid (compile_any (c := c) hc hok hn)
    clear hc
    go_enter Try.func3, Try.ntmps3
    go_wp2_with fail
    refine CA.out.mono ?_
    rintro e w1 ⟨h1, h2 | h2⟩
    · obtain ⟨hf, A', cap, rfl, h3⟩ := h2
      obtain ⟨k1, k2, k3⟩ := code_cost hf
      have KC := Lib.hid k1
      have HB := Lib.hid h1
      have H3 := Lib.hid h3
      have HC1 := Lib.hid (HC.out.below h1 (Nat.le_refl _))
      have HOK := Lib.hid hok
      clear h1 h3 k1 hf hok CA
      generalize codeS z = code at *
      generalize (atV z 0).a - 1 = pv at *
      go_wp2_with fail
      go_loopw [7, 6] (fun i t wl => ∃ k : Nat, i = .int .i64 (k : Int) ∧ k ≤ z.length ∧ t = .int .i64 (((z.take k).countP cntT : Nat) : Int) ∧ wl = w1) (fun i _ _ => z.length - (intOf i).toNat)
      case atStart => exact ⟨0, rfl, Nat.zero_le _, rfl, rfl⟩
      case round =>
        obtain ⟨k, rfl, hk, rfl, rfl⟩ := hrel
        by_cases hlt : k < z.length
        · have c1 : decide ((k : Int) < (z.length : Int)) = true := decide_eq_true (by omega)
          have c2 : decide (k < z.length) = true := decide_eq_true hlt
          obtain ⟨b, off, rfl, hb, hck⟩ := HC1.out (by omega)
          obtain ⟨e0, _⟩ := hck k hlt
          have ES := Lib.hid (countP_snoc (p := cntT) hlt)
          have ecn : cntT (atV z k) = (!((atV z k).op == 1) && !((atV z k).op == 2) && !((atV z k).op == 3)) := rfl
          have hop := (HOK.out k hlt).1
          have hcl : ((z.take k).countP cntT : Int) ≤ 5000 := by have := List.countP_le_length (p := cntT) (l := z.take k); rw [List.length_take] at this; omega
          have hc0 : 0 ≤ ((z.take k).countP cntT : Int) := by omega
          rw [ecn] at ES
          have CO := Lib.hid (counted_any (atV z k).op wr)
          clear hck ecn
          generalize (!((atV z k).op == 1) && !((atV z k).op == 2) && !((atV z k).op == 3)) = cn at *
          generalize (atV z k).op = op at *
          go_wp2_with fail
          refine CO.out.mono ?_
          rintro e w5 ⟨rfl, rfl⟩
          cases cn with
          | true =>
            go_wp2_with fail
            go_roundw
            case rel => exact ⟨k + 1, by go_num, by omega, by rw [ES.out]; go_num, by first | rfl | trivial⟩
            case measure => simp [intOf]; omega
          | false =>
            go_wp2_with fail
            go_roundw
            case rel => exact ⟨k + 1, by go_num, by omega, by rw [ES.out]; rfl, by first | rfl | trivial⟩
            case measure => simp [intOf]; omega
        · obtain rfl : k = z.length := by omega
          have c2 : decide (z.length < z.length) = false := decide_eq_false (by omega)
          rw [List.take_length, ← KC.out]
          go_wp2_with fail
          go_loopw [9, 8] (fun i t wl => ∃ k : Nat, i = .int .i64 (k : Int) ∧ k ≤ code.length ∧ t = .int .i64 (((code.take k).countP costI : Nat) : Int) ∧ wl = wr) (fun i _ _ => code.length - (intOf i).toNat)
          case atStart => exact ⟨0, rfl, Nat.zero_le _, rfl, rfl⟩
          case round =>
            obtain ⟨k, rfl, hk, rfl, rfl⟩ := hrel
            by_cases hlt : k < code.length
            · have c1 : decide ((k : Int) < (code.length : Int)) = true := decide_eq_true (by omega)
              have c3 : decide (k < code.length) = true := decide_eq_true hlt
              obtain ⟨b, off, rfl, hb, hck⟩ := H3.out (by omega)
              obtain ⟨e0, _⟩ := hck k hlt
              have ES := Lib.hid (countP_snoc (p := costI) hlt)
              have ecn : costI (atV code k) = (!((atV code k).op == 1) && !((atV code k).op == 5) && !((atV code k).op == 28)) := rfl
              have hcl : ((code.take k).countP costI : Int) ≤ 50000 := by have := List.countP_le_length (p := costI) (l := code.take k); rw [List.length_take] at this; omega
              have hc0 : 0 ≤ ((code.take k).countP costI : Int) := by omega
              rw [ecn] at ES
              clear hck ecn
              generalize (atV code k).op = op at *
              rcases (show op = 1 ∨ op = 5 ∨ op = 28 ∨ (op ≠ 1 ∧ op ≠ 5 ∧ op ≠ 28) by omega) with h1 | h1 | h1 | ⟨h1, h5, h28⟩
              · have n1 : ((op : Int) != 1) = false := by simp; omega
                have EF := Lib.hid (show (!(op == 1) && !(op == 5) && !(op == 28)) = false by rw [h1]; rfl)
                clear h1
                go_wp2_with fail
                go_roundw
                case rel => exact ⟨k + 1, by go_num, by omega, by rw [ES.out, EF.out]; rfl, by first | rfl | trivial⟩
                case measure => simp [intOf]; omega
              · have n1 : ((op : Int) != 1) = true := by simp; omega
                have n5 : ((op : Int) != 5) = false := by simp; omega
                have EF := Lib.hid (show (!(op == 1) && !(op == 5) && !(op == 28)) = false by rw [h1]; rfl)
                clear h1
                go_wp2_with fail
                go_roundw
                case rel => exact ⟨k + 1, by go_num, by omega, by rw [ES.out, EF.out]; rfl, by first | rfl | trivial⟩
                case measure => simp [intOf]; omega
              · have n1 : ((op : Int) != 1) = true := by simp; omega
                have n5 : ((op : Int) != 5) = true := by simp; omega
                have n28 : ((op : Int) != 28) = false := by simp; omega
                have EF := Lib.hid (show (!(op == 1) && !(op == 5) && !(op == 28)) = false by rw [h1]; rfl)
                clear h1
                go_wp2_with fail
                go_roundw
                case rel => exact ⟨k + 1, by go_num, by omega, by rw [ES.out, EF.out]; rfl, by first | rfl | trivial⟩
                case measure => simp [intOf]; omega
              · have n1 : ((op : Int) != 1) = true := by simp; omega
                have n5 : ((op : Int) != 5) = true := by simp; omega
                have n28 : ((op : Int) != 28) = true := by simp; omega
                have EF := Lib.hid (show (!(op == 1) && !(op == 5) && !(op == 28)) = true by simp; omega)
                clear h1 h5 h28
                go_wp2_with fail
                go_roundw
                case rel => exact ⟨k + 1, by go_num, by omega, by rw [ES.out, EF.out]; go_num, by first | rfl | trivial⟩
                case measure => simp [intOf]; omega
            · obtain rfl : k = code.length := by omega
              have c3 : decide (code.length < code.length) = false := decide_eq_false (by omega)
              rw [List.take_length]
              go_wp2_with fail
              refine (HW.out _).mono ?_
              rintro e w5 ⟨rfl, h5⟩
              have H5 := Lib.hid (bthen HB.out h5)
              clear h5
              go_wp2_with fail
              go_ret
              exact ⟨rfl, H5.out⟩
    · obtain ⟨hf, rfl⟩ := h2
      have o1 : ((slotS z).2.2 == 0) = false := by simp [hf]
      have o2 : ((slotS z).2.2 != 0) = true := by simp [hf]
      have HB := Lib.hid h1
      clear hf h1
      go_wp2_with fail
      refine (HW.out _).mono ?_
      rintro e w5 ⟨rfl, h5⟩
      have H5 := Lib.hid (bthen HB.out h5)
      clear h5
      go_wp2_with fail
      go_ret
      exact ⟨rfl, H5.out⟩
end Go.Proofs.Ytjfdokoigkdciaa

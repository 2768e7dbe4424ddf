/- CompileRight, walked: the plain law and the walk, joined. -/
import Derived.Test.YtjfdokoigkdciaaRgtT
import Derived.Test.YtjfdokoigkdciaaStpB
import Derived.Test.YtjfdokoigkdciaaCircA
namespace Go.Proofs.Ytjfdokoigkdciaa
open Go.RowKit

theorem names_any {A : Option Addr} {c : Nat} {cs : List InsV} {w : World} (hc : CodeIn w A cs) (hok : OkC cs) (hl : cs.length ≤ 9223372036854775807) :
    Calls Try.prog 8 #[.slice A cs.length c] w (RetB (.tuple #[.int .i64 (slotS cs).2.1, .int .i64 (slotS cs).2.2]) w) := by
  have SA := Lib.hid (slots_any (c := c) hc hok hl)
  clear hc
  generalize slotS cs = r at *
  go_enter Try.func8, Try.ntmps8
  go_wp2_with fail
  refine SA.out.mono ?_
  rintro e w1 ⟨v, rfl, h1, h2⟩
  have HB := Lib.hid h2
  clear h1 h2 SA
  go_wp2_with fail
  go_ret2
  exact ⟨rfl, HB.out⟩
theorem cp_snoc {po : Nat → Bool} {z : List InsV} {k : Nat} (h : k < z.length) : cp po (z.take (k + 1)) = cp po (z.take k) + (if po (atV z k).op then 1 else 0) := countP_snoc (p := fun x => po x.op) h
theorem cp_le {po : Nat → Bool} {z : List InsV} {k : Nat} : cp po (z.take k) ≤ z.length := by
  have h1 := List.countP_le_length (p := fun x : InsV => po x.op) (l := z.take k)
  rw [List.length_take] at h1
  unfold cp
  omega
set_option maxRecDepth 100000 in
set_option maxHeartbeats 4000000 in
theorem right_law (z : List InsV) (A : Option Addr) (n c : Nat) (w : World) (hn : n ≤ 9223372036854775807) (hl : z.length = n) (hc : CodeIn w A z) (hok : OkC z) :
    Calls Try.prog 4 #[.slice A n c] w (RetB (.bool true) w) := by
  subst hl
  have HW := Lib.hid wakes_any
  by_cases hbig : 5000 < z.length
  · have d1 : decide ((5000 : Int) < (z.length : Int)) = true := decide_eq_true (by omega)
    go_enter Try.func4, Try.ntmps4
    go_wp2_with fail
    refine (HW.out _).mono ?_
    rintro e w1 ⟨rfl, h1⟩
    go_wp2_with fail
    go_ret
    exact ⟨rfl, h1⟩
  · have d1 : decide ((5000 : Int) < (z.length : Int)) = false := decide_eq_false (by omega)
    have HC := Lib.hid hc
    have CA := Lib.hid (compile_any (c := c) hc hok hn)
    have NA := Lib.hid (fun W (h : CodeIn W A z) => names_any (c := c) h hok hn)
    clear hc
    go_enter Try.func4, Try.ntmps4
    go_wp2_with fail
    refine CA.out.mono ?_
    rintro e w1 ⟨h1, h2 | h2⟩
    · obtain ⟨hf, A', cap, rfl, h3⟩ := h2
      have HR := Lib.hid (show CodeR z from flow_right hf)
      have hff : (slotS z).2.2 = 0 := hf
      have HB := Lib.hid h1
      have H3 := Lib.hid h3
      have HC1 := Lib.hid (HC.out.below h1 (Nat.le_refl _))
      have HOK := Lib.hid hok
      have HF := Lib.hid hff
      obtain ⟨k1, k2, k3⟩ := code_cost hf
      have hkb := tw_kidsC (rt_ok (treeS_right (slotS_ok hf).1).2)
      have h0 : 0 < z.length := by have := HR.out.pos; have : (codeS z).length = (flowC z).length := rfl; omega
      clear h1 h3 hf hok CA hff k1
      go_wp2_with fail
      refine (NA.out _ HC1.out).mono ?_
      rintro e w2 ⟨rfl, h5⟩
      have HB2 := Lib.hid (bthen HB.out h5)
      have H3' := Lib.hid (H3.out.below h5 (Nat.le_refl _))
      have HC2 := Lib.hid (HC1.out.below h5 (Nat.le_refl _))
      rw [HF.out]
      clear h5
      go_wp2_with fail
      have hcl : (codeS z).length ≤ 9223372036854775807 := by omega
      refine (check_any (cs := codeS z) H3'.out rfl HR.out.okc hcl _).mono ?_
      rintro e w3 ⟨rfl, h6⟩
      have HB3 := Lib.hid (bthen HB2.out h6)
      have H4 := Lib.hid (H3'.out.below h6 (Nat.le_refl _))
      have HC3 := Lib.hid (HC2.out.below h6 (Nat.le_refl _))
      rw [show (lookS (insL (codeS z)) ((atV z 0).a - 1)).e = 0 from HR.out.ok]
      clear h6
      have EF := Lib.hid HR.out.forks
      have EE := Lib.hid HR.out.ends
      have EL := Lib.hid HR.out.last
      have hpos : 0 < (codeS z).length := HR.out.pos
      have hlen : (codeS z).length ≤ 8192 := HR.out.len
      have hcf : flowC z = codeS z := rfl
      rw [hcf] at EF EE EL
      generalize codeS z = code at *
      generalize (lookS (insL code) ((atV z 0).a - 1)) = S at *
      obtain ⟨b, off, hA, hb, hck⟩ := HC3.out h0
      obtain ⟨_, e1, _⟩ := hck 0 h0
      rw [Nat.zero_mul, Nat.add_zero] at e1
      subst hA
      clear hck hcf
      have dl : decide ((8192 : Int) < (code.length : Int)) = false := decide_eq_false (by omega)
      have dz : decide (0 < z.length) = true := decide_eq_true h0
      go_wp2_with fail
      go_loopw [13, 12] (fun i t wl => ∃ k : Nat, i = .int .i64 (k : Int) ∧ k ≤ z.length ∧ t = .int .i64 ((cp (fun o => o == 53) (z.take k) : Nat) : Int) ∧ wl = w3) (fun i _ _ => z.length - (intOf i).toNat)
      case atStart => exact ⟨0, rfl, Nat.zero_le _, rfl, rfl⟩
      case round =>
        obtain ⟨k, rfl, hk, rfl, rfl⟩ := hrel
        by_cases hlt : k < z.length
        · have c1 : decide ((k : Int) < (z.length : Int)) = true := decide_eq_true (by omega)
          have c2 : decide (k < z.length) = true := decide_eq_true hlt
          obtain ⟨b, off, e, hb, hck⟩ := HC3.out (by omega)
          cases e
          obtain ⟨e0, _⟩ := hck k hlt
          have ES := Lib.hid (cp_snoc (po := fun o => o == 53) hlt)
          have hcl : (cp (fun o => o == 53) (z.take k) : Int) ≤ 5000 := by have := cp_le (po := fun o => o == 53) (z := z) (k := k); omega
          have hc0 : 0 ≤ (cp (fun o => o == 53) (z.take k) : Int) := by omega
          clear hck e1
          generalize (atV z k).op = op at *
          by_cases h53 : op = 53
          · have n1 : ((op : Int) == 53) = true := by simp; omega
            have EF2 := Lib.hid (show (op == 53) = true by simp [h53])
            clear h53
            go_wp2_with fail
            go_roundw
            case rel => exact ⟨k + 1, by go_num, by omega, by rw [ES.out, EF2.out]; go_num, by first | rfl | trivial⟩
            case measure => simp [intOf]; omega
          · have n1 : ((op : Int) == 53) = false := by simp; omega
            have EF2 := Lib.hid (show (op == 53) = false by simp [h53])
            clear h53
            go_wp2_with fail
            go_roundw
            case rel => exact ⟨k + 1, by go_num, by omega, by rw [ES.out, EF2.out]; rfl, by first | rfl | trivial⟩
            case measure => simp [intOf]; omega
        · obtain rfl : k = z.length := by omega
          have c2 : decide (z.length < z.length) = false := decide_eq_false (by omega)
          rw [List.take_length]
          go_wp2_with fail
          go_loopw [16, 14, 15] (fun i s t wl => ∃ k : Nat, i = .int .i64 (k : Int) ∧ k ≤ code.length ∧ s = .int .i64 ((cp (fun o => o == 53) (code.take k) : Nat) : Int) ∧ t = .int .i64 ((cp (fun o => o == 28) (code.take k) : Nat) : Int) ∧ wl = wr) (fun i _ _ _ => code.length - (intOf i).toNat)
          case atStart => exact ⟨0, rfl, Nat.zero_le _, rfl, rfl, rfl⟩
          case round =>
            obtain ⟨k, rfl, hk, rfl, rfl, rfl⟩ := hrel
            by_cases hlt : k < code.length
            · have c1 : decide ((k : Int) < (code.length : Int)) = true := decide_eq_true (by omega)
              have c3 : decide (k < code.length) = true := decide_eq_true hlt
              obtain ⟨b, off, rfl, hb, hck⟩ := H4.out (by omega)
              obtain ⟨e0, _⟩ := hck k hlt
              have ES := Lib.hid (cp_snoc (po := fun o => o == 53) hlt)
              have ET := Lib.hid (cp_snoc (po := fun o => o == 28) hlt)
              have hcl : (cp (fun o => o == 53) (code.take k) : Int) ≤ 50000 := by have := cp_le (po := fun o => o == 53) (z := code) (k := k); omega
              have hc0 : 0 ≤ (cp (fun o => o == 53) (code.take k) : Int) := by omega
              have hcm : (cp (fun o => o == 28) (code.take k) : Int) ≤ 50000 := by have := cp_le (po := fun o => o == 28) (z := code) (k := k); omega
              have hc2 : 0 ≤ (cp (fun o => o == 28) (code.take k) : Int) := by omega
              clear hck e1
              generalize (atV code k).op = op at *
              rcases (show op = 53 ∨ op = 28 ∨ (op ≠ 53 ∧ op ≠ 28) by omega) with h1 | h1 | ⟨h1, h2⟩
              · have n1 : ((op : Int) == 53) = true := by simp; omega
                have n5 : ((op : Int) == 28) = false := by simp; omega
                have EF1 := Lib.hid (show (op == 53) = true by simp [h1])
                have EF2 := Lib.hid (show (op == 28) = false by simp [h1])
                clear h1
                go_wp2_with fail
                go_roundw
                case rel => exact ⟨k + 1, by go_num, by omega, by rw [ES.out, EF1.out]; go_num, by rw [ET.out, EF2.out]; rfl, by first | rfl | trivial⟩
                case measure => simp [intOf]; omega
              · have n1 : ((op : Int) == 53) = false := by simp; omega
                have n5 : ((op : Int) == 28) = true := by simp; omega
                have EF1 := Lib.hid (show (op == 53) = false by simp [h1])
                have EF2 := Lib.hid (show (op == 28) = true by simp [h1])
                clear h1
                go_wp2_with fail
                go_roundw
                case rel => exact ⟨k + 1, by go_num, by omega, by rw [ES.out, EF1.out]; rfl, by rw [ET.out, EF2.out]; go_num, by first | rfl | trivial⟩
                case measure => simp [intOf]; omega
              · have n1 : ((op : Int) == 53) = false := by simp; omega
                have n5 : ((op : Int) == 28) = false := by simp; omega
                have EF1 := Lib.hid (show (op == 53) = false by simp [h1])
                have EF2 := Lib.hid (show (op == 28) = false by simp [h2])
                clear h1 h2
                go_wp2_with fail
                go_roundw
                case rel => exact ⟨k + 1, by go_num, by omega, by rw [ES.out, EF1.out]; rfl, by rw [ET.out, EF2.out]; rfl, by first | rfl | trivial⟩
                case measure => simp [intOf]; omega
            · obtain rfl : k = code.length := by omega
              have c3 : decide (code.length < code.length) = false := decide_eq_false (by omega)
              rw [List.take_length, EF.out, EE.out]
              obtain ⟨b, off, rfl, hb, hck⟩ := H4.out hpos
              obtain ⟨e0, _⟩ := hck (code.length - 1) (by omega)
              rw [EL.out] at e0
              have hcm : (cp (fun o => o == 53) z : Int) ≤ 5000 := by have := cp_le (po := fun o => o == 53) (z := z) (k := z.length); rw [List.take_length] at this; omega
              have hc2 : 0 ≤ (cp (fun o => o == 53) z : Int) := by omega
              clear hck e1
              generalize cp (fun o => o == 53) z = fk at *
              obtain ⟨m, hm⟩ : ∃ m, code.length = m + 1 := ⟨code.length - 1, by omega⟩
              rw [hm] at e0 c3 ⊢
              rw [Nat.add_sub_cancel] at e0
              have hm2 : m ≤ 8192 := by omega
              clear hm hcl hpos hlen k2 dl
              go_wp2_with fail
              refine (HW.out _).mono ?_
              rintro e w5 ⟨rfl, h5⟩
              have H5 := Lib.hid (bthen HB3.out h5)
              clear h5
              go_wp2_with fail
              go_ret
              exact ⟨rfl, H5.out⟩
    · obtain ⟨hf, rfl⟩ := h2
      have o1 : ((slotS z).2.2 == 0) = false := by simp [hf]
      have o2 : ((slotS z).2.2 != 0) = true := by simp [hf]
      have HB := Lib.hid h1
      have HC1 := Lib.hid (HC.out.below h1 (Nat.le_refl _))
      clear hf h1
      generalize slotS z = r at *
      go_wp2_with fail
      refine (NA.out _ HC1.out).mono ?_
      rintro e w4 ⟨rfl, h4⟩
      have HB4 := Lib.hid (bthen HB.out h4)
      clear h4
      go_wp2_with fail
      refine (HW.out _).mono ?_
      rintro e w5 ⟨rfl, h5⟩
      have H5 := Lib.hid (bthen HB4.out h5)
      clear h5
      go_wp2_with fail
      go_ret
      exact ⟨rfl, H5.out⟩
end Go.Proofs.Ytjfdokoigkdciaa

/- A quoted text, the reference's, walked. -/
import Derived.Test.YtefijgdbnjmifaaDoorLstB
import Derived.Deep.QuietTactic
import Derived.BigQuiet
namespace Go.Proofs.YtefijgdbnjmifaaDoor
open Go.RowKit

theorem ext_one (s : ByteArray) (k : Nat) (h : k < s.size) : s.extract k (k + 1) = sp [s[k]] := by
  apply ByteArray.ext
  apply Array.toList_inj.1
  rw [Lib.extract_data]
  have h' : k < s.data.toList.length := by simpa using h
  rw [List.drop_eq_getElem_cons h', show k + 1 - k = 1 by omega]
  simp [sp]
  rfl
def hexB : ByteArray := ⟨#[48, 49, 50, 51, 52, 53, 54, 55, 56, 57, 97, 98, 99, 100, 101, 102]⟩
theorem hexB_at : ∀ k : Fin 16, (hexB.data.toList)[k.val]? = some (hexC k.val) := by decide
theorem hex_ext (k : Nat) (h : k < 16) : (⟨#[48, 49, 50, 51, 52, 53, 54, 55, 56, 57, 97, 98, 99, 100, 101, 102]⟩ : ByteArray).extract k (k + 1) = sp [hexC k] := by
  have h16 : k < hexB.size := h
  have e := ext_one hexB k h16
  have g := hexB_at ⟨k, h⟩
  have g2 : hexB[k] = hexC k := by
    have : (hexB.data.toList)[k]? = some hexB[k] := by
      rw [List.getElem?_eq_getElem (by simpa using h16)]
      rfl
    rw [this] at g
    injection g
  rw [g2] at e
  exact e
set_option maxRecDepth 100000 in
set_option maxHeartbeats 2000000 in
theorem rquoted_any (s : ByteArray) (hs : s.size ≤ 1048576) (w : World) :
    Calls Tryd.prog 48 #[.string s] w (RetB (.string (sp (quotedS s.data.toList))) w) := by
  go_enter Tryd.func48, Tryd.ntmps48
  go_wp2_with fail
  go_loopw [4, 3] (fun i v wr => ∃ k : Nat, i = .int .i64 k ∧ k ≤ s.size ∧ v = .string (sp (quotedTo s.data.toList k)) ∧ Below w.heap.size w wr) (fun i _ _ => s.size - (intOf i).toNat)
  case atStart => exact ⟨0, rfl, Nat.zero_le _, by rw [quotedTo_zero]; rfl, Below.refl _ _⟩
  case round =>
    obtain ⟨k, rfl, hk, rfl, hb⟩ := hrel
    have HB := Lib.hid hb
    have QL := Lib.hid (quotedTo_len s.data.toList k)
    clear hb
    by_cases hlt : k < s.size
    · have ST := Lib.hid (show quotedTo s.data.toList (k + 1) = quotedTo s.data.toList k ++ qByte s[k] from quotedTo_succ s.data.toList k (by simpa using hlt))
      have hcc : s[k].toNat < 256 := s[k].toNat_lt
      generalize hcs : s[k] = c at *
      have HCS := Lib.hid hcs
      go_upto_region 6 with fail
      go_cut [30] (fun s30 wx => s30 = .bool (!odd c) ∧ wx = wr)
      case first =>
        by_cases h1 : c.toNat < 32
        · have b1 : decide ((32 : Int) ≤ (c.toNat : Int)) = false := decide_eq_false (by omega)
          have E := Lib.hid (odd_1 h1)
          clear h1
          go_wp2_with fail
          go_meet
          exact ⟨by rw [E.out]; rfl, rfl⟩
        · by_cases h2 : 126 < c.toNat
          · have b1 : decide ((32 : Int) ≤ (c.toNat : Int)) = true := decide_eq_true (by omega)
            have b2 : decide ((c.toNat : Int) ≤ 126) = false := decide_eq_false (by omega)
            have E := Lib.hid (odd_2 h2)
            clear h1 h2
            go_wp2_with fail
            go_meet
            exact ⟨by rw [E.out]; rfl, rfl⟩
          · by_cases h3 : c.toNat = 34
            · have b1 : decide ((32 : Int) ≤ (c.toNat : Int)) = true := decide_eq_true (by omega)
              have b2 : decide ((c.toNat : Int) ≤ 126) = true := decide_eq_true (by omega)
              have b3 : ((c.toNat : Int) != 34) = false := by rw [bne_eq_false_iff_eq]; omega
              have E := Lib.hid (odd_3 h3)
              clear h1 h2 h3
              go_wp2_with fail
              go_meet
              exact ⟨by rw [E.out]; rfl, rfl⟩
            · by_cases h4 : c.toNat = 92
              · have b1 : decide ((32 : Int) ≤ (c.toNat : Int)) = true := decide_eq_true (by omega)
                have b2 : decide ((c.toNat : Int) ≤ 126) = true := decide_eq_true (by omega)
                have b3 : ((c.toNat : Int) != 34) = true := bne_iff_ne.2 (by omega)
                have b4 : ((c.toNat : Int) != 92) = false := by rw [bne_eq_false_iff_eq]; omega
                have E := Lib.hid (odd_4 h4)
                clear h1 h2 h3 h4
                go_wp2_with fail
                go_meet
                exact ⟨by rw [E.out]; rfl, rfl⟩
              · have b1 : decide ((32 : Int) ≤ (c.toNat : Int)) = true := decide_eq_true (by omega)
                have b2 : decide ((c.toNat : Int) ≤ 126) = true := decide_eq_true (by omega)
                have b3 : ((c.toNat : Int) != 34) = true := bne_iff_ne.2 (by omega)
                have b4 : ((c.toNat : Int) != 92) = true := bne_iff_ne.2 (by omega)
                have E := Lib.hid (odd_0 h1 h2 h3 h4)
                clear h1 h2 h3 h4
                go_wp2_with fail
                go_meet
                exact ⟨by rw [E.out]; rfl, rfl⟩
      obtain ⟨rfl, rfl⟩ := hcut
      cases hodd : odd c with
      | true =>
        have E := Lib.hid (qByte_odd hodd)
        clear hodd
        have p0 : (0 : Int) ≤ (c.toNat : Int) / 16 := by omega
        have p1 : (c.toNat : Int) / 16 < 16 := by omega
        have p2 : (0 : Int) ≤ (c.toNat : Int) % 16 := by omega
        have p3 : (c.toNat : Int) % 16 < 16 := by omega
        have A1 : ∀ w, (Op.stringOp .add (sp (quotedTo s.data.toList k)) ⟨#[92, 120]⟩).run Tryd.prog w = .ok (.string (sp (quotedTo s.data.toList k ++ [92, 120]))) w := fun w => (add_str w _ _ (by rw [sp_size]; show _ + 2 ≤ _; have := QL.out; omega)).trans (by rw [show sp (quotedTo s.data.toList k) ++ ⟨#[92, 120]⟩ = sp (quotedTo s.data.toList k ++ [92, 120]) from str_app _ _])
        have A2 : ∀ w, (Op.stringOp .add (sp (quotedTo s.data.toList k ++ [92, 120])) ((⟨#[48, 49, 50, 51, 52, 53, 54, 55, 56, 57, 97, 98, 99, 100, 101, 102]⟩ : ByteArray).extract (c.toNat / 16) (c.toNat / 16 + 1))).run Tryd.prog w = .ok (.string (sp (quotedTo s.data.toList k ++ [92, 120, hexC (c.toNat / 16)]))) w := fun w => by
          rw [hex_ext _ (by omega)]
          exact (add_str w _ _ (by rw [sp_size, sp_size, List.length_append]; simp only [List.length_cons, List.length_nil]; have := QL.out; omega)).trans (by rw [show sp (quotedTo s.data.toList k ++ [92, 120]) ++ sp [hexC (c.toNat / 16)] = sp (quotedTo s.data.toList k ++ [92, 120, hexC (c.toNat / 16)]) from (str_app _ _).trans (by simp [sp])])
        have A3 : ∀ w, (Op.stringOp .add (sp (quotedTo s.data.toList k ++ [92, 120, hexC (c.toNat / 16)])) ((⟨#[48, 49, 50, 51, 52, 53, 54, 55, 56, 57, 97, 98, 99, 100, 101, 102]⟩ : ByteArray).extract (c.toNat % 16) (c.toNat % 16 + 1))).run Tryd.prog w = .ok (.string (sp (quotedTo s.data.toList (k + 1)))) w := fun w => by
          rw [hex_ext _ (by omega), ST.out, E.out]
          exact (add_str w _ _ (by rw [sp_size, sp_size, List.length_append]; simp only [List.length_cons, List.length_nil]; have := QL.out; omega)).trans (by
            rw [show sp (quotedTo s.data.toList k ++ [92, 120, hexC (c.toNat / 16)]) ++ sp [hexC (c.toNat % 16)] = sp (quotedTo s.data.toList k ++ [92, 120, hexC (c.toNat / 16)] ++ [hexC (c.toNat % 16)]) from str_app _ _]
            simp)
        go_wp2_with fail
        go_region
        all_goals
          go_wp2_with fail
          go_roundw
          case rel => exact ⟨k + 1, by go_num, by omega, rfl, HB.out.drew⟩
          case measure => simp [intOf]; omega
      | false =>
        have E := Lib.hid (qByte_even hodd)
        have A1 : ∀ w, (Op.stringOp .add (sp (quotedTo s.data.toList k)) (s.extract k (k + 1))).run Tryd.prog w = .ok (.string (sp (quotedTo s.data.toList k) ++ s.extract k (k + 1))) w := fun w => add_str w _ _ (by rw [sp_size, ByteArray.size_extract]; have := QL.out; omega)
        have XE := Lib.hid (show sp (quotedTo s.data.toList k) ++ s.extract k (k + 1) = sp (quotedTo s.data.toList (k + 1)) by rw [ext_one s k hlt, HCS.out, ST.out, E.out]; exact str_app _ _)
        clear hodd
        go_wp2_with fail
        go_roundw
        case rel => exact ⟨k + 1, by go_num, by omega, congrArg Value.string XE.out, HB.out⟩
        case measure => simp [intOf]; omega
    · have QA := Lib.hid (quotedTo_all s.data.toList k (by simpa using hlt))
      have A1 : ∀ w, (Op.stringOp .add (sp (quotedTo s.data.toList k)) ⟨#[34]⟩).run Tryd.prog w = .ok (.string (sp (quotedTo s.data.toList k) ++ ⟨#[34]⟩)) w := fun w => add_str w _ _ (by rw [sp_size]; show _ + 1 ≤ _; have := QL.out; omega)
      go_wp2_with fail
      go_ret
      exact ⟨congrArg (fun z => Ending.returned (.string z)) ((str_app (quotedTo s.data.toList k) [34]).trans (by rw [QA.out]; rfl)), HB.out⟩
end Go.Proofs.YtefijgdbnjmifaaDoor

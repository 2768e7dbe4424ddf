/- A quoted text, the program's, walked. -/
import Derived.Test.YtefijgdbnjmifaaDoorBytP
import Derived.Test.YtefijgdbnjmifaaDoorBytC
import Derived.Deep.DeepCutAuto
import Derived.Deep.RegionWith
import Derived.RegionTactic
import Derived.Lib.SlBytesRow
import Derived.Deep.RegionLaw
import Derived.Deep.AppendLies
namespace Go.Proofs.YtefijgdbnjmifaaDoor
open Go.RowKit

theorem OwnBy.one {w : World} {base : Nat} (b : UInt8) {x : Value} (hx : x = byteV b) (hb : base ≤ w.heap.size) : OwnBy (w.alloc (.cells #[x] 5)) base (.slice (some ⟨w.heap.size, 0, none⟩) 1 1) [b] := by
  subst hx
  exact ⟨rfl, .inr ⟨w.heap.size, 1, #[byteV b], rfl, hb, alloc_new _ _, Nat.le_refl _, by decide, rfl, rfl⟩⟩
theorem odd_1 {c : UInt8} (h : c.toNat < 32) : odd c = true := by simp [odd, h]
theorem odd_2 {c : UInt8} (h : 126 < c.toNat) : odd c = true := by simp [odd, h]
theorem odd_3 {c : UInt8} (h : c.toNat = 34) : odd c = true := by simp [odd, h]
theorem odd_4 {c : UInt8} (h : c.toNat = 92) : odd c = true := by simp [odd, h]
theorem odd_0 {c : UInt8} (h1 : ¬ c.toNat < 32) (h2 : ¬ 126 < c.toNat) (h3 : ¬ c.toNat = 34) (h4 : ¬ c.toNat = 92) : odd c = false := by simp [odd, h1, h2, h3, h4]
theorem addr_at (g j : Nat) : (⟨g, 0, none⟩ : Addr).add j = ⟨g, 0 + j, none⟩ := by
  unfold Addr.add
  split
  · rename_i h; subst h; rfl
  · rfl
theorem own_conv {w : World} {g cap : Nat} {bs : List UInt8} (h : ∀ j u, (bs.map byteV)[j]? = some u → w.cell? ((⟨g, 0, none⟩ : Addr).add j) = some u) :
    (convert 25 9 (.slice (some ⟨g, 0, none⟩) bs.length cap)).run Tryd.prog w = .ok (.string ⟨bs.toArray⟩) w := by
  have hb : Go.Lib.Bytes w g 0 ⟨bs.toArray⟩ := fun i hi => by
    have hi' : i < bs.length := hi
    have := h i (byteV bs[i]) (by simp [hi'])
    rw [addr_at] at this
    rw [this]
    rfl
  have := Go.Lib.run_convert_window (P := Tryd.prog) w 25 5 9 Tryd.underlying25 Tryd.underlying5 Tryd.underlying9 g 0 ⟨bs.toArray⟩ hb 0 bs.length cap (by show 0 + bs.length ≤ bs.length; omega)
  rw [show ((⟨bs.toArray⟩ : ByteArray).extract 0 (0 + bs.length)) = ⟨bs.toArray⟩ by
    apply ByteArray.ext
    apply Array.toList_inj.1
    rw [Lib.extract_data]
    simp] at this
  exact this
theorem hexi_0 : ∀ w : World, (Instr.index 9 (.string ⟨#[48, 49, 50, 51, 52, 53, 54, 55, 56, 57, 97, 98, 99, 100, 101, 102]⟩) (.int .u8 0)).run Tryd.prog w = .ok (.int .u8 ((hexC 0).toNat : Int)) w := fun _ => by kernel_rfl
theorem hexi_1 : ∀ w : World, (Instr.index 9 (.string ⟨#[48, 49, 50, 51, 52, 53, 54, 55, 56, 57, 97, 98, 99, 100, 101, 102]⟩) (.int .u8 1)).run Tryd.prog w = .ok (.int .u8 ((hexC 1).toNat : Int)) w := fun _ => by kernel_rfl
theorem hexi_2 : ∀ w : World, (Instr.index 9 (.string ⟨#[48, 49, 50, 51, 52, 53, 54, 55, 56, 57, 97, 98, 99, 100, 101, 102]⟩) (.int .u8 2)).run Tryd.prog w = .ok (.int .u8 ((hexC 2).toNat : Int)) w := fun _ => by kernel_rfl
theorem hexi_3 : ∀ w : World, (Instr.index 9 (.string ⟨#[48, 49, 50, 51, 52, 53, 54, 55, 56, 57, 97, 98, 99, 100, 101, 102]⟩) (.int .u8 3)).run Tryd.prog w = .ok (.int .u8 ((hexC 3).toNat : Int)) w := fun _ => by kernel_rfl
theorem hexi_4 : ∀ w : World, (Instr.index 9 (.string ⟨#[48, 49, 50, 51, 52, 53, 54, 55, 56, 57, 97, 98, 99, 100, 101, 102]⟩) (.int .u8 4)).run Tryd.prog w = .ok (.int .u8 ((hexC 4).toNat : Int)) w := fun _ => by kernel_rfl
theorem hexi_5 : ∀ w : World, (Instr.index 9 (.string ⟨#[48, 49, 50, 51, 52, 53, 54, 55, 56, 57, 97, 98, 99, 100, 101, 102]⟩) (.int .u8 5)).run Tryd.prog w = .ok (.int .u8 ((hexC 5).toNat : Int)) w := fun _ => by kernel_rfl
theorem hexi_6 : ∀ w : World, (Instr.index 9 (.string ⟨#[48, 49, 50, 51, 52, 53, 54, 55, 56, 57, 97, 98, 99, 100, 101, 102]⟩) (.int .u8 6)).run Tryd.prog w = .ok (.int .u8 ((hexC 6).toNat : Int)) w := fun _ => by kernel_rfl
theorem hexi_7 : ∀ w : World, (Instr.index 9 (.string ⟨#[48, 49, 50, 51, 52, 53, 54, 55, 56, 57, 97, 98, 99, 100, 101, 102]⟩) (.int .u8 7)).run Tryd.prog w = .ok (.int .u8 ((hexC 7).toNat : Int)) w := fun _ => by kernel_rfl
theorem hexi_8 : ∀ w : World, (Instr.index 9 (.string ⟨#[48, 49, 50, 51, 52, 53, 54, 55, 56, 57, 97, 98, 99, 100, 101, 102]⟩) (.int .u8 8)).run Tryd.prog w = .ok (.int .u8 ((hexC 8).toNat : Int)) w := fun _ => by kernel_rfl
theorem hexi_9 : ∀ w : World, (Instr.index 9 (.string ⟨#[48, 49, 50, 51, 52, 53, 54, 55, 56, 57, 97, 98, 99, 100, 101, 102]⟩) (.int .u8 9)).run Tryd.prog w = .ok (.int .u8 ((hexC 9).toNat : Int)) w := fun _ => by kernel_rfl
theorem hexi_10 : ∀ w : World, (Instr.index 9 (.string ⟨#[48, 49, 50, 51, 52, 53, 54, 55, 56, 57, 97, 98, 99, 100, 101, 102]⟩) (.int .u8 10)).run Tryd.prog w = .ok (.int .u8 ((hexC 10).toNat : Int)) w := fun _ => by kernel_rfl
theorem hexi_11 : ∀ w : World, (Instr.index 9 (.string ⟨#[48, 49, 50, 51, 52, 53, 54, 55, 56, 57, 97, 98, 99, 100, 101, 102]⟩) (.int .u8 11)).run Tryd.prog w = .ok (.int .u8 ((hexC 11).toNat : Int)) w := fun _ => by kernel_rfl
theorem hexi_12 : ∀ w : World, (Instr.index 9 (.string ⟨#[48, 49, 50, 51, 52, 53, 54, 55, 56, 57, 97, 98, 99, 100, 101, 102]⟩) (.int .u8 12)).run Tryd.prog w = .ok (.int .u8 ((hexC 12).toNat : Int)) w := fun _ => by kernel_rfl
theorem hexi_13 : ∀ w : World, (Instr.index 9 (.string ⟨#[48, 49, 50, 51, 52, 53, 54, 55, 56, 57, 97, 98, 99, 100, 101, 102]⟩) (.int .u8 13)).run Tryd.prog w = .ok (.int .u8 ((hexC 13).toNat : Int)) w := fun _ => by kernel_rfl
theorem hexi_14 : ∀ w : World, (Instr.index 9 (.string ⟨#[48, 49, 50, 51, 52, 53, 54, 55, 56, 57, 97, 98, 99, 100, 101, 102]⟩) (.int .u8 14)).run Tryd.prog w = .ok (.int .u8 ((hexC 14).toNat : Int)) w := fun _ => by kernel_rfl
theorem hexi_15 : ∀ w : World, (Instr.index 9 (.string ⟨#[48, 49, 50, 51, 52, 53, 54, 55, 56, 57, 97, 98, 99, 100, 101, 102]⟩) (.int .u8 15)).run Tryd.prog w = .ok (.int .u8 ((hexC 15).toNat : Int)) w := fun _ => by kernel_rfl
theorem hex_index (k : Nat) (h : k < 16) (w : World) : (Instr.index 9 (.string ⟨#[48, 49, 50, 51, 52, 53, 54, 55, 56, 57, 97, 98, 99, 100, 101, 102]⟩) (.int .u8 (k : Int))).run Tryd.prog w = .ok (.int .u8 ((hexC k).toNat : Int)) w := by
  have hk : k = 0 ∨ k = 1 ∨ k = 2 ∨ k = 3 ∨ k = 4 ∨ k = 5 ∨ k = 6 ∨ k = 7 ∨ k = 8 ∨ k = 9 ∨ k = 10 ∨ k = 11 ∨ k = 12 ∨ k = 13 ∨ k = 14 ∨ k = 15 := by omega
  rcases hk with rfl | rfl | rfl | rfl | rfl | rfl | rfl | rfl | rfl | rfl | rfl | rfl | rfl | rfl | rfl | rfl
  · exact hexi_0 w
  · exact hexi_1 w
  · exact hexi_2 w
  · exact hexi_3 w
  · exact hexi_4 w
  · exact hexi_5 w
  · exact hexi_6 w
  · exact hexi_7 w
  · exact hexi_8 w
  · exact hexi_9 w
  · exact hexi_10 w
  · exact hexi_11 w
  · exact hexi_12 w
  · exact hexi_13 w
  · exact hexi_14 w
  · exact hexi_15 w
theorem and15 (c : Nat) (h : c < 256) : bits .and .u8 (c : Int) 15 = ((c % 16 : Nat) : Int) := by
  have := (bits_nat .u8 8 (by decide) wraps_u8 c 15 (by omega) (by omega)).1
  rw [show c &&& 15 = c % 16 from Nat.and_two_pow_sub_one_eq_mod c 4] at this
  exact this
theorem cell_four_byte (w : World) (a b c d : Value) (t : TypeId) (g : Nat) (hg : w.heap.size = g) : ∀ j u, [a, b, c, d][j]? = some u → (w.alloc (.cells #[a, b, c, d] t)).cell? ((⟨g, 0, none⟩ : Addr).add j) = some u := by
  intro j u hj
  subst hg
  match j, hj with
  | 0, hj => simp at hj; subst hj; simp [Addr.add]
  | 1, hj => simp at hj; subst hj; simp [Addr.add]
  | 2, hj => simp at hj; subst hj; simp [Addr.add]
  | 3, hj => simp at hj; subst hj; simp [Addr.add]
  | j + 4, hj => simp at hj
set_option maxRecDepth 100000 in
set_option maxHeartbeats 2000000 in
theorem quoted_any (s : ByteArray) (hs : s.size ≤ 1048576) (w : World) :
    Calls Tryd.prog 46 #[.string s] w (RetB (.string (⟨(quotedS s.data.toList).toArray⟩)) w) := by
  obtain ⟨i0, hi, hz0, hz1, hz2⟩ := info_parts infoB
  have HI0 := Lib.hid hi
  have HZ0 := Lib.hid hz0
  have HZ1 := Lib.hid hz1
  have HZ2 := Lib.hid hz2
  clear hi hz0 hz1 hz2
  go_enter Tryd.func46, Tryd.ntmps46
  go_wp2_with fail
  go_loopw [9, 3] (fun i v wr => ∃ k : Nat, i = .int .i64 k ∧ k ≤ s.size ∧ OwnBy wr w.heap.size v (quotedTo s.data.toList k) ∧ Below w.heap.size w wr) (fun i _ _ => s.size - (intOf i).toNat)
  case atStart => exact ⟨0, rfl, Nat.zero_le _, by rw [quotedTo_zero]; exact OwnBy.one 34 rfl (Nat.le_refl _), by go_grown⟩
  case round =>
    obtain ⟨k, rfl, hk, ho, hb⟩ := hrel
    have HO := Lib.hid ho
    have HB := Lib.hid hb
    have hsz := hb.size
    have QL := Lib.hid (quotedTo_len s.data.toList k)
    clear ho
    by_cases hlt : k < s.size
    · have ST := Lib.hid (show quotedTo s.data.toList (k + 1) = quotedTo s.data.toList k ++ qByte s[k] from quotedTo_succ s.data.toList k (by simpa using hlt))
      have hcc : s[k].toNat < 256 := s[k].toNat_lt
      generalize hcs : s[k] = c at *
      have HCS := Lib.hid hcs
      go_upto_region 6 with fail
      go_cut [28] (fun s28 wx => s28 = .bool (odd c) ∧ OwnBy wx w.heap.size u3 (quotedTo s.data.toList k) ∧ Below w.heap.size w wx)
      case first =>
        by_cases h1 : c.toNat < 32
        · have b1 : decide ((c.toNat : Int) < 32) = true := decide_eq_true (by omega)
          have E := Lib.hid (odd_1 h1)
          clear h1
          go_wp2_with fail
          go_meet
          exact ⟨by rw [E.out], HO.out, HB.out⟩
        · by_cases h2 : 126 < c.toNat
          · have b1 : decide ((c.toNat : Int) < 32) = false := decide_eq_false (by omega)
            have b2 : decide ((126 : Int) < (c.toNat : Int)) = true := decide_eq_true (by omega)
            have E := Lib.hid (odd_2 h2)
            clear h1 h2
            go_wp2_with fail
            go_meet
            exact ⟨by rw [E.out], HO.out, HB.out⟩
          · by_cases h3 : c.toNat = 34
            · have b1 : decide ((c.toNat : Int) < 32) = false := decide_eq_false (by omega)
              have b2 : decide ((126 : Int) < (c.toNat : Int)) = false := decide_eq_false (by omega)
              have b3 : ((c.toNat : Int) == 34) = true := beq_iff_eq.2 (by omega)
              have E := Lib.hid (odd_3 h3)
              clear h1 h2 h3
              go_wp2_with fail
              go_meet
              exact ⟨by rw [E.out], HO.out, HB.out⟩
            · by_cases h4 : c.toNat = 92
              · have b1 : decide ((c.toNat : Int) < 32) = false := decide_eq_false (by omega)
                have b2 : decide ((126 : Int) < (c.toNat : Int)) = false := decide_eq_false (by omega)
                have b3 : ((c.toNat : Int) == 34) = false := beq_eq_false_iff_ne.2 (by omega)
                have b4 : ((c.toNat : Int) == 92) = true := beq_iff_eq.2 (by omega)
                have E := Lib.hid (odd_4 h4)
                clear h1 h2 h3 h4
                go_wp2_with fail
                go_meet
                exact ⟨by rw [E.out], HO.out, HB.out⟩
              · have b1 : decide ((c.toNat : Int) < 32) = false := decide_eq_false (by omega)
                have b2 : decide ((126 : Int) < (c.toNat : Int)) = false := decide_eq_false (by omega)
                have b3 : ((c.toNat : Int) == 34) = false := beq_eq_false_iff_ne.2 (by omega)
                have b4 : ((c.toNat : Int) == 92) = false := beq_eq_false_iff_ne.2 (by omega)
                have E := Lib.hid (odd_0 h1 h2 h3 h4)
                clear h1 h2 h3 h4
                go_wp2_with fail
                go_meet
                exact ⟨by rw [E.out], HO.out, HB.out⟩
      obtain ⟨rfl, ho2, hb2⟩ := hcut
      clear HO HB hb hsz
      have HO := Lib.hid ho2
      have hsz := hb2.size
      cases hodd : odd c with
      | true =>
        have E := Lib.hid (qByte_odd hodd)
        have hx1 : ∀ w, (Instr.index 9 (.string ⟨#[48, 49, 50, 51, 52, 53, 54, 55, 56, 57, 97, 98, 99, 100, 101, 102]⟩) (.int .u8 ((c.toNat : Int) / 16))).run Tryd.prog w = .ok (.int .u8 ((hexC (c.toNat / 16)).toNat : Int)) w := fun w => by
          rw [show ((c.toNat : Int) / 16) = ((c.toNat / 16 : Nat) : Int) by omega]; exact hex_index _ (by omega) w
        have hx2 : ∀ w, (Instr.index 9 (.string ⟨#[48, 49, 50, 51, 52, 53, 54, 55, 56, 57, 97, 98, 99, 100, 101, 102]⟩) (.int .u8 ((c.toNat : Int) % 16))).run Tryd.prog w = .ok (.int .u8 ((hexC (c.toNat % 16)).toNat : Int)) w := fun w => by
          rw [show ((c.toNat : Int) % 16) = ((c.toNat % 16 : Nat) : Int) by omega]; exact hex_index _ (by omega) w
        have hnd := and15 c.toNat hcc
        clear hodd ho2
        go_wp2_with fail
        go_region_law (refine step_append_lies _ (by rfl) _ _ 25 (by rfl) w.heap.size 5 i0 (.int .u8 0) 1 1 Tryd.underlying25 HI0.out HZ0.out HZ1.out HZ2.out rfl (by decide) _ (quotedTo s.data.toList k).length ((quotedTo s.data.toList k).map byteV) (by rfl) (by exact own_below HO.out (by go_grown)) ⟨wc.heap.size, 0, none⟩ 4 4 [.int .u8 92, .int .u8 120, .int .u8 ((hexC (c.toNat / 16)).toNat : Int), .int .u8 ((hexC (c.toNat % 16)).toNat : Int)] (by rfl) (by rfl) (by exact cell_four_byte _ _ _ _ _ _ _ (by first | rfl | simp)) (by intro u hu; simp at hu; rcases hu with rfl | rfl | rfl | rfl <;> rfl) (by omega) (by unfold maxLen; have := QL.out; omega) (by have := QL.out; omega) (by simp; omega) _ (by rfl) ?_; intro g' cap' w3 hown' hgrow _ _)
        all_goals
          have HOW := Lib.hid (show OwnBy w3 w.heap.size (.slice (some ⟨g', 0, none⟩) ((quotedTo s.data.toList k).length + 4) cap') (quotedTo s.data.toList (k + 1)) from OwnBy.of hown' (by rw [ST.out, E.out]; simp) (by rw [ST.out, E.out]; simp [byteV]))
          have HBW := Lib.hid (show Below w.heap.size w w3 from Below.grown (by go_grown) hgrow (by simp; omega) (fun q e => own_base HO.out e))
          clear hown' hgrow hx1 hx2 hnd
          go_wp2_with fail
          go_roundw
          case rel => exact ⟨k + 1, by go_num, by omega, HOW.out, HBW.out⟩
          case measure => simp [intOf]; omega
      | false =>
        have E := Lib.hid (qByte_even hodd)
        clear hodd ho2
        go_wp2_with (at_builtin; refine wpList_append_own _ rfl _ _ 25 rfl w.heap.size 5 i0 (.int .u8 0) 1 1 Tryd.underlying25 HI0.out HZ0.out HZ1.out HZ2.out rfl (by decide) _ (quotedTo s.data.toList k).length ((quotedTo s.data.toList k).map byteV) rfl ?own ⟨wc.heap.size, 0, none⟩ 1 1 [.int .u8 (c.toNat : Int)] rfl rfl ?c1 ?c2 ?c3 ?c4 ?c5 ?_)
        case own => exact own_below HO.out (by go_grown)
        case c1 => exact cell_byte_new _ _ _ _ rfl
        case c2 => intro u hu; simp at hu; subst hu; rfl
        case c3 => unfold maxLen; have := QL.out; omega
        case c4 => have := QL.out; omega
        case c5 => simp; omega
        intro v' w3 hown' hgrow _
        have HOW := Lib.hid (show OwnBy w3 w.heap.size v' (quotedTo s.data.toList (k + 1)) from OwnBy.of hown' (by rw [ST.out, E.out]; simp) (by rw [ST.out, E.out]; simp [byteV]))
        have HBW := Lib.hid (show Below w.heap.size w w3 from Below.grown (by go_grown) hgrow (by simp; omega) (fun q e => own_base HO.out e))
        clear hown' hgrow
        go_wp2_with fail
        go_roundw
        case rel => exact ⟨k + 1, by go_num, by omega, HOW.out, HBW.out⟩
        case measure => simp [intOf]; omega
    · have QA := Lib.hid (quotedTo_all s.data.toList k (by simpa using hlt))
      go_wp2_with (at_builtin; refine wpList_append_own _ rfl _ _ 25 rfl w.heap.size 5 i0 (.int .u8 0) 1 1 Tryd.underlying25 HI0.out HZ0.out HZ1.out HZ2.out rfl (by decide) _ (quotedTo s.data.toList k).length ((quotedTo s.data.toList k).map byteV) rfl ?own ⟨wr.heap.size, 0, none⟩ 1 1 [.int .u8 34] rfl rfl ?c1 ?c2 ?c3 ?c4 ?c5 ?_)
      case own => exact own_below HO.out (by go_grown)
      case c1 => exact cell_byte_new _ _ _ _ rfl
      case c2 => intro u hu; simp at hu; subst hu; rfl
      case c3 => unfold maxLen; have := QL.out; omega
      case c4 => have := QL.out; omega
      case c5 => simp; omega
      intro v' w3 hown' hgrow _
      have HOW := Lib.hid (show OwnBy w3 w.heap.size v' (quotedS s.data.toList) from OwnBy.of hown' (by rw [← QA.out]; simp) (by rw [← QA.out]; simp [byteV]))
      have HBW := Lib.hid (show Below w.heap.size w w3 from Below.grown (by go_grown) hgrow (by simp; omega) (fun q e => own_base HO.out e))
      clear hown' hgrow
      obtain ⟨g, cap, rfl, hsrc⟩ := HOW.out.src (by unfold quotedS; simp)
      have hcv := own_conv (cap := cap) hsrc
      clear hsrc
      go_wp2_with fail
      go_ret
      exact ⟨rfl, HBW.out⟩
end Go.Proofs.YtefijgdbnjmifaaDoor

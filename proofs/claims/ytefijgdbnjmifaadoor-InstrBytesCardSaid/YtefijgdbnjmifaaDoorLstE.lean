/- An instruction's line and code's text, the reference's, walked. Printed by a program. -/
import Derived.Test.YtefijgdbnjmifaaDoorLstC
import Derived.Test.YtefijgdbnjmifaaDoorLstD
import Derived.Test.YtefijgdbnjmifaaDoorBytF
import Derived.Test.YtefijgdbnjmifaaDoorTextB
namespace Go.Proofs.YtefijgdbnjmifaaDoor
open Go.RowKit

theorem rw_text (a : Int) (ha : -9223372036854775808 ≤ a) (ha' : a ≤ 9223372036854775807) (w : World) :
    Calls Tryd.prog 47 #[.int .i64 a] w (RetB (.string (sp (Lib.itoa a))) w) := rwtext_any a ha ha' w
theorem add_sp (w : World) (l x : List UInt8) (b : ByteArray) (hb : b = sp x) (h : l.length + x.length ≤ 9223372036854775807) : (Op.stringOp .add (sp l) b).run Tryd.prog w = .ok (.string (sp (l ++ x))) w := by
  subst hb
  refine (add_str w _ _ (by rw [sp_size, sp_size]; exact h)).trans ?_
  rw [show sp l ++ sp x = sp (l ++ x) from str_app _ _]
theorem sp_list (s : ByteArray) : s = sp s.data.toList := (str_list s).symm
set_option maxRecDepth 100000 in
set_option maxHeartbeats 2000000 in
theorem rline_any (k : Nat) (hk : k ≤ 8192) (x : InsV) (hop : x.op < 256) (ha0 : 0 ≤ x.a) (ha8 : x.a ≤ 8192) (hi0 : -9223372036854775808 ≤ x.int) (hi1 : x.int ≤ 9223372036854775807) (ht : x.text.size ≤ 1048576) (w : World) :
    Calls Tryd.prog 30 #[.int .i64 k, x.val] w (RetB (.string (sp (lineS k x ++ [10]))) w) := by
  obtain ⟨op, a, int, text⟩ := x
  simp only at hop ha0 ha8 hi0 hi1 ht
  rw [show InsV.val ⟨op, a, int, text⟩ = (.agg #[.int .u8 (op : Int), .int .i64 a, .int .i64 int, .string text] : Value) from rfl]
  go_enter Tryd.func30, Tryd.ntmps30
  go_wp2_with fail
  refine (brow_agg op hop _).mono ?_
  rintro e w1 ⟨rfl, hb1⟩
  have hz1 := hb1.size
  simp only [World.size_alloc] at hz1
  have R0 : Rd w (w1.alloc (.cells (#[.string (wordK op), .int .i64 (aK op), .bool (numK op), .bool (decide (textK op = 1)), .bool (decide (textK op = 2)), .int .i64 (takesK op), .int .i64 (leaveK op)]) 33)) w.heap.size w1.heap.size ⟨op, a, int, text⟩ (#[.string (wordK op), .int .i64 (aK op), .bool (numK op), .bool (decide (textK op = 1)), .bool (decide (textK op = 2)), .int .i64 (takesK op), .int .i64 (leaveK op)]) 33 (.slice none 0 0) [] := by
    have hB : Below w.heap.size w w1 := bthen' ((Below.refl _ w).alloc (Nat.le_refl _) _) hb1 (Nat.le_refl _)
    exact ⟨hB.alloc (by omega) _, OwnBy.nil _ _, (Below.heap_alloc w1 _ w.heap.size (by omega)).trans ((hb1.block w.heap.size (by simp)).trans (alloc_new _ _)), alloc_new _ _⟩
  have HR0 := Lib.hid R0
  have zk := R0.klt
  have zx := R0.xlt
  clear R0 hb1
  have WL := wordK_len op
  have IL := itoa_len (a := (k : Int)) (by omega) (by omega)
  go_upto_region 2 with fail
  generalize w1.alloc (.cells (#[.string (wordK op), .int .i64 (aK op), .bool (numK op), .bool (decide (textK op = 1)), .bool (decide (textK op = 2)), .int .i64 (takesK op), .int .i64 (leaveK op)]) 33) = W1 at *
  generalize w1.heap.size = kb at *
  go_cut [6] (fun s6 wx => s6 = .string (sp (headTx k op)) ∧ Rd w wx w.heap.size kb ⟨op, a, int, text⟩ (#[.string (wordK op), .int .i64 (aK op), .bool (numK op), .bool (decide (textK op = 1)), .bool (decide (textK op = 2)), .int .i64 (takesK op), .int .i64 (leaveK op)]) 33 (.slice none 0 0) [])
  case first =>
    have e0 := cells_of HR0.out.hk 0
    simp only [List.getElem?_toArray, List.getElem?_cons_zero] at e0
    have A1 : ∀ w, (Op.stringOp .add (sp (Lib.itoa (k : Int))) ⟨#[32]⟩).run Tryd.prog w = .ok (.string (sp (Lib.itoa (k : Int) ++ [32]))) w := fun w => add_sp w _ [32] _ rfl (by simp only [List.length_cons, List.length_nil]; omega)
    have A2 : ∀ w, (Op.stringOp .add (sp (Lib.itoa (k : Int) ++ [32])) (wordK op)).run Tryd.prog w = .ok (.string (sp (headTx k op))) w := fun w => (add_sp w _ _ _ (sp_list (wordK op)) (by
      have e : (wordK op).data.toList.length = (wordK op).size := by simp
      rw [e, List.length_append]
      simp only [List.length_cons, List.length_nil]
      omega)).trans (by unfold headTx; simp)
    generalize headTx k op = h0 at *
    go_region_held3 (fun w' => w'.cell? ⟨kb, 0, none⟩ = some (.string (wordK op))) (first | exact e0 | exact f0) (first | (go_at_call 47; refine (rw_text (k : Int) (by omega) (by omega) _).mono ?_; rintro e w2 ⟨rfl, hb2⟩; have f0 := ((bcell hb2).1 kb 0 (by simp <;> omega)).trans e0))
    go_wp2_with fail
    go_meet
    exact ⟨rfl, HR0.out.below (bthen (by go_grown) hb2)⟩
  obtain ⟨rfl, hR⟩ := hcut
  have HR1 := Lib.hid hR
  have LL := Lib.hid (show (headTx k op).length ≤ 8000000 by
    unfold headTx
    rw [List.length_append, List.length_cons]
    have e : (wordK op).data.toList.length = (wordK op).size := by simp
    omega)
  clear hR HR0 zk zx
  generalize hh : headTx k op = h0 at *
  have HH0 := Lib.hid hh
  clear hh
  have c1 := cells_of HR1.out.hx 1
  have c2 := cells_of HR1.out.hx 2
  have c3 := cells_of HR1.out.hx 3
  have e1 := cells_of HR1.out.hk 1
  have e2 := cells_of HR1.out.hk 2
  have e3 := cells_of HR1.out.hk 3
  have e4 := cells_of HR1.out.hk 4
  simp only [List.getElem?_toArray, List.getElem?_cons_zero, List.getElem?_cons_succ] at c1 c2 c3 e1 e2 e3 e4
  go_upto_if 18 with fail
  go_cut [6] (fun s6 wx => s6 = .string (sp (h0 ++ aTx op a)) ∧ Rd w wx w.heap.size kb ⟨op, a, int, text⟩ (#[.string (wordK op), .int .i64 (aK op), .bool (numK op), .bool (decide (textK op = 1)), .bool (decide (textK op = 2)), .int .i64 (takesK op), .int .i64 (leaveK op)]) 33 (.slice none 0 0) [])
  case first =>
    by_cases hA : aK op = 0
    · have hAb : ((aK op : Int) != 0) = false := by rw [hA]; rfl
      have E := Lib.hid (aTx_no (a := a) hA)
      clear hA
      go_wp2_with fail
      go_meet
      exact ⟨by rw [E.out, List.append_nil], HR1.out⟩
    · have hAb : ((aK op : Int) != 0) = true := bne_iff_ne.2 (by omega)
      have E := Lib.hid (aTx_is (a := a) hA)
      clear hA
      have IA := itoa_len (a := a) (by omega) (by omega)
      have A1 : ∀ w, (Op.stringOp .add (sp h0) ⟨#[32]⟩).run Tryd.prog w = .ok (.string (sp (h0 ++ [32]))) w := fun w => add_sp w _ [32] _ rfl (by simp only [List.length_cons, List.length_nil]; have := LL.out; omega)
      have A2 : ∀ w, (Op.stringOp .add (sp (h0 ++ [32])) (sp (Lib.itoa a))).run Tryd.prog w = .ok (.string (sp (h0 ++ 32 :: Lib.itoa a))) w := fun w => (add_sp w _ _ _ rfl (by rw [List.length_append]; simp only [List.length_cons, List.length_nil]; have := LL.out; omega)).trans (by simp)
      go_wp2_with fail
      refine (rw_text a (by omega) (by omega) _).mono ?_
      rintro e w3 ⟨rfl, hb3⟩
      go_wp2_with fail
      go_meet
      exact ⟨by rw [E.out], HR1.out.below hb3⟩
  obtain ⟨rfl, hR⟩ := hcut
  have HR2 := Lib.hid hR
  have LL2 := Lib.hid (show (h0 ++ aTx op a).length ≤ 8000100 by
    rw [List.length_append]
    have h1 : (aTx op a).length ≤ 22 := by
      unfold aTx; split
      · exact Nat.zero_le _
      · have := itoa_len (a := a) (by omega) (by omega)
        simp only [List.length_cons]; omega
    have := LL.out
    omega)
  clear hR HR1 LL c1 c2 c3 e1 e2 e3 e4
  have LL := Lib.hid LL2.out
  clear LL2
  generalize hh : h0 ++ aTx op a = h1 at *
  have HH1 := Lib.hid hh
  clear hh
  have c1 := cells_of HR2.out.hx 1
  have c2 := cells_of HR2.out.hx 2
  have c3 := cells_of HR2.out.hx 3
  have e1 := cells_of HR2.out.hk 1
  have e2 := cells_of HR2.out.hk 2
  have e3 := cells_of HR2.out.hk 3
  have e4 := cells_of HR2.out.hk 4
  simp only [List.getElem?_toArray, List.getElem?_cons_zero, List.getElem?_cons_succ] at c1 c2 c3 e1 e2 e3 e4
  go_upto_if 26 with fail
  go_cut [6] (fun s6 wx => s6 = .string (sp (h1 ++ iTx op int)) ∧ Rd w wx w.heap.size kb ⟨op, a, int, text⟩ (#[.string (wordK op), .int .i64 (aK op), .bool (numK op), .bool (decide (textK op = 1)), .bool (decide (textK op = 2)), .int .i64 (takesK op), .int .i64 (leaveK op)]) 33 (.slice none 0 0) [])
  case first =>
    cases hI : numK op with
    | false =>
      have E := Lib.hid (iTx_no (x := int) hI)
      rw [hI] at e2
      clear hI
      go_wp2_with fail
      go_meet
      exact ⟨by rw [E.out, List.append_nil], HR2.out⟩
    | true =>
      have E := Lib.hid (iTx_is (x := int) hI)
      rw [hI] at e2
      clear hI
      have IA := itoa_len hi0 hi1
      have A1 : ∀ w, (Op.stringOp .add (sp h1) ⟨#[32]⟩).run Tryd.prog w = .ok (.string (sp (h1 ++ [32]))) w := fun w => add_sp w _ [32] _ rfl (by simp only [List.length_cons, List.length_nil]; have := LL.out; omega)
      have A2 : ∀ w, (Op.stringOp .add (sp (h1 ++ [32])) (sp (Lib.itoa int))).run Tryd.prog w = .ok (.string (sp (h1 ++ 32 :: Lib.itoa int))) w := fun w => (add_sp w _ _ _ rfl (by rw [List.length_append]; simp only [List.length_cons, List.length_nil]; have := LL.out; omega)).trans (by simp)
      go_wp2_with fail
      refine (rw_text int hi0 hi1 _).mono ?_
      rintro e w3 ⟨rfl, hb3⟩
      go_wp2_with fail
      go_meet
      exact ⟨by rw [E.out], HR2.out.below hb3⟩
  obtain ⟨rfl, hR⟩ := hcut
  have HR3 := Lib.hid hR
  have LL2 := Lib.hid (show (h1 ++ iTx op int).length ≤ 8000200 by
    rw [List.length_append]
    have h1 : (iTx op int).length ≤ 22 := by
      unfold iTx; split
      · have := itoa_len hi0 hi1
        simp only [List.length_cons]; omega
      · exact Nat.zero_le _
    have := LL.out
    omega)
  clear hR HR2 LL c1 c2 c3 e1 e2 e3 e4
  have LL := Lib.hid LL2.out
  clear LL2
  generalize hh : h1 ++ iTx op int = h2 at *
  have EL := Lib.hid (show lineS k ⟨op, a, int, text⟩ = h2 ++ tTx op text by unfold lineS; rw [HH0.out, HH1.out, hh])
  clear hh HH0 HH1
  have T3 : textK op = 0 ∨ textK op = 1 ∨ textK op = 2 := by unfold textK; (repeat' split) <;> simp
  have A1 : ∀ w, (Op.stringOp .add (sp h2) ⟨#[32]⟩).run Tryd.prog w = .ok (.string (sp (h2 ++ [32]))) w := fun w => add_sp w _ [32] _ rfl (by simp only [List.length_cons, List.length_nil]; have := LL.out; omega)
  have c1 := cells_of HR3.out.hx 1
  have c2 := cells_of HR3.out.hx 2
  have c3 := cells_of HR3.out.hx 3
  have e1 := cells_of HR3.out.hk 1
  have e2 := cells_of HR3.out.hk 2
  have e3 := cells_of HR3.out.hk 3
  have e4 := cells_of HR3.out.hk 4
  simp only [List.getElem?_toArray, List.getElem?_cons_zero, List.getElem?_cons_succ] at c1 c2 c3 e1 e2 e3 e4
  rcases T3 with hT | hT | hT
  · have t1 : decide (textK op = 1) = false := by rw [hT]; rfl
    have t2 : decide (textK op = 2) = false := by rw [hT]; rfl
    have E := Lib.hid (tTx_no (t := text) hT)
    rw [t1] at e3
    rw [t2] at e4
    clear hT t1 t2
    have A3 : ∀ w, (Op.stringOp .add (sp h2) ⟨#[10]⟩).run Tryd.prog w = .ok (.string (sp (h2 ++ [10]))) w := fun w => add_sp w _ [10] _ rfl (by simp only [List.length_cons, List.length_nil]; have := LL.out; omega)
    go_wp2_with fail
    go_ret
    exact ⟨by rw [EL.out, E.out, List.append_nil]; rfl, HR3.out.low⟩
  · have t1 : decide (textK op = 1) = true := by rw [hT]; rfl
    have t2 : decide (textK op = 2) = false := by rw [hT]; rfl
    have E := Lib.hid (tTx_any (t := text) hT)
    rw [t1] at e3
    rw [t2] at e4
    clear hT t1 t2
    have QL := quotedS_len text.data.toList
    have TL : text.data.toList.length = text.size := by simp
    have A2 : ∀ w, (Op.stringOp .add (sp (h2 ++ [32])) (sp (quotedS text.data.toList))).run Tryd.prog w = .ok (.string (sp (h2 ++ 32 :: quotedS text.data.toList))) w := fun w => (add_sp w _ _ _ rfl (by rw [List.length_append]; simp only [List.length_cons, List.length_nil]; have := LL.out; omega)).trans (by simp)
    have A3 : ∀ w, (Op.stringOp .add (sp (h2 ++ 32 :: quotedS text.data.toList)) ⟨#[10]⟩).run Tryd.prog w = .ok (.string (sp (lineS k ⟨op, a, int, text⟩ ++ [10]))) w := fun w => by rw [EL.out, E.out]; exact add_sp w _ [10] _ rfl (by rw [List.length_append]; simp only [List.length_cons, List.length_nil]; have := LL.out; omega)
    clear TL QL
    generalize lineS k ⟨op, a, int, text⟩ ++ [10] = fin at *
    have zk := HR3.out.klt
    go_wp2_with fail
    refine (rquoted_any text ht _).mono ?_
    rintro e w3 ⟨rfl, hb3⟩
    have f4 := ((bcell hb3).1 kb 4 zk).trans e4
    go_wp2_with fail
    go_ret
    exact ⟨rfl, bthen HR3.out.low hb3⟩
  · have t1 : decide (textK op = 1) = false := by rw [hT]; rfl
    have t2 : decide (textK op = 2) = true := by rw [hT]; rfl
    have E := Lib.hid (tTx_name (t := text) hT)
    rw [t1] at e3
    rw [t2] at e4
    clear hT t1 t2
    have TL : text.data.toList.length = text.size := by simp
    have A2 : ∀ w, (Op.stringOp .add (sp (h2 ++ [32])) text).run Tryd.prog w = .ok (.string (sp (h2 ++ 32 :: text.data.toList))) w := fun w => (add_sp w _ _ _ (sp_list text) (by rw [List.length_append, TL]; simp only [List.length_cons, List.length_nil]; have := LL.out; omega)).trans (by simp)
    have A3 : ∀ w, (Op.stringOp .add (sp (h2 ++ 32 :: text.data.toList)) ⟨#[10]⟩).run Tryd.prog w = .ok (.string (sp (lineS k ⟨op, a, int, text⟩ ++ [10]))) w := fun w => by rw [EL.out, E.out]; exact add_sp w _ [10] _ rfl (by rw [List.length_append]; simp only [List.length_cons, List.length_nil, TL]; have := LL.out; omega)
    clear TL
    generalize lineS k ⟨op, a, int, text⟩ ++ [10] = fin at *
    go_wp2_with fail
    go_ret
    exact ⟨rfl, HR3.out.low⟩
end Go.Proofs.YtefijgdbnjmifaaDoor

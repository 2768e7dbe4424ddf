/- An instruction's line, the program's, walked. -/
import Derived.Test.YtefijgdbnjmifaaDoorLstA
import Derived.Test.YtefijgdbnjmifaaDoorTextA
import Derived.Test.YtefijgdbnjmifaaDoorBytE
import Derived.Deep.RegionHeld3
import Derived.Deep.DeepCutAuto
namespace Go.Proofs.YtefijgdbnjmifaaDoor
open Go.RowKit

def sp (l : List UInt8) : ByteArray := ⟨l.toArray⟩
theorem sp_size (l : List UInt8) : (sp l).size = l.length := str_size l
theorem add_str (w : World) (a b : ByteArray) (h : a.size + b.size ≤ 9223372036854775807) : (Op.stringOp .add a b).run Tryd.prog w = .ok (.string (a ++ b)) w := run_string_add_sum (P := Tryd.prog) (w := w) a b h
theorem str_head (x : List UInt8) (s : ByteArray) : (⟨x.toArray⟩ : ByteArray) ++ ⟨#[32]⟩ ++ s = sp (x ++ 32 :: s.data.toList) := by
  have h1 : (⟨x.toArray⟩ : ByteArray) ++ ⟨#[32]⟩ = ⟨(x ++ [32]).toArray⟩ := str_app x [32]
  rw [h1]
  have h2 := str_app (x ++ [32]) s.data.toList
  rw [str_list] at h2
  rw [h2]
  unfold sp
  simp
theorem str_mid (l x : List UInt8) : sp l ++ ((⟨#[32]⟩ : ByteArray) ++ ⟨x.toArray⟩) = sp (l ++ 32 :: x) := by
  have h1 : (⟨#[32]⟩ : ByteArray) ++ ⟨x.toArray⟩ = ⟨(32 :: x).toArray⟩ := str_app [32] x
  rw [h1]
  exact str_app l (32 :: x)
theorem str_midS (l : List UInt8) (s : ByteArray) : sp l ++ ((⟨#[32]⟩ : ByteArray) ++ s) = sp (l ++ 32 :: s.data.toList) := by
  have := str_mid l s.data.toList
  rw [str_list] at this
  exact this
theorem words_len : ∀ l ∈ wordsL, l.length ≤ 7 := by decide
theorem wordK_len (op : Nat) : (wordK op).size ≤ 7 := by
  unfold wordK
  rw [str_size]
  rw [List.getD_eq_getElem?_getD]
  cases h : wordsL[op]? with
  | none => simp
  | some l => exact words_len l (List.mem_of_getElem? h)
set_option maxRecDepth 100000 in
set_option maxHeartbeats 2000000 in
theorem line_any (k : Nat) (hk : k ≤ 8192) (x : InsV) (hop : x.op < 256) (ha0 : 0 ≤ x.a) (ha8 : x.a ≤ 9223372036854775807) (hi0 : -9223372036854775808 ≤ x.int) (hi1 : x.int ≤ 9223372036854775807) (ht : x.text.size ≤ 1048576) (w : World) (hp : Pow10 w) :
    Calls Tryd.prog 27 #[.int .i64 k, x.val] w (RetB (.string (sp (lineS k x))) w) := by
  obtain ⟨op, a, int, text⟩ := x
  simp only at hop ha0 ha8 hi0 hi1 ht
  rw [show InsV.val ⟨op, a, int, text⟩ = (.agg #[.int .u8 (op : Int), .int .i64 a, .int .i64 int, .string text] : Value) from rfl]
  have HP := Lib.hid hp
  clear hp
  go_enter Tryd.func27, Tryd.ntmps27
  go_wp2_with fail
  refine (bkind_agg op hop _).mono ?_
  rintro e w1 ⟨rfl, hb1⟩
  have hz1 := hb1.size
  simp only [World.size_alloc] at hz1
  have R0 : Rd w (w1.alloc (.cells #[.string (wordK op), .int .u8 (aB op), .bool (numK op), .int .u8 (tB op), .int .i64 (takesK op), .int .i64 (leaveK op), .bool (manyK op), .bool (endsK op)] 46)) w.heap.size w1.heap.size ⟨op, a, int, text⟩ (#[.string (wordK op), .int .u8 (aB op), .bool (numK op), .int .u8 (tB op), .int .i64 (takesK op), .int .i64 (leaveK op), .bool (manyK op), .bool (endsK op)]) 46 (.slice none 0 0) [] := by
    have hB : Below w.heap.size w w1 := bthen' ((Below.refl _ w).alloc (Nat.le_refl _) _) hb1 (Nat.le_refl _)
    exact ⟨hB.alloc (by omega) _, OwnBy.nil _ _, (Below.heap_alloc w1 _ w.heap.size (by omega)).trans ((hb1.block w.heap.size (by simp)).trans (alloc_new _ _)), alloc_new _ _⟩
  have HR0 := Lib.hid R0
  have zk := R0.klt
  have zx := R0.xlt
  have HP1 := Lib.hid (HP.out.below R0.low)
  clear R0 hb1
  have WL := wordK_len op
  have IL := itoa_len (a := (k : Int)) (by omega) (by omega)
  go_upto_region 2 with fail
  generalize w1.alloc (.cells (#[.string (wordK op), .int .u8 (aB op), .bool (numK op), .int .u8 (tB op), .int .i64 (takesK op), .int .i64 (leaveK op), .bool (manyK op), .bool (endsK op)]) 46) = W1 at *
  generalize w1.heap.size = kb at *
  go_cut [6] (fun s6 wx => s6 = .string (sp (headTx k op)) ∧ Rd w wx w.heap.size kb ⟨op, a, int, text⟩ (#[.string (wordK op), .int .u8 (aB op), .bool (numK op), .int .u8 (tB op), .int .i64 (takesK op), .int .i64 (leaveK op), .bool (manyK op), .bool (endsK op)]) 46 (.slice none 0 0) [])
  case first =>
    have e0 := cells_of HR0.out.hk 0
    simp only [List.getElem?_toArray, List.getElem?_cons_zero] at e0
    have A1 : ∀ w, (Op.stringOp .add (⟨(Lib.itoa (k : Int)).toArray⟩ : ByteArray) ⟨#[32]⟩).run Tryd.prog w = .ok (.string ((⟨(Lib.itoa (k : Int)).toArray⟩ : ByteArray) ++ ⟨#[32]⟩)) w := fun w => add_str w _ _ (by rw [str_size]; show _ + 1 ≤ _; omega)
    have A2 : ∀ w, (Op.stringOp .add ((⟨(Lib.itoa (k : Int)).toArray⟩ : ByteArray) ++ ⟨#[32]⟩) (wordK op)).run Tryd.prog w = .ok (.string ((⟨(Lib.itoa (k : Int)).toArray⟩ : ByteArray) ++ ⟨#[32]⟩ ++ wordK op)) w := fun w => add_str w _ _ (by rw [ByteArray.size_append, str_size]; show _ + 1 + _ ≤ _; omega)
    go_region_held3 (fun w' => w'.cell? ⟨kb, 0, none⟩ = some (.string (wordK op))) (first | exact e0 | exact f0) (first | (go_at_call 44; refine (itoa_any (k : Int) (by omega) (by omega) _ (by exact HP1.out.below (by go_grown))).mono ?_; rintro e w2 ⟨rfl, hb2⟩; have f0 := ((bcell hb2).1 kb 0 (by simp <;> omega)).trans e0))
    go_wp2_with fail
    go_meet
    exact ⟨congrArg Value.string (str_head _ _), HR0.out.below (bthen (by go_grown) hb2)⟩
  obtain ⟨rfl, hR⟩ := hcut
  have HR1 := Lib.hid hR
  have HPa := Lib.hid (HP.out.below hR.low)
  have LL := Lib.hid (show (headTx k op).length ≤ 8000000 by
    unfold headTx
    rw [List.length_append, List.length_cons]
    have e : (wordK op).data.toList.length = (wordK op).size := by simp
    omega)
  clear hR HR0 HP1 zk zx
  generalize hh : headTx k op = h0 at *
  have HH0 := Lib.hid hh
  clear hh
  have c1 := cells_of HR1.out.hx 1
  have c2 := cells_of HR1.out.hx 2
  have c3 := cells_of HR1.out.hx 3
  have e1 := cells_of HR1.out.hk 1
  have e2 := cells_of HR1.out.hk 2
  have e3 := cells_of HR1.out.hk 3
  simp only [List.getElem?_toArray, List.getElem?_cons_zero, List.getElem?_cons_succ] at c1 c2 c3 e1 e2 e3
  go_upto_if 18 with fail
  go_cut [6] (fun s6 wx => s6 = .string (sp (h0 ++ aTx op a)) ∧ Rd w wx w.heap.size kb ⟨op, a, int, text⟩ (#[.string (wordK op), .int .u8 (aB op), .bool (numK op), .int .u8 (tB op), .int .i64 (takesK op), .int .i64 (leaveK op), .bool (manyK op), .bool (endsK op)]) 46 (.slice none 0 0) [])
  case first =>
    by_cases hA : aK op = 0
    · have hAb : (aB op != 0) = false := by rw [aB_ne]; simp [hA]
      have E := Lib.hid (aTx_no (a := a) hA)
      clear hA
      go_wp2_with fail
      go_meet
      exact ⟨by rw [E.out, List.append_nil], HR1.out⟩
    · have hAb : (aB op != 0) = true := by rw [aB_ne]; simp [hA]
      have E := Lib.hid (aTx_is (a := a) hA)
      clear hA
      have IA := itoa_len (a := a) (by omega) (by omega)
      have A1 : ∀ w, (Op.stringOp .add (⟨#[32]⟩ : ByteArray) (⟨(Lib.itoa a).toArray⟩ : ByteArray)).run Tryd.prog w = .ok (.string ((⟨#[32]⟩ : ByteArray) ++ (⟨(Lib.itoa a).toArray⟩ : ByteArray))) w := fun w => add_str w _ _ (by
        have hq : (⟨(Lib.itoa a).toArray⟩ : ByteArray).size ≤ 8000000 := by rw [str_size]; omega
        show 1 + _ ≤ _
        omega)
      have A2 : ∀ w, (Op.stringOp .add (sp (h0)) ((⟨#[32]⟩ : ByteArray) ++ (⟨(Lib.itoa a).toArray⟩ : ByteArray))).run Tryd.prog w = .ok (.string (sp (h0) ++ ((⟨#[32]⟩ : ByteArray) ++ (⟨(Lib.itoa a).toArray⟩ : ByteArray)))) w := fun w => add_str w _ _ (by
        have hq : (⟨(Lib.itoa a).toArray⟩ : ByteArray).size ≤ 8000000 := by rw [str_size]; omega
        rw [sp_size, ByteArray.size_append]
        have := LL.out
        show _ + (1 + _) ≤ _
        omega)
      go_wp2_with fail
      refine (itoa_any a (by omega) (by omega) _ HPa.out).mono ?_
      rintro e w3 ⟨rfl, hb3⟩
      go_wp2_with fail
      go_meet
      exact ⟨by rw [E.out]; exact congrArg Value.string (str_mid _ _), HR1.out.below hb3⟩
  obtain ⟨rfl, hR⟩ := hcut
  have HR2 := Lib.hid hR
  have HPb := Lib.hid (HP.out.below hR.low)
  have LL2 := Lib.hid (show (h0 ++ aTx op a).length ≤ 8000100 by
    rw [List.length_append]
    have h1 : (aTx op a).length ≤ 22 := by
      unfold aTx; split
      · exact Nat.zero_le _
      · have := itoa_len (a := a) (by omega) (by omega)
        simp only [List.length_cons]; omega
    have := LL.out
    omega)
  clear hR HR1 HPa LL c1 c2 c3 e1 e2 e3
  have LL := Lib.hid LL2.out
  clear LL2
  generalize hh : h0 ++ aTx op a = h1 at *
  have HH1 := Lib.hid hh
  clear hh
  have c1 := cells_of HR2.out.hx 1
  have c2 := cells_of HR2.out.hx 2
  have c3 := cells_of HR2.out.hx 3
  have e1 := cells_of HR2.out.hk 1
  have e2 := cells_of HR2.out.hk 2
  have e3 := cells_of HR2.out.hk 3
  simp only [List.getElem?_toArray, List.getElem?_cons_zero, List.getElem?_cons_succ] at c1 c2 c3 e1 e2 e3
  go_upto_if 26 with fail
  go_cut [6] (fun s6 wx => s6 = .string (sp (h1 ++ iTx op int)) ∧ Rd w wx w.heap.size kb ⟨op, a, int, text⟩ (#[.string (wordK op), .int .u8 (aB op), .bool (numK op), .int .u8 (tB op), .int .i64 (takesK op), .int .i64 (leaveK op), .bool (manyK op), .bool (endsK op)]) 46 (.slice none 0 0) [])
  case first =>
    cases hI : numK op with
    | false =>
      have E := Lib.hid (iTx_no (x := int) hI)
      rw [hI] at e2
      clear hI
      go_wp2_with fail
      go_meet
      exact ⟨by rw [E.out, List.append_nil], HR2.out⟩
    | true =>
      have E := Lib.hid (iTx_is (x := int) hI)
      rw [hI] at e2
      clear hI
      have IA := itoa_len hi0 hi1
      have A1 : ∀ w, (Op.stringOp .add (⟨#[32]⟩ : ByteArray) (⟨(Lib.itoa int).toArray⟩ : ByteArray)).run Tryd.prog w = .ok (.string ((⟨#[32]⟩ : ByteArray) ++ (⟨(Lib.itoa int).toArray⟩ : ByteArray))) w := fun w => add_str w _ _ (by
        have hq : (⟨(Lib.itoa int).toArray⟩ : ByteArray).size ≤ 8000000 := by rw [str_size]; omega
        show 1 + _ ≤ _
        omega)
      have A2 : ∀ w, (Op.stringOp .add (sp (h1)) ((⟨#[32]⟩ : ByteArray) ++ (⟨(Lib.itoa int).toArray⟩ : ByteArray))).run Tryd.prog w = .ok (.string (sp (h1) ++ ((⟨#[32]⟩ : ByteArray) ++ (⟨(Lib.itoa int).toArray⟩ : ByteArray)))) w := fun w => add_str w _ _ (by
        have hq : (⟨(Lib.itoa int).toArray⟩ : ByteArray).size ≤ 8000000 := by rw [str_size]; omega
        rw [sp_size, ByteArray.size_append]
        have := LL.out
        show _ + (1 + _) ≤ _
        omega)
      go_wp2_with fail
      refine (text_any int hi0 hi1 _ HPb.out).mono ?_
      rintro e w3 ⟨rfl, hb3⟩
      go_wp2_with fail
      go_meet
      exact ⟨by rw [E.out]; exact congrArg Value.string (str_mid _ _), HR2.out.below hb3⟩
  obtain ⟨rfl, hR⟩ := hcut
  have HR3 := Lib.hid hR
  have LL2 := Lib.hid (show (h1 ++ iTx op int).length ≤ 8000200 by
    rw [List.length_append]
    have h1 : (iTx op int).length ≤ 22 := by
      unfold iTx; split
      · have := itoa_len hi0 hi1
        simp only [List.length_cons]; omega
      · exact Nat.zero_le _
    have := LL.out
    omega)
  clear hR HR2 HPb LL c1 c2 c3 e1 e2 e3
  have LL := Lib.hid LL2.out
  clear LL2
  generalize hh : h1 ++ iTx op int = h2 at *
  have EL := Lib.hid (show lineS k ⟨op, a, int, text⟩ = h2 ++ tTx op text by unfold lineS; rw [HH0.out, HH1.out, hh])
  clear hh HH0 HH1
  have T3 : textK op = 0 ∨ textK op = 1 ∨ textK op = 2 := by unfold textK; (repeat' split) <;> simp
  have c1 := cells_of HR3.out.hx 1
  have c2 := cells_of HR3.out.hx 2
  have c3 := cells_of HR3.out.hx 3
  have e1 := cells_of HR3.out.hk 1
  have e2 := cells_of HR3.out.hk 2
  have e3 := cells_of HR3.out.hk 3
  simp only [List.getElem?_toArray, List.getElem?_cons_zero, List.getElem?_cons_succ] at c1 c2 c3 e1 e2 e3
  rcases T3 with hT | hT | hT
  · have tb : tB op = 0 := by unfold tB; rw [hT]; rfl
    have E := Lib.hid (tTx_no (t := text) hT)
    rw [tb] at e3
    clear hT tb
    go_wp2_with fail
    go_ret
    exact ⟨by rw [EL.out, E.out, List.append_nil]; rfl, HR3.out.low⟩
  · have tb : tB op = 120 := by unfold tB; rw [hT]; rfl
    have E := Lib.hid (tTx_any (t := text) hT)
    rw [tb] at e3
    clear hT tb
    have QL := quotedS_len text.data.toList
    have TL : text.data.toList.length = text.size := by simp
    have A1 : ∀ w, (Op.stringOp .add (⟨#[32]⟩ : ByteArray) (⟨(quotedS text.data.toList).toArray⟩ : ByteArray)).run Tryd.prog w = .ok (.string ((⟨#[32]⟩ : ByteArray) ++ (⟨(quotedS text.data.toList).toArray⟩ : ByteArray))) w := fun w => add_str w _ _ (by
      have hq : (⟨(quotedS text.data.toList).toArray⟩ : ByteArray).size ≤ 8000000 := by rw [str_size]; omega
      show 1 + _ ≤ _
      omega)
    have A2 : ∀ w, (Op.stringOp .add (sp (h2)) ((⟨#[32]⟩ : ByteArray) ++ (⟨(quotedS text.data.toList).toArray⟩ : ByteArray))).run Tryd.prog w = .ok (.string (sp (h2) ++ ((⟨#[32]⟩ : ByteArray) ++ (⟨(quotedS text.data.toList).toArray⟩ : ByteArray)))) w := fun w => add_str w _ _ (by
      have hq : (⟨(quotedS text.data.toList).toArray⟩ : ByteArray).size ≤ 8000000 := by rw [str_size]; omega
      rw [sp_size, ByteArray.size_append]
      have := LL.out
      show _ + (1 + _) ≤ _
      omega)
    clear TL
    go_wp2_with fail
    refine (quoted_any text ht _).mono ?_
    rintro e w3 ⟨rfl, hb3⟩
    go_wp2_with fail
    go_ret
    exact ⟨by rw [EL.out, E.out]; exact congrArg (fun z => Ending.returned (.string z)) (str_mid _ _), bthen HR3.out.low hb3⟩
  · have tb : tB op = 110 := by unfold tB; rw [hT]; rfl
    have E := Lib.hid (tTx_name (t := text) hT)
    rw [tb] at e3
    clear hT tb
    have A1 : ∀ w, (Op.stringOp .add (⟨#[32]⟩ : ByteArray) text).run Tryd.prog w = .ok (.string ((⟨#[32]⟩ : ByteArray) ++ text)) w := fun w => add_str w _ _ (by
      have hq : text.size ≤ 8000000 := by omega
      show 1 + _ ≤ _
      omega)
    have A2 : ∀ w, (Op.stringOp .add (sp (h2)) ((⟨#[32]⟩ : ByteArray) ++ text)).run Tryd.prog w = .ok (.string (sp (h2) ++ ((⟨#[32]⟩ : ByteArray) ++ text))) w := fun w => add_str w _ _ (by
      have hq : text.size ≤ 8000000 := by omega
      rw [sp_size, ByteArray.size_append]
      have := LL.out
      show _ + (1 + _) ≤ _
      omega)
    go_wp2_with fail
    go_ret
    exact ⟨by rw [EL.out, E.out]; exact congrArg (fun z => Ending.returned (.string z)) (str_midS _ _), HR3.out.low⟩
end Go.Proofs.YtefijgdbnjmifaaDoor

/- What is right: all kinds together. -/
import Derived.Test.YtjfdokoigkdciaaRightA
import Derived.Test.YtjfdokoigkdciaaRightC
namespace Go.Proofs.Ytjfdokoigkdciaa
open Go.RowKit

theorem kinds8B : ∀ op, op < 64 → (!isK op || ((numK op && (aK op == 0 && textK op == 0)) || ((!numK op && (aK op == 0 && textK op == 1)) || ((!numK op && (aK op == 0 && textK op == 2)) || ((!numK op && (aK op == 3 && textK op == 2)) || ((!numK op && (aK op == 3 && textK op == 0)) || ((!numK op && (aK op == 2 && textK op == 0)) || ((!numK op && (aK op == 1 && textK op == 0)) || (!numK op && (aK op == 0 && textK op == 0)))))))))) = true := by decide +kernel
theorem kinds8 (op : Nat) (h : op < 64) (hk : isK op = true) : (numK op = true ∧ aK op = 0 ∧ textK op = 0) ∨ (numK op = false ∧ aK op = 0 ∧ textK op = 1) ∨ (numK op = false ∧ aK op = 0 ∧ textK op = 2) ∨ (numK op = false ∧ aK op = 3 ∧ textK op = 2) ∨ (numK op = false ∧ aK op = 3 ∧ textK op = 0) ∨ (numK op = false ∧ aK op = 2 ∧ textK op = 0) ∨ (numK op = false ∧ aK op = 1 ∧ textK op = 0) ∨ (numK op = false ∧ aK op = 0 ∧ textK op = 0) := by
  have k := kinds8B op h
  simp only [hk, Bool.not_true, Bool.false_or, Bool.or_eq_true, Bool.and_eq_true, beq_iff_eq, Bool.not_eq_true'] at k
  exact k
theorem dataEmpty (s : ByteArray) : s.toList.isEmpty = s.data.toList.isEmpty := by rw [ByteArray.toList_eq]
theorem rightI_rest {op : Nat} {a int n : Int} {text : ByteArray} (hk : isK op = true) (hi : numK op = true ∨ int = 0) : rightI ⟨op, a, int, text.data.toList⟩ n = restR a (topK op n) (tB op) text := by
  have h1 : (numK op || decide (int = 0)) = true := by
    rcases hi with h | h
    · rw [h]; rfl
    · rw [decide_eq_true h]; simp
  show (isK op && (numK op || decide (int = 0)) && decide (0 ≤ a) && decide (a < topK op n) && textOk op text.data.toList) = _
  rw [hk, h1]
  unfold restR
  rw [Bool.true_and, Bool.true_and]
  congr 1
  unfold textOk tB
  by_cases t1 : textK op = 1
  · rw [if_pos t1, if_pos t1, if_pos rfl, dataLen]
  · by_cases t2 : textK op = 2
    · rw [if_neg t1, if_pos t2, if_neg t1, if_pos t2]; rfl
    · rw [if_neg t1, if_neg t2, if_neg t1, if_neg t2]
      exact (dataEmpty text).symm
theorem right_any (x : InsV) (n : Int) (hop : x.op < 256) (hs : x.text.size ≤ 9223372036854775807) (w : World) : Calls Try.prog 26 #[x.val, .int .i64 n] w (RetB (.bool (rightI x.ins n)) w) := by
  by_cases hk : isK x.op = true
  · by_cases hni : numK x.op = false ∧ x.int ≠ 0
    · exact right_int x n w hop hk hni.1 (by simpa using hni.2)
    · have hi : numK x.op = true ∨ x.int = 0 := by
        by_cases h : numK x.op = true
        · exact .inl h
        · exact .inr (by
            by_cases h0 : x.int = 0
            · exact h0
            · exact absurd ⟨by simpa using h, h0⟩ hni)
      have h64 : x.op < 64 := by
        by_cases h : x.op < 64
        · exact h
        · rw [isK_big _ (by omega)] at hk; cases hk
      obtain ⟨op, a, int, text⟩ := x
      simp only at hop hs hk hni hi h64
      show Calls Try.prog 26 #[.agg #[.int .u8 (op : Int), .int .i64 a, .int .i64 int, .string text], .int .i64 n] w (RetB (.bool (rightI ⟨op, a, int, text.data.toList⟩ n)) w)
      rw [rightI_rest hk hi]
      rcases kinds8 op h64 hk with ⟨hn, hA, hT⟩ | h
      · have := right_n_0_0 op a n int text w hop hk hn hA hT
        rw [show topK op n = 1 by unfold topK; rw [hA]; rfl, show tB op = 0 by unfold tB; rw [hT]; rfl]
        exact this
      · have h0 : int = 0 := by
          rcases hi with hi | hi
          · rcases h with h | h | h | h | h | h | h <;> rw [h.1] at hi <;> cases hi
          · exact hi
        subst h0
        rcases h with ⟨hn, hA, hT⟩ | ⟨hn, hA, hT⟩ | ⟨hn, hA, hT⟩ | ⟨hn, hA, hT⟩ | ⟨hn, hA, hT⟩ | ⟨hn, hA, hT⟩ | ⟨hn, hA, hT⟩
        · have := right_x_0_1 op a n text w hop hk hn hA hT
          rw [show topK op n = 1 by unfold topK; rw [hA]; rfl, show tB op = 120 by unfold tB; rw [hT]; rfl]
          exact this
        · have := right_x_0_2 op a n text w hop hk hn hA hT hs
          rw [show topK op n = 1 by unfold topK; rw [hA]; rfl, show tB op = 110 by unfold tB; rw [hT]; rfl]
          exact this
        · have := right_x_3_2 op a n text w hop hk hn hA hT hs
          rw [show topK op n = 2049 by unfold topK; rw [hA]; rfl, show tB op = 110 by unfold tB; rw [hT]; rfl]
          exact this
        · have := right_x_3_0 op a n text w hop hk hn hA hT
          rw [show topK op n = 2049 by unfold topK; rw [hA]; rfl, show tB op = 0 by unfold tB; rw [hT]; rfl]
          exact this
        · have := right_x_2_0 op a n text w hop hk hn hA hT
          rw [show topK op n = 100 by unfold topK; rw [hA]; rfl, show tB op = 0 by unfold tB; rw [hT]; rfl]
          exact this
        · have := right_x_1_0 op a n text w hop hk hn hA hT
          rw [show topK op n = n by unfold topK; rw [hA]; rfl, show tB op = 0 by unfold tB; rw [hT]; rfl]
          exact this
        · have := right_x_0_0 op a n text w hop hk hn hA hT
          rw [show topK op n = 1 by unfold topK; rw [hA]; rfl, show tB op = 0 by unfold tB; rw [hT]; rfl]
          exact this
  · have hk' : isK x.op = false := by simpa using hk
    exact right_none x n w hop hk'
end Go.Proofs.Ytjfdokoigkdciaa

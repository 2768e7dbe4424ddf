/- The plain law: of two whole numbers, of two texts, just one of less, same, more; and a row of pairs in memory. -/
import Derived.Test.YtakailalhpkfdaaAsk
import Derived.Test.YtakailalhpkfdaaWkk
namespace Go.Proofs.Ytakailalhpkfdaa
open Go.RowKit

/-- How the answers to a question and to the turned one hang together. -/
def Tri (c d : Int) : Prop := c < 0 ∧ 0 < d ∨ c = 0 ∧ d = 0 ∨ 0 < c ∧ d < 0
theorem tri_int (i j : Int) : Tri (cmpI i j) (cmpI j i) := by
  unfold Tri cmpI
  rcases Int.lt_trichotomy i j with h | h | h
  · left; rw [if_pos h, if_neg (by omega), if_pos h]; omega
  · subst h; right; left; rw [if_neg (by omega), if_neg (by omega)]; omega
  · right; right; rw [if_neg (by omega), if_pos h, if_pos h]; omega
theorem tri_text : ∀ s t : List UInt8, Tri (Lib.compareBytes s t) (Lib.compareBytes t s)
  | [], [] => .inr (.inl ⟨rfl, rfl⟩)
  | [], _ :: _ => .inl ⟨by show (-1 : Int) < 0; decide, by show (0 : Int) < 1; decide⟩
  | _ :: _, [] => .inr (.inr ⟨by show (0 : Int) < 1; decide, by show (-1 : Int) < 0; decide⟩)
  | a :: s, b :: t => by
    have ih := tri_text s t
    unfold Lib.compareBytes
    by_cases h : a < b
    · have h' : ¬ b < a := fun k => by rw [UInt8.lt_iff_toNat_lt] at *; omega
      left; rw [if_pos h, if_neg h', if_pos h]; omega
    · by_cases h' : b < a
      · right; right; rw [if_neg h, if_pos h', if_pos h']; omega
      · rw [if_neg h, if_neg h', if_neg h', if_neg h]; exact ih
theorem tri_ops {c d : Int} (h : Tri c d) : (opB 34 c = true ∧ opB 32 c = false ∧ opB 34 d = false ∧ opB 35 c = true ∧ opB 33 c = true) ∨
    (opB 34 c = false ∧ opB 32 c = true ∧ opB 34 d = false ∧ opB 35 c = true ∧ opB 33 c = false) ∨ (opB 34 c = false ∧ opB 32 c = false ∧ opB 34 d = true ∧ opB 35 c = false ∧ opB 33 c = true) := by
  unfold opB
  rcases h with ⟨h1, h2⟩ | ⟨h1, h2⟩ | ⟨h1, h2⟩
  · left
    have e1 : decide (c < 0) = true := decide_eq_true h1
    have e2 : (c == 0) = false := beq_eq_false_iff_ne.2 (by omega)
    have e3 : decide (d < 0) = false := decide_eq_false (by omega)
    simp [e1, e2, e3]
  · subst h1 h2; right; left; decide
  · right; right
    have e1 : decide (c < 0) = false := decide_eq_false (by omega)
    have e2 : (c == 0) = false := beq_eq_false_iff_ne.2 (by omega)
    have e3 : decide (d < 0) = true := decide_eq_true h2
    simp [e1, e2, e3]
/-- A row of pairs. -/
def LS (w : World) (g n : Nat) : Prop := (n = 2 ∨ n = 4) ∧ ∀ k, k < n → (k = 0 ∨ k = 2) → ∃ x y c d b1 c1 b2 c2, Pair1 x y c ∧ Pair1 y x d ∧ Tri c d ∧
  w.cell? ⟨g, k, none⟩ = some (.slice (some ⟨b1, 0, none⟩) 1 c1) ∧ w.cell? ⟨g, k + 1, none⟩ = some (.slice (some ⟨b2, 0, none⟩) 1 c2) ∧ NodeAt w b1 0 x ∧ NodeAt w b2 0 y
theorem LS.below {w w' : World} {g n : Nat} (h : LS w g n) (hb : Below w.heap.size w w') : LS w' g n := by
  refine ⟨h.1, fun k hk h2 => ?_⟩
  obtain ⟨x, y, c, d, b1, c1, b2, c2, p, q, t, e1, e2, n1, n2⟩ := h.2 k hk h2
  exact ⟨x, y, c, d, b1, c1, b2, c2, p, q, t, (hb.cell (p := ⟨g, k, none⟩) (World.block_lt_of_cell? w _ e1)).trans e1, (hb.cell (p := ⟨g, k + 1, none⟩) (World.block_lt_of_cell? w _ e2)).trans e2, n1.below hb n1.lt, n2.below hb n2.lt⟩
end Go.Proofs.Ytakailalhpkfdaa

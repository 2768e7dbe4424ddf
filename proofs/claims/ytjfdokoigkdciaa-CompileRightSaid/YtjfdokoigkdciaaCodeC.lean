/- Code in a row of a call's own. -/
import Derived.Test.YtjfdokoigkdciaaInsV
import Derived.Test.YtjfdokoigkdciaaBase
import Derived.Laws.AppendOwnNone
namespace Go.Proofs.Ytjfdokoigkdciaa
open Go.RowKit

def InsV.cells (x : InsV) : List Value := [.int .u8 (x.op : Int), .int .i64 x.a, .int .i64 x.int, .string x.text]
def codeCells (c : List InsV) : List Value := c.flatMap InsV.cells
theorem codeCells_snoc (c : List InsV) (x : InsV) : codeCells (c ++ [x]) = codeCells c ++ x.cells := by simp [codeCells]
theorem codeCells_length (c : List InsV) : (codeCells c).length = c.length * 4 := by
  induction c with
  | nil => rfl
  | cons x c ih => simp only [codeCells, List.flatMap_cons, List.length_append, List.length_cons] at *; rw [ih]; simp [InsV.cells]; omega
theorem codeCells_at (c : List InsV) (k j : Nat) (hk : k < c.length) (hj : j < 4) : (codeCells c).getD (k * 4 + j) (.int .i64 0) = (atV c k).cells.getD j (.int .i64 0) := by
  induction c generalizing k with
  | nil => exact absurd hk (by simp)
  | cons x c ih =>
    have e : codeCells (x :: c) = x.cells ++ codeCells c := by simp [codeCells]
    rw [e]
    have hl : x.cells.length = 4 := rfl
    cases k with
    | zero =>
      rw [List.getD_eq_getElem?_getD, List.getElem?_append_left (by omega)]
      simp [atV, List.getD_eq_getElem?_getD]
    | succ k =>
      rw [List.getD_eq_getElem?_getD, List.getElem?_append_right (by omega), hl, show (k + 1) * 4 + j - 4 = k * 4 + j by omega, ← List.getD_eq_getElem?_getD, ih k (by simpa using hk)]
      simp [atV]
/-- A row of the call's own that holds code. -/
theorem own_code {w : World} {base e cap : Nat} {A : Option Addr} {c : List InsV} {n : Nat} (h : w.ownsRow base e 4 (.slice A n cap) n (codeCells c)) (hl : c.length = n) : CodeIn w A c := fun hn => by
  obtain ⟨b, off, hA, hlt, hc⟩ := Sl.of_own (d := .int .i64 0) h (by omega)
  refine ⟨b, off, hA, hlt, fun k hk => ?_⟩
  have g : ∀ j, j < 4 → w.cell? ⟨b, off + (k * 4 + j), none⟩ = some ((atV c k).cells.getD j (.int .i64 0)) := fun j hj => by
    rw [hc (k * 4 + j) (by omega)]
    exact congrArg some (codeCells_at c k j hk hj)
  exact ⟨g 0 (by omega), by rw [Nat.add_assoc]; exact g 1 (by omega), by rw [Nat.add_assoc]; exact g 2 (by omega), by rw [Nat.add_assoc]; exact g 3 (by omega)⟩
theorem own_below {w w' : World} {base e sz n : Nat} {v : Value} {xs : List Value} (h : w.ownsRow base e sz v n xs) (hb : Below w.heap.size w w') : w'.ownsRow base e sz v n xs := by
  obtain ⟨h1, h2 | ⟨g, cap, cur, a, b, c, d⟩⟩ := h
  · exact ⟨h1, .inl h2⟩
  · exact ⟨h1, .inr ⟨g, cap, cur, a, b, (hb.block g (Array.getElem?_eq_some_iff.1 c).1).trans c, d⟩⟩
theorem cell_four_new (w : World) (a b c d : Value) (t : TypeId) (g : Nat) (hg : w.heap.size = g) : ∀ j u, [a, b, c, d][j]? = some u → (w.alloc (.cells #[a, b, c, d] t)).cell? ((⟨g, 0, none⟩ : Addr).add j) = some u := by
  intro j u hj
  subst hg
  match j, hj with
  | 0, hj => simp at hj; subst hj; simp [Addr.add]
  | 1, hj => simp at hj; subst hj; simp [Addr.add]
  | 2, hj => simp at hj; subst hj; simp [Addr.add]
  | 3, hj => simp at hj; subst hj; simp [Addr.add]
  | j + 4, hj => simp at hj
end Go.Proofs.Ytjfdokoigkdciaa

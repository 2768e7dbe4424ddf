/- Slices that are read: what a walk knows of them. -/
import Derived.Test.YtefijgdbnjmifaaBase
namespace Go.Proofs.Ytefijgdbnjmifaa
open Go.RowKit

/-- The slice '.slice A n c' of elements of sz cells holds g: cell j of all its n * sz cells is g j. -/
def Sl (w : World) (sz : Nat) (A : Option Addr) (n : Nat) (g : Nat → Value) : Prop :=
  0 < n → ∃ b off : Nat, A = some ⟨b, off, none⟩ ∧ b < w.heap.size ∧ ∀ j, j < n * sz → w.cell? ⟨b, off + j, none⟩ = some (g j)
section
variable {w w' : World} {sz n : Nat} {A : Option Addr} {g g' : Nat → Value}
theorem Sl.nil : Sl w sz A 0 g := fun h => absurd h (by omega)
theorem Sl.below {B : Nat} (h : Sl w sz A n g) (hb : Below B w w') (hB : w.heap.size ≤ B) : Sl w' sz A n g := fun hn => by
  obtain ⟨b, off, e, hlt, hc⟩ := h hn
  exact ⟨b, off, e, Nat.lt_of_lt_of_le hlt hb.size, fun j hj => (hb.cell (p := ⟨b, off + j, none⟩) (Nat.lt_of_lt_of_le hlt hB)).trans (hc j hj)⟩
theorem Sl.keep (h : Sl w sz A n g) (hb : Below w.heap.size w w') : Sl w' sz A n g := h.below hb (Nat.le_refl _)
theorem Sl.congr (h : Sl w sz A n g) (e : ∀ j, j < n * sz → g j = g' j) : Sl w sz A n g' := fun hn => by
  obtain ⟨b, off, h1, h2, h3⟩ := h hn
  exact ⟨b, off, h1, h2, fun j hj => (h3 j hj).trans (by rw [e j hj])⟩
/-- A row of the call's own reads as its cells. -/
theorem Sl.of_own {base e c : Nat} {xs : List Value} {d : Value} (h : w.ownsRow base e sz (.slice A n c) n xs) : Sl w sz A n (fun j => xs.getD j d) := fun hn => by
  obtain ⟨g, cap, hv, _, hlt⟩ := h.form hn
  have hA : A = some ⟨g, 0, none⟩ := by injection hv
  subst hA
  refine ⟨g, 0, rfl, hlt, fun j hj => ?_⟩
  have hl : j < xs.length := by have := h.1; omega
  have := h.cells (g := g) rfl j xs[j] (List.getElem?_eq_getElem hl)
  simp only [Addr.add] at this
  have e2 : xs.getD j d = xs[j] := by simp [List.getD, List.getElem?_eq_getElem hl]
  show _ = some (xs.getD j d)
  rw [e2]
  by_cases hj0 : j = 0
  · subst hj0; simpa using this
  · rw [if_neg hj0] at this; simpa using this
/-- What is owned, whatever its value looks like. -/
theorem own_slice {base e : Nat} {v : Value} {xs : List Value} (h : w.ownsRow base e sz v n xs) : ∃ A c, v = .slice A n c := by
  rcases h.2 with ⟨rfl, rfl⟩ | ⟨g, cap, cur, rfl, _⟩
  · exact ⟨_, _, rfl⟩
  · exact ⟨_, _, rfl⟩
theorem own_base {base e : Nat} {v : Value} {xs : List Value} (h : w.ownsRow base e sz v n xs) {q : Nat} (hq : v.ownBlock = some q) : base ≤ q := by
  rcases h.2 with ⟨rfl, _⟩ | ⟨g, cap, cur, rfl, hb, _⟩
  · simp [Value.ownBlock] at hq
  · simp [Value.ownBlock] at hq; omega
end
end Go.Proofs.Ytefijgdbnjmifaa

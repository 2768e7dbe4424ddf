/- Words that all walks of this seat use. Slices that are read: what a walk knows of them. -/
import Derived.Test.YtaeophaecclnbaaGreatDoorChecked
import Derived.WalkKit
import Derived.WalkLawsBesides
import Derived.WalkSpells
import Derived.BigGuardPart
import Derived.Handy
import Derived.Outline
import Derived.Lib.Hide
import Derived.Laws.OwnMore
import Derived.Deep.AppendLies
import Derived.Deep.Draws
import Derived.Deep.LoopGhost
namespace Go.Proofs.YtaeophaecclnbaaGreatDoor
open Go.RowKit

/-- The call returned v and left the world as it was. -/
def Ret (v : Value) (w : World) (e : Ending) (w' : World) : Prop := e = .returned v ∧ w = w'
/-- The call returned v; what was there is as it was. -/
def RetB (v : Value) (w : World) (e : Ending) (w' : World) : Prop := e = .returned v ∧ Below w.heap.size w w'
theorem ret_int {k : IntKind} {a b : Int} (h : a = b) : Ending.returned (.int k a) = .returned (.int k b) := by rw [h]
theorem ret_bool {a b : Bool} (h : a = b) : Ending.returned (.bool a) = .returned (.bool b) := by rw [h]
theorem ret_tup2 {a b c d : Value} (h : a = c) (h' : b = d) : Ending.returned (.tuple #[a, b]) = .returned (.tuple #[c, d]) := by rw [h, h']
theorem int_eq {k : IntKind} {a b : Int} (h : a = b) : Value.int k a = .int k b := by rw [h]
theorem bthen {W a b : World} (h : Below W.heap.size W a) (k : Below a.heap.size a b) : Below W.heap.size W b := h.trans (k.mono h.size)
theorem bthen' {B : Nat} {W a b : World} (h : Below B W a) (k : Below a.heap.size a b) (hB : B ≤ W.heap.size) : Below B W b := h.trans (k.mono (Nat.le_trans hB h.size))
theorem bcell {W w1 : World} (hb : Below W.heap.size W w1) : (∀ b o, b < W.heap.size → w1.cell? ⟨b, o, none⟩ = W.cell? ⟨b, o, none⟩) ∧ (∀ b o, b < W.heap.size → w1.frozen? ⟨b, o, none⟩ = W.frozen? ⟨b, o, none⟩) :=
  ⟨fun b o h => hb.cell (p := ⟨b, o, none⟩) h, fun b o h => hb.frozen (p := ⟨b, o, none⟩) h⟩
theorem szlt {B : Nat} {w w' : World} (h : Below B w w') {n : Nat} (hn : n < w.heap.size) : n < w'.heap.size := Nat.lt_of_lt_of_le hn h.size
theorem Ret.b {v : Value} {w w' : World} {e : Ending} (h : Ret v w e w') : RetB v w e w' := ⟨h.1, h.2 ▸ Below.refl _ _⟩
end Go.Proofs.YtaeophaecclnbaaGreatDoor
namespace Go.Proofs.YtaeophaecclnbaaGreatDoor
open Go.RowKit

/-- The slice '.slice A n c' of elements of sz cells holds g: cell j of all its n * sz cells is g j. -/
def Sl (w : World) (sz : Nat) (A : Option Addr) (n : Nat) (g : Nat → Value) : Prop :=
  0 < n → ∃ b off : Nat, A = some ⟨b, off, none⟩ ∧ b < w.heap.size ∧ ∀ j, j < n * sz → w.cell? ⟨b, off + j, none⟩ = some (g j)
section
variable {w w' : World} {sz n : Nat} {A : Option Addr} {g g' : Nat → Value}
theorem Sl.nil : Sl w sz A 0 g := fun h => absurd h (by omega)
theorem Sl.below {B : Nat} (h : Sl w sz A n g) (hb : Below B w w') (hB : w.heap.size ≤ B) : Sl w' sz A n g := fun hn => by
  obtain ⟨b, off, e, hlt, hc⟩ := h hn
  exact ⟨b, off, e, Nat.lt_of_lt_of_le hlt hb.size, fun j hj => (hb.cell (p := ⟨b, off + j, none⟩) (Nat.lt_of_lt_of_le hlt hB)).trans (hc j hj)⟩
theorem Sl.keep (h : Sl w sz A n g) (hb : Below w.heap.size w w') : Sl w' sz A n g := h.below hb (Nat.le_refl _)
theorem Sl.congr (h : Sl w sz A n g) (e : ∀ j, j < n * sz → g j = g' j) : Sl w sz A n g' := fun hn => by
  obtain ⟨b, off, h1, h2, h3⟩ := h hn
  exact ⟨b, off, h1, h2, fun j hj => (h3 j hj).trans (by rw [e j hj])⟩
/-- A row of the call's own reads as its cells. -/
theorem Sl.of_own {base e c : Nat} {xs : List Value} {d : Value} (h : w.ownsRow base e sz (.slice A n c) n xs) : Sl w sz A n (fun j => xs.getD j d) := fun hn => by
  obtain ⟨g, cap, hv, _, hlt⟩ := h.form hn
  have hA : A = some ⟨g, 0, none⟩ := by injection hv
  subst hA
  refine ⟨g, 0, rfl, hlt, fun j hj => ?_⟩
  have hl : j < xs.length := by have := h.1; omega
  have := h.cells (g := g) rfl j xs[j] (List.getElem?_eq_getElem hl)
  simp only [Addr.add] at this
  have e2 : xs.getD j d = xs[j] := by simp [List.getD, List.getElem?_eq_getElem hl]
  show _ = some (xs.getD j d)
  rw [e2]
  by_cases hj0 : j = 0
  · subst hj0; simpa using this
  · rw [if_neg hj0] at this; simpa using this
/-- What is owned, whatever its value looks like. -/
theorem own_slice {base e : Nat} {v : Value} {xs : List Value} (h : w.ownsRow base e sz v n xs) : ∃ A c, v = .slice A n c := by
  rcases h.2 with ⟨rfl, rfl⟩ | ⟨g, cap, cur, rfl, _⟩
  · exact ⟨_, _, rfl⟩
  · exact ⟨_, _, rfl⟩
theorem own_base {base e : Nat} {v : Value} {xs : List Value} (h : w.ownsRow base e sz v n xs) {q : Nat} (hq : v.ownBlock = some q) : base ≤ q := by
  rcases h.2 with ⟨rfl, _⟩ | ⟨g, cap, cur, rfl, hb, _⟩
  · simp [Value.ownBlock] at hq
  · simp [Value.ownBlock] at hq; omega
end
end Go.Proofs.YtaeophaecclnbaaGreatDoor

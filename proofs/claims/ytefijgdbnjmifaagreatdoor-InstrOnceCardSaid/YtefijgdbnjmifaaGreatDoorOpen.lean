/- Arguments that are slices of numbers, opened to what the walks ask. -/
import Derived.Test.YtefijgdbnjmifaaGreatDoorFrame
import Derived.Test.YtefijgdbnjmifaaGreatDoorBase
namespace Go.Proofs.YtefijgdbnjmifaaGreatDoor
open Go.RowKit Go.ChangeShapes Go.WideShapes Go.ChangeAt Go.ChangeMaps

/-- A slice of numbers that came in: its numbers, up to its length. -/
theorem open_nums {H : Type} {enc : TypeId × Value → H} {P : Program} {W : World} {base : Nat} {t e : TypeId} {k : IntKind} {v : Value} {d : DataW H} {ps : List MemPlace} (ht : P.underlying t = some (.slice e)) (he : P.underlying e = some (.int k)) (hc : P.cellsOf e = 1)
    (hv : Value.okWide P W .any base t v) (h : DataW.Trod enc P W 0 (fun _ => true) true t v d ps) :
    ∃ (A : Option Addr) (n c : Nat) (zs : List Int), v = .slice A n c ∧ n ≤ 9223372036854775807 ∧ zs.length = n ∧ Sl W 1 A n (fun j => .int k (zs.getD j 0)) ∧ ∀ z ∈ zs, (Lit.int k z).wf = true := by
  obtain ⟨a0, len0, cap0, rfl⟩ := okWide_slice ht hv
  obtain ⟨fuel, hf⟩ := h
  rcases open_ints ht he hc hf with ⟨hcs, _⟩ | ⟨a, len, cap, zs, hcs, _, hl, hm, hz, _, hcell, hwz⟩
  · have : a0 = none ∧ len0 = 0 ∧ cap0 = 0 := by simpa [Value.cells] using hcs
    obtain ⟨rfl, rfl, rfl⟩ := this
    exact ⟨none, 0, 0, [], rfl, by omega, rfl, Sl.nil, fun z hz => by cases hz⟩
  · have : a0 = some a ∧ len0 = len ∧ cap0 = cap := by simpa [Value.cells] using hcs
    obtain ⟨rfl, rfl, rfl⟩ := this
    simp only [if_true] at hz
    have hle : (zs.take len0).length = len0 := by rw [List.length_take]; omega
    refine ⟨some a, len0, cap0, zs.take len0, rfl, by unfold maxLen at hm; omega, hle, ?_, fun z hz' => hwz z (List.mem_of_mem_take hz')⟩
    intro hn
    obtain ⟨b, off, rfl, hcc⟩ := ints_at hcell (by omega)
    refine ⟨b, off, rfl, World.block_lt_of_cell? W _ (hcc 0 (by omega)), fun j hj => ?_⟩
    rw [hcc j (by omega)]
    have e1 : (zs.take len0).getD j 0 = zs.getD j 0 := by
      simp only [List.getD, List.getElem?_take]
      rw [if_pos (by omega)]
    show _ = some (Value.int k ((zs.take len0).getD j 0))
    rw [e1]
end Go.Proofs.YtefijgdbnjmifaaGreatDoor

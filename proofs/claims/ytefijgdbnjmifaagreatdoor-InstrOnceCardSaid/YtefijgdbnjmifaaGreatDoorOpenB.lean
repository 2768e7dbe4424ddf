/- Arguments that are bytes, opened to what the walks ask. -/
import Derived.Test.YtefijgdbnjmifaaGreatDoorOpen
import Derived.Test.YtefijgdbnjmifaaGreatDoorRdD
namespace Go.Proofs.YtefijgdbnjmifaaGreatDoor
open Go.RowKit Go.ChangeShapes Go.WideShapes Go.ChangeAt Go.ChangeMaps

theorem byt_map (zs : List Int) (h : ∀ z ∈ zs, 0 ≤ z ∧ z ≤ 255) (j : Nat) (hj : j < zs.length) : (byt (zs.map fun z => UInt8.ofNat z.toNat) j : Int) = zs.getD j 0 := by
  obtain ⟨h0, h1⟩ := h zs[j] (List.getElem_mem hj)
  unfold byt
  simp [List.getD, hj]
  omega
set_option maxRecDepth 100000 in
theorem open_bytes {H : Type} {enc : TypeId × Value → H} {W : World} {base : Nat} {v : Value} {d : DataW H} {ps : List MemPlace}
    (hv : Value.okWide Tryz.prog W .any base 25 v) (h : DataW.Trod enc Tryz.prog W 0 (fun _ => true) true 25 v d ps) :
    ∃ (A : Option Addr) (n c : Nat) (l : List UInt8), v = .slice A n c ∧ l.length = n ∧ Sl W 1 A n (fun j => .int .u8 (byt l j : Int)) ∧ n ≤ c ∧ c ≤ 9223372036854775807 ∧ (A = none → c = 0) := by
  obtain ⟨a0, len0, cap0, rfl⟩ := okWide_slice Tryz.underlying25 hv
  obtain ⟨fuel, hf⟩ := h
  rcases open_ints Tryz.underlying25 Tryz.underlying5 (by kernel_rfl) hf with ⟨hcs, _⟩ | ⟨a, len, cap, zs, hcs, _, hl, hm, hz, _, hcell, hwz⟩
  · have : a0 = none ∧ len0 = 0 ∧ cap0 = 0 := by simpa [Value.cells] using hcs
    obtain ⟨rfl, rfl, rfl⟩ := this
    exact ⟨none, 0, 0, [], rfl, rfl, Sl.nil, Nat.le_refl _, by omega, fun _ => rfl⟩
  · have : a0 = some a ∧ len0 = len ∧ cap0 = cap := by simpa [Value.cells] using hcs
    obtain ⟨rfl, rfl, rfl⟩ := this
    simp only [if_true] at hz
    have hb : ∀ z ∈ zs, 0 ≤ z ∧ z ≤ 255 := fun z hz' => bounds_u8 (hwz z hz')
    refine ⟨some a, len0, cap0, (zs.take len0).map fun z => UInt8.ofNat z.toNat, rfl, by rw [List.length_map, List.length_take]; omega, ?_, hl, by unfold maxLen at hm; omega, fun e => by cases e⟩
    intro hn
    obtain ⟨b, off, rfl, hcc⟩ := ints_at hcell (by omega)
    refine ⟨b, off, rfl, World.block_lt_of_cell? W _ (hcc 0 (by omega)), fun j hj => ?_⟩
    rw [hcc j (by omega)]
    have e1 : (zs.take len0).getD j 0 = zs.getD j 0 := by
      simp only [List.getD, List.getElem?_take]
      rw [if_pos (by omega)]
    show _ = some (Value.int .u8 (byt _ j : Int))
    rw [byt_map _ (fun z hz' => hb z (List.mem_of_mem_take hz')) j (by rw [List.length_take]; omega), e1]
end Go.Proofs.YtefijgdbnjmifaaGreatDoor

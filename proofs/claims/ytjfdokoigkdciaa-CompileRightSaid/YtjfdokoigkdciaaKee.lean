/- What a call leaves alone: all but some blocks. -/
import Derived.Test.YtjfdokoigkdciaaFrmP
namespace Go.Proofs.Ytjfdokoigkdciaa
open Go.RowKit

/-- All blocks but those of no are as they were. -/
structure Keep (no : Nat → Prop) (w w' : World) : Prop where
  os : w'.os = w.os
  tape : w'.tape = w.tape
  output : w'.output = w.output
  size : w.heap.size ≤ w'.heap.size
  block : ∀ k, k < w.heap.size → ¬ no k → w'.heap[k]? = w.heap[k]?
theorem Keep.refl (no : Nat → Prop) (w : World) : Keep no w w := ⟨rfl, rfl, rfl, Nat.le_refl _, fun _ _ _ => rfl⟩
theorem Keep.trans {no : Nat → Prop} {a b c : World} (h : Keep no a b) (k : Keep no b c) : Keep no a c :=
  ⟨k.os.trans h.os, k.tape.trans h.tape, k.output.trans h.output, Nat.le_trans h.size k.size, fun i hi hn => (k.block i (Nat.lt_of_lt_of_le hi h.size) hn).trans (h.block i hi hn)⟩
theorem Keep.of_below {no : Nat → Prop} {w w' : World} (h : Below w.heap.size w w') : Keep no w w' := ⟨h.os, h.tape, h.output, h.size, fun k hk _ => h.block k hk⟩
theorem Keep.drew {no : Nat → Prop} {a w : World} (h : Keep no a w) : Keep no a w.drew := ⟨h.os, h.tape, h.output, h.size, h.block⟩
theorem Keep.alloc {no : Nat → Prop} {a w : World} (h : Keep no a w) (o : Obj) : Keep no a (w.alloc o) :=
  h.trans ⟨rfl, rfl, rfl, by simp, fun k hk _ => Below.heap_alloc _ _ _ hk⟩
theorem Keep.setCell {no : Nat → Prop} {a w : World} (h : Keep no a w) {p : Addr} (hp : no p.block) (u : Value) : Keep no a (w.setCell p u) :=
  h.trans ⟨rfl, rfl, rfl, by simp [World.setCell], fun k _ hn => Below.heap_setCell _ _ _ _ (fun e => hn (e ▸ hp))⟩
/-- A store into a block that was not there at first. -/
theorem Keep.setNew {no : Nat → Prop} {a w : World} (h : Keep no a w) {p : Addr} (hp : a.heap.size ≤ p.block) (u : Value) : Keep no a (w.setCell p u) :=
  ⟨h.os, h.tape, h.output, Nat.le_trans h.size (by simp [World.setCell]), fun k hk hn => (Below.heap_setCell _ _ _ _ (by omega)).trans (h.block k hk hn)⟩
theorem Keep.cell {no : Nat → Prop} {w w' : World} (h : Keep no w w') {p : Addr} (hp : p.block < w.heap.size) (hn : ¬ no p.block) : w'.cell? p = w.cell? p := World.cell?_of_block (w := w) (h.block p.block hp hn)
theorem Keep.frozen {no : Nat → Prop} {w w' : World} (h : Keep no w w') {p : Addr} (hp : p.block < w.heap.size) (hn : ¬ no p.block) : w'.frozen? p = w.frozen? p := World.frozen?_of_block (w := w) (h.block p.block hp hn)
theorem Keep.below {no : Nat → Prop} {w w' : World} (h : Keep no w w') {B : Nat} (hB : B ≤ w.heap.size) (hn : ∀ k, k < B → ¬ no k) : Below B w w' := ⟨h.os, h.tape, h.output, h.size, fun k hk => h.block k (Nat.lt_of_lt_of_le hk hB) (hn k hk)⟩
theorem Keep.mapF {no : Nat → Prop} {w w' : World} (h : Keep no w w') {b : Nat} {on : Nat → Bool} (hm : MapF w b on) (hn : ¬ no b) : MapF w' b on := by
  obtain ⟨es, c, h1, h2⟩ := hm
  have hlt := (Array.getElem?_eq_some_iff.1 h1).1
  exact ⟨es, c, (h.block b hlt hn).trans h1, h2⟩
theorem Keep.code {no : Nat → Prop} {w w' : World} (h : Keep no w w') {A : Option Addr} {c : List InsV} (hc : CodeIn w A c) (hn : 0 < c.length → ∀ b off, A = some ⟨b, off, none⟩ → ¬ no b) : CodeIn w' A c := fun hl => by
  obtain ⟨b, off, e, hlt, hk⟩ := hc hl
  have hk' := fun o => h.cell (p := ⟨b, o, none⟩) hlt (hn hl b off e)
  exact ⟨b, off, e, Nat.lt_of_lt_of_le hlt h.size, fun k hkk => by
    obtain ⟨h1, h2, h3, h4⟩ := hk k hkk
    exact ⟨(hk' _).trans h1, (hk' _).trans h2, (hk' _).trans h3, (hk' _).trans h4⟩⟩
end Go.Proofs.Ytjfdokoigkdciaa

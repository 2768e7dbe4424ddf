/- An argument that is a tree, opened. -/
import Derived.Test.YtjfdokoigkdciaaFrame
import Derived.Test.YtjfdokoigkdciaaBase
import Derived.Test.YtjfdokoigkdciaaInsV
import Derived.Deep.Slices
import Derived.Deep.Fields
import Derived.Deep.Grids
import Derived.ChangeSame
namespace Go.Proofs.Ytjfdokoigkdciaa
open Go.RowKit Go.ChangeShapes Go.WideShapes Go.ChangeAt Go.ChangeMaps Go.Deep

section
variable {H : Type} {enc : TypeId × Value → H} {P : Program} {w : World} {base : Nat} {spare : Nat → Bool} {held : Bool}
/-- A slice of structs of one-cell fields: for every element and every field the cell and its reading. -/
theorem open_slice_fields {t e : TypeId} {fs : Array Field} {fuel : Nat} {cs : List Value} {x : DataW H × List MemPlace} (ht : P.underlying t = some (.slice e)) (he : P.underlying e = some (.struct fs))
    (hone : oneCellFields P fs = true) (hC : P.cellsOf e = fs.size) (h : DataW.trod enc P w base spare held fuel t cs = some x) :
    (cs = [.slice none 0 0] ∧ x = (.nil, [])) ∨
    ∃ (a : Addr) (len cap m : Nat), cs = [.slice (some a) len cap] ∧ base ≤ a.block ∧ len ≤ cap ∧ cap ≤ maxLen ∧ m = (if spare a.block then cap else len) ∧
      ∀ i, i < m → ∃ (ys : List (DataW H × List MemPlace)) (n : Nat), ys.length = fs.size ∧
        ∀ (j : Nat) (f : Field), fs[j]? = some f → ∃ (v : Value) (y : DataW H × List MemPlace), w.cell? (a.add (i * fs.size + j)) = some v ∧ ys[j]? = some y ∧ DataW.trod enc P w base spare held n f.type [v] = some y := by
  rcases open_slice ht h with h0 | ⟨a, len, cap, m, n, D, Pl, hcs, hb, hl, hm, hmm, hx, hi⟩
  · exact .inl h0
  · refine .inr ⟨a, len, cap, m, hcs, hb, hl, hm, hmm, fun i him => ?_⟩
    obtain ⟨cs', hc, ht'⟩ := hi i him
    rw [hC] at hc
    obtain ⟨ys, n', hn', hy, hlen, hyl, hf⟩ := DataW.trod_struct he ht'
    obtain ⟨_, hcl, hat⟩ := World.cells?_some hc
    refine ⟨ys, n', hyl, fun j f hj => ?_⟩
    obtain ⟨ho, hk⟩ := hone_of hone j f hj
    have hjl : j < fs.size := (Array.getElem?_eq_some_iff.1 hj).1
    have hcell := hat j hjl
    have hv : cs'[j]? = some (cs'[j]'(by omega)) := List.getElem?_eq_getElem (by omega)
    have h1 := hf j f hj
    rw [ho, hk] at h1
    have hone' : (cs'.drop j).take 1 = [cs'[j]'(by omega)] := by
      rw [List.drop_eq_getElem_cons (by omega)]
      rfl
    rw [hone'] at h1
    have hys : ys[j]? = some (ys[j]'(by omega)) := List.getElem?_eq_getElem (by omega)
    refine ⟨_, _, ?_, hys, h1.trans hys⟩
    rw [← Go.Deep.add_add, hcell, hv]
end
/-- What a slice of instructions holds, an instruction at a time. -/
theorem code_list {w : World} {b off n : Nat} (h : ∀ k, k < n → ∃ (op : Nat) (a int : Int) (text : ByteArray), op < 256 ∧ text.size ≤ 9223372036854775807 ∧
    w.cell? ⟨b, off + k * 4, none⟩ = some (.int .u8 (op : Int)) ∧ w.cell? ⟨b, off + k * 4 + 1, none⟩ = some (.int .i64 a) ∧ w.cell? ⟨b, off + k * 4 + 2, none⟩ = some (.int .i64 int) ∧ w.cell? ⟨b, off + k * 4 + 3, none⟩ = some (.string text)) :
    ∃ cs : List InsV, cs.length = n ∧ (∀ k, k < n → (atV cs k).op < 256 ∧ (atV cs k).text.size ≤ 9223372036854775807) ∧ ∀ k, k < n →
      w.cell? ⟨b, off + k * 4, none⟩ = some (.int .u8 ((atV cs k).op : Int)) ∧ w.cell? ⟨b, off + k * 4 + 1, none⟩ = some (.int .i64 (atV cs k).a) ∧ w.cell? ⟨b, off + k * 4 + 2, none⟩ = some (.int .i64 (atV cs k).int) ∧ w.cell? ⟨b, off + k * 4 + 3, none⟩ = some (.string (atV cs k).text) := by
  induction n with
  | zero => exact ⟨[], rfl, fun k hk => absurd hk (by omega), fun k hk => absurd hk (by omega)⟩
  | succ n ih =>
    obtain ⟨cs, hl, h1, h2⟩ := ih (fun k hk => h k (by omega))
    obtain ⟨op, a, int, text, g1, g2, g3, g4, g5, g6⟩ := h n (by omega)
    have hold : ∀ k, k < n → atV (cs ++ [⟨op, a, int, text⟩]) k = atV cs k := fun k hk => by
      unfold atV
      simp only [List.getD, List.getElem?_append_left (by omega : k < cs.length)]
    have hnew : atV (cs ++ [⟨op, a, int, text⟩]) n = ⟨op, a, int, text⟩ := by
      unfold atV
      rw [List.getD, List.getElem?_append_right (by omega), hl]; simp
    refine ⟨cs ++ [⟨op, a, int, text⟩], by simp [hl], fun k hk => ?_, fun k hk => ?_⟩
    · by_cases e : k = n
      · subst e; rw [hnew]; exact ⟨g1, g2⟩
      · rw [hold k (by omega)]; exact h1 k (by omega)
    · by_cases e : k = n
      · subst e; rw [hnew]; exact ⟨g3, g4, g5, g6⟩
      · rw [hold k (by omega)]; exact h2 k (by omega)
theorem twig_fields : ∃ f0 f1 f2 f3 : Field, Try.prog.underlying 31 = some (.struct #[f0, f1, f2, f3]) ∧ f0.type = 5 ∧ f1.type = 3 ∧ f2.type = 2 ∧ f3.type = 9 ∧ oneCellFields Try.prog #[f0, f1, f2, f3] = true :=
  ⟨_, _, _, _, Try.underlying31, rfl, rfl, rfl, rfl, by kernel_rfl⟩
set_option maxRecDepth 100000 in
/-- A tree that came in. -/
theorem open_tree {H : Type} {enc : TypeId × Value → H} {W : World} {base : Nat} {v : Value} {d : DataW H} {ps : List MemPlace}
    (hv : Value.okWide Try.prog W .any base 23 v) (h : DataW.Trod enc Try.prog W 0 (fun _ => true) true 23 v d ps) :
    ∃ (A : Option Addr) (n c : Nat) (cs : List InsV), v = .slice A n c ∧ n ≤ 9223372036854775807 ∧ cs.length = n ∧ CodeIn W A cs ∧ OkC cs := by
  obtain ⟨a0, len0, cap0, rfl⟩ := okWide_slice Try.underlying23 hv
  obtain ⟨fuel, hf⟩ := h
  obtain ⟨f0, f1, f2, f3, hu, t0, t1, t2, t3, hone⟩ := twig_fields
  rcases open_slice_fields Try.underlying23 hu hone (by kernel_rfl) hf with ⟨hcs, _⟩ | ⟨a, len, cap, m, hcs, _, hl, hm, hmm, hi⟩
  · have : a0 = none ∧ len0 = 0 ∧ cap0 = 0 := by simpa [Value.cells] using hcs
    obtain ⟨rfl, rfl, rfl⟩ := this
    exact ⟨none, 0, 0, [], rfl, by omega, rfl, fun h => absurd h (by simp), fun k hk => absurd hk (by simp)⟩
  · have : a0 = some a ∧ len0 = len ∧ cap0 = cap := by simpa [Value.cells] using hcs
    obtain ⟨rfl, rfl, rfl⟩ := this
    simp only [if_true] at hmm
    have hle : len0 ≤ 9223372036854775807 := by unfold maxLen at hm; omega
    have each : ∀ k, k < len0 → ∃ (op : Nat) (x int : Int) (text : ByteArray), op < 256 ∧ text.size ≤ 9223372036854775807 ∧
        W.cell? (a.add (k * 4 + 0)) = some (.int .u8 (op : Int)) ∧ W.cell? (a.add (k * 4 + 1)) = some (.int .i64 x) ∧ W.cell? (a.add (k * 4 + 2)) = some (.int .i64 int) ∧ W.cell? (a.add (k * 4 + 3)) = some (.string text) := fun k hk => by
      obtain ⟨ys, n, hys, hfld⟩ := hi k (by omega)
      obtain ⟨v0, y0, c0, _, r0⟩ := hfld 0 f0 rfl
      obtain ⟨v1, y1, c1, _, r1⟩ := hfld 1 f1 rfl
      obtain ⟨v2, y2, c2, _, r2⟩ := hfld 2 f2 rfl
      obtain ⟨v3, y3, c3, _, r3⟩ := hfld 3 f3 rfl
      rw [t0] at r0
      rw [t1] at r1
      rw [t2] at r2
      rw [t3] at r3
      obtain ⟨x0, e0, _, g0⟩ := DataW.trod_int Try.underlying5 r0
      obtain ⟨x1, e1, _, _⟩ := DataW.trod_int Try.underlying3 r1
      obtain ⟨x2, e2, _, _⟩ := DataW.trod_int Try.underlying2 r2
      obtain ⟨x3, e3, _, g3⟩ := DataW.trod_string Try.underlying9 r3
      have e0 : v0 = .int .u8 x0 := by simpa using e0
      have e1 : v1 = .int .i64 x1 := by simpa using e1
      have e2 : v2 = .int .i64 x2 := by simpa using e2
      have e3 : v3 = .string x3 := by simpa using e3
      subst e0 e1 e2 e3
      have b0 := bounds_u8 g0
      refine ⟨x0.toNat, x1, x2, x3, by omega, by unfold maxLen at g3; omega, ?_, c1, c2, c3⟩
      rw [show ((x0.toNat : Nat) : Int) = x0 by omega]
      exact c0
    by_cases h0 : len0 = 0
    · exact ⟨some a, len0, cap0, [], rfl, hle, h0.symm, fun h => absurd h (by simp), fun k hk => absurd hk (by simp)⟩
    · obtain ⟨_, _, _, _, _, _, cc0, _⟩ := each 0 (by omega)
      obtain ⟨b, off, spot⟩ := a
      have hspot : spot = none := by simpa [Addr.add] using World.cell?_spot cc0
      subst hspot
      obtain ⟨cs, e1, e2, e3⟩ := code_list (w := W) (b := b) (off := off) (n := len0) (fun k hk => by
        obtain ⟨op, x, int, text, r1, r2, r3, r4, r5, r6⟩ := each k hk
        rw [Go.WideShapes.add_plain] at r3 r4 r5 r6
        exact ⟨op, x, int, text, r1, r2, r3, r4, r5, r6⟩)
      refine ⟨some ⟨b, off, none⟩, len0, cap0, cs, rfl, hle, e1, fun _ => ⟨b, off, rfl, World.block_lt_of_cell? W _ (e3 0 (by omega)).1, fun k hk => e3 k (by omega)⟩, fun k hk => e2 k (by omega)⟩
end Go.Proofs.Ytjfdokoigkdciaa

/- Entries of logs: slices of them; how far two are the same. -/
import Derived.Test.YtfjippjkikcpfaaGreatDoorBase
import Derived.Test.YtfjippjkikcpfaaGreatDoorFrame
import Derived.Deep.Slices
import Derived.Deep.Fields
import Derived.Deep.Grids
import Derived.ChangeSame
import Derived.Laws.StructEq
import Derived.Deep.QuietTactic
import Derived.BigQuiet
namespace Go.Proofs.YtfjippjkikcpfaaGreatDoor
open Go.RowKit Go.ChangeShapes Go.WideShapes Go.ChangeAt Go.ChangeMaps Go.Deep

structure EntV where
  term : Int
  data : ByteArray
def atE (l : List EntV) (k : Nat) : EntV := l.getD k ⟨0, ByteArray.empty⟩
def EntIn (w : World) (A : Option Addr) (l : List EntV) : Prop := 0 < l.length → ∃ b off : Nat, A = some ⟨b, off, none⟩ ∧ b < w.heap.size ∧ ∀ k, k < l.length →
  w.cell? ⟨b, off + k * 2, none⟩ = some (.int .i64 (atE l k).term) ∧ w.cell? ⟨b, off + k * 2 + 1, none⟩ = some (.string (atE l k).data)
theorem EntIn.below {w w' : World} {A : Option Addr} {l : List EntV} (h : EntIn w A l) (hb : Below w.heap.size w w') : EntIn w' A l := fun hn => by
  obtain ⟨b, off, e, hlt, hc⟩ := h hn
  exact ⟨b, off, e, Nat.lt_of_lt_of_le hlt hb.size, fun k hk => ⟨(hb.cell (p := ⟨b, off + k * 2, none⟩) hlt).trans (hc k hk).1, (hb.cell (p := ⟨b, off + k * 2 + 1, none⟩) hlt).trans (hc k hk).2⟩⟩
section
variable {H : Type} {enc : TypeId × Value → H} {P : Program} {w : World} {base : Nat} {spare : Nat → Bool} {held : Bool}
/-- A slice of structs of one-cell fields: for every element and every field the cell and its reading. -/
theorem ent_slice_fields {t e : TypeId} {fs : Array Field} {fuel : Nat} {cs : List Value} {x : DataW H × List MemPlace} (ht : P.underlying t = some (.slice e)) (he : P.underlying e = some (.struct fs))
    (hone : oneCellFields P fs = true) (hC : P.cellsOf e = fs.size) (h : DataW.trod enc P w base spare held fuel t cs = some x) :
    (cs = [.slice none 0 0] ∧ x = (.nil, [])) ∨
    ∃ (a : Addr) (len cap m : Nat), cs = [.slice (some a) len cap] ∧ base ≤ a.block ∧ len ≤ cap ∧ cap ≤ maxLen ∧ m = (if spare a.block then cap else len) ∧
      ∀ i, i < m → ∃ (ys : List (DataW H × List MemPlace)) (n : Nat), ys.length = fs.size ∧
        ∀ (j : Nat) (f : Field), fs[j]? = some f → ∃ (v : Value) (y : DataW H × List MemPlace), w.cell? (a.add (i * fs.size + j)) = some v ∧ ys[j]? = some y ∧ DataW.trod enc P w base spare held n f.type [v] = some y := by
  rcases open_slice ht h with h0 | ⟨a, len, cap, m, n, D, Pl, hcs, hb, hl, hm, hmm, hx, hi⟩
  · exact .inl h0
  · refine .inr ⟨a, len, cap, m, hcs, hb, hl, hm, hmm, fun i him => ?_⟩
    obtain ⟨cs', hc, ht'⟩ := hi i him
    rw [hC] at hc
    obtain ⟨ys, n', hn', hy, hlen, hyl, hf⟩ := DataW.trod_struct he ht'
    obtain ⟨_, hcl, hat⟩ := World.cells?_some hc
    refine ⟨ys, n', hyl, fun j f hj => ?_⟩
    obtain ⟨ho, hk⟩ := hone_of hone j f hj
    have hjl : j < fs.size := (Array.getElem?_eq_some_iff.1 hj).1
    have hcell := hat j hjl
    have hv : cs'[j]? = some (cs'[j]'(by omega)) := List.getElem?_eq_getElem (by omega)
    have h1 := hf j f hj
    rw [ho, hk] at h1
    have hone' : (cs'.drop j).take 1 = [cs'[j]'(by omega)] := by
      rw [List.drop_eq_getElem_cons (by omega)]
      rfl
    rw [hone'] at h1
    have hys : ys[j]? = some (ys[j]'(by omega)) := List.getElem?_eq_getElem (by omega)
    refine ⟨_, _, ?_, hys, h1.trans hys⟩
    rw [← Go.Deep.add_add, hcell, hv]
end
/-- What a slice of entries holds, an entry at a time. -/
theorem ent_list {w : World} {b off n : Nat} (h : ∀ k, k < n → ∃ (a : Int) (text : ByteArray), w.cell? ⟨b, off + k * 2, none⟩ = some (.int .i64 a) ∧ w.cell? ⟨b, off + k * 2 + 1, none⟩ = some (.string text)) :
    ∃ l : List EntV, l.length = n ∧ ∀ k, k < n → w.cell? ⟨b, off + k * 2, none⟩ = some (.int .i64 (atE l k).term) ∧ w.cell? ⟨b, off + k * 2 + 1, none⟩ = some (.string (atE l k).data) := by
  induction n with
  | zero => exact ⟨[], rfl, fun k hk => absurd hk (by omega)⟩
  | succ n ih =>
    obtain ⟨l, hl, h2⟩ := ih (fun k hk => h k (by omega))
    obtain ⟨a, text, g1, g2⟩ := h n (by omega)
    have hold : ∀ k, k < n → atE (l ++ [⟨a, text⟩]) k = atE l k := fun k hk => by
      unfold atE
      simp only [List.getD, List.getElem?_append_left (by omega : k < l.length)]
    have hnew : atE (l ++ [⟨a, text⟩]) n = ⟨a, text⟩ := by
      unfold atE
      rw [List.getD, List.getElem?_append_right (by omega), hl]; simp
    refine ⟨l ++ [⟨a, text⟩], by simp [hl], fun k hk => ?_⟩
    by_cases e : k = n
    · subst e; rw [hnew]; exact ⟨g1, g2⟩
    · rw [hold k (by omega)]; exact h2 k (by omega)
theorem entry_fields : ∃ f0 f1 : Field, Tryz.prog.underlying 40 = some (.struct #[f0, f1]) ∧ f0.type = 2 ∧ f1.type = 9 ∧ oneCellFields Tryz.prog #[f0, f1] = true :=
  ⟨_, _, Tryz.underlying40, rfl, rfl, by kernel_rfl⟩
set_option maxRecDepth 100000 in
/-- A slice of entries that came in. -/
theorem open_entries {H : Type} {enc : TypeId × Value → H} {W : World} {base : Nat} {v : Value} {d : DataW H} {ps : List MemPlace}
    (hv : Value.okWide Tryz.prog W .any base 22 v) (h : DataW.Trod enc Tryz.prog W 0 (fun _ => true) true 22 v d ps) :
    ∃ (A : Option Addr) (n c : Nat) (l : List EntV), v = .slice A n c ∧ n ≤ 9223372036854775807 ∧ l.length = n ∧ EntIn W A l := by
  obtain ⟨a0, len0, cap0, rfl⟩ := okWide_slice Tryz.underlying22 hv
  obtain ⟨fuel, hf⟩ := h
  obtain ⟨f0, f1, hu, t0, t1, hone⟩ := entry_fields
  rcases ent_slice_fields Tryz.underlying22 hu hone (by kernel_rfl) hf with ⟨hcs, _⟩ | ⟨a, len, cap, m, hcs, _, hl, hm, hmm, hi⟩
  · have : a0 = none ∧ len0 = 0 ∧ cap0 = 0 := by simpa [Value.cells] using hcs
    obtain ⟨rfl, rfl, rfl⟩ := this
    exact ⟨none, 0, 0, [], rfl, by omega, rfl, fun h => absurd h (by simp)⟩
  · have : a0 = some a ∧ len0 = len ∧ cap0 = cap := by simpa [Value.cells] using hcs
    obtain ⟨rfl, rfl, rfl⟩ := this
    simp only [if_true] at hmm
    have hle : len0 ≤ 9223372036854775807 := by unfold maxLen at hm; omega
    have each : ∀ k, k < len0 → ∃ (x : Int) (text : ByteArray), W.cell? (a.add (k * 2 + 0)) = some (.int .i64 x) ∧ W.cell? (a.add (k * 2 + 1)) = some (.string text) := fun k hk => by
      obtain ⟨ys, n, hys, hfld⟩ := hi k (by omega)
      obtain ⟨v0, y0, c0, _, r0⟩ := hfld 0 f0 rfl
      obtain ⟨v1, y1, c1, _, r1⟩ := hfld 1 f1 rfl
      rw [t0] at r0
      rw [t1] at r1
      obtain ⟨x0, e0, _, _⟩ := DataW.trod_int Tryz.underlying2 r0
      obtain ⟨x1, e1, _, _⟩ := DataW.trod_string Tryz.underlying9 r1
      have e0 : v0 = .int .i64 x0 := by simpa using e0
      have e1 : v1 = .string x1 := by simpa using e1
      subst e0 e1
      exact ⟨x0, x1, c0, c1⟩
    by_cases h0 : len0 = 0
    · exact ⟨some a, len0, cap0, [], rfl, hle, h0.symm, fun h => absurd h (by simp)⟩
    · obtain ⟨_, _, cc0, _⟩ := each 0 (by omega)
      obtain ⟨b, off, spot⟩ := a
      have hspot : spot = none := by simpa [Addr.add] using World.cell?_spot cc0
      subst hspot
      obtain ⟨l, e1, e3⟩ := ent_list (w := W) (b := b) (off := off) (n := len0) (fun k hk => by
        obtain ⟨x, text, r3, r4⟩ := each k hk
        rw [Go.WideShapes.add_plain] at r3 r4
        exact ⟨x, text, r3, r4⟩)
      exact ⟨some ⟨b, off, none⟩, len0, cap0, l, rfl, hle, e1, fun _ => ⟨b, off, rfl, World.block_lt_of_cell? W _ (e3 0 (by omega)).1, fun k hk => e3 k (by omega)⟩⟩

/-! ### How far two are the same -/
def sameE (x y : EntV) : Bool := decide (x.term = y.term) && decide (x.data.toList = y.data.toList)
def com : List EntV → List EntV → Nat
  | x :: a, y :: b => if sameE x y = true then com a b + 1 else 0
  | _, _ => 0
theorem com_is : ∀ (a b : List EntV) (k : Nat), k ≤ a.length → k ≤ b.length → (∀ j, j < k → sameE (atE a j) (atE b j) = true) → (k = a.length ∨ k = b.length ∨ sameE (atE a k) (atE b k) = false) → com a b = k
  | [], b, k, h1, _, _, _ => by
    have : k = 0 := by simpa using h1
    subst this
    cases b <;> rfl
  | x :: a, [], k, _, h2, _, _ => by
    have : k = 0 := by simpa using h2
    subst this
    rfl
  | x :: a, y :: b, 0, _, _, _, h4 => by
    rcases h4 with h | h | h
    · simp at h
    · simp at h
    · have : sameE x y = false := h
      unfold com
      rw [this]; rfl
  | x :: a, y :: b, k + 1, h1, h2, h3, h4 => by
    have h0 : sameE x y = true := h3 0 (by omega)
    unfold com
    rw [h0, if_pos rfl, com_is a b k (by simpa using h1) (by simpa using h2) (fun j hj => h3 (j + 1) (by omega)) (h4.imp (fun h => by simpa using h) (Or.imp (fun h => by simpa using h) id))]
theorem sameE_symm (x y : EntV) : sameE x y = sameE y x := by
  unfold sameE
  rw [Bool.eq_iff_iff]
  simp only [Bool.and_eq_true, decide_eq_true_eq]
  exact ⟨fun h => ⟨h.1.symm, h.2.symm⟩, fun h => ⟨h.1.symm, h.2.symm⟩⟩
theorem com_symm : ∀ a b : List EntV, com a b = com b a
  | [], [] => rfl
  | [], _ :: _ => rfl
  | _ :: _, [] => rfl
  | x :: a, y :: b => by
    unfold com
    rw [sameE_symm, com_symm a b]
def endE' (a b : List EntV) : Bool := decide (com a b = a.length) || decide (com a b = b.length)
theorem ent_eq (w : World) (x y : EntV) : (binOp .eql 40 (.agg #[.int .i64 x.term, .string x.data]) (.agg #[.int .i64 y.term, .string y.data])).run Tryz.prog w = .ok (.bool (sameE x y)) w := by
  simp [go_sem, sameE]
  split
  · split <;> simp_all
  · simp_all
theorem ent_ne (w : World) (x y : EntV) : (binOp .neq 40 (.agg #[.int .i64 x.term, .string x.data]) (.agg #[.int .i64 y.term, .string y.data])).run Tryz.prog w = .ok (.bool (!sameE x y)) w := by
  simp [go_sem, sameE]
  split
  · split <;> simp_all
  · simp_all
end Go.Proofs.YtfjippjkikcpfaaGreatDoor

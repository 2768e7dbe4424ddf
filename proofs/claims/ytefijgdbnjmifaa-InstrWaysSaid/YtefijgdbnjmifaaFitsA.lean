/- The reference's Fits, walked: first part. -/
import Derived.Test.YtefijgdbnjmifaaRefA
import Derived.Test.YtefijgdbnjmifaaCircA
import Derived.Deep.OwnRows
import Derived.Deep.DeepCutAuto
namespace Go.Proofs.Ytefijgdbnjmifaa
open Go.RowKit Go.Maps

theorem infoI2 : (Try.prog.info? 3).map (fun i => (i.zero, i.size, i.bytes)) = some (some (.int .i64 0), 1, 8) := by kernel_rfl
theorem infoB : (Try.prog.info? 4).map (fun i => (i.zero, i.size, i.bytes)) = some (some (.bool false), 1, 1) := by kernel_rfl
def dV (d : List Int) (j : Nat) : Value := .int .i64 (dAt d j)
def gV (g : List Bool) (j : Nat) : Value := .bool (gAt g j)
/-- In the midst of it: place p is looked at; N more rounds at most. -/
structure FS (c : List Ins) (w : World) (db gb : Nat) (N : Nat) (p : Nat) (wr : World) (d : List Int) (g : List Bool) (k : Nat) : Prop where
  num : N = k * (c.length + 1) + (c.length - p)
  ple : p ≤ c.length
  go : goS c k d g = fitsS c
  cnt : cntB g ≤ k
  kle : k ≤ c.length
  dom : Dom d (c.length - k)
  dl : d.length = c.length
  gl : g.length = c.length
  low : ∀ i, i < p → pendB d g i = false
  row : wr.rowIs db 3 c.length (dV d)
  grow : wr.rowIs gb 4 c.length (gV g)
  bel : Below w.heap.size w wr
  dlo : w.heap.size ≤ db
  glo : w.heap.size ≤ gb
  ne : db ≠ gb
theorem go_none' {c : List Ins} {k : Nat} {d : List Int} {g : List Bool} (h : leastB d g = none) : goS c k d g = (d, -1) := by
  cases k with
  | zero => rfl
  | succ k => simp only [goS, h]
theorem FS.done {c : List Ins} {w : World} {db gb N p : Nat} {wr : World} {d : List Int} {g : List Bool} {k : Nat} (h : FS c w db gb N p wr d g k) (hp : ¬ p < c.length) : fitsS c = (d, -1) := by
  rw [← h.go]
  exact go_none' (least_none.2 fun i hi => h.low i (by have := h.dl; omega))
theorem FS.skip {c : List Ins} {w : World} {db gb N p : Nat} {wr : World} {d : List Int} {g : List Bool} {k : Nat} (h : FS c w db gb N p wr d g k) (hp : p < c.length) (hn : pendB d g p = false) : FS c w db gb (N - 1) (p + 1) wr d g k ∧ N - 1 < N :=
  ⟨{ h with
    num := by have := h.num; omega
    ple := hp
    low := fun i hi => by
      by_cases e : i = p
      · subst e; exact hn
      · exact h.low i (by omega) }, by have := h.num; omega⟩
/-- Place p is the next one. -/
theorem FS.next {c : List Ins} {w : World} {db gb N p : Nat} {wr : World} {d : List Int} {g : List Bool} {k : Nat} (h : FS c w db gb N p wr d g k) (hp : p < c.length) (hy : pendB d g p = true) :
    ∃ k', k = k' + 1 ∧ gAt g p = false ∧ 0 ≤ dAt d p ∧ dAt d p ≤ c.length ∧ (fitsS c = if (throughS (atI c p) d p).2 = true then goS c k' (throughS (atI c p) d p).1 (g.set p true) else ((throughS (atI c p) d p).1, (p : Int))) := by
  obtain ⟨h1, h2⟩ := pend_gone hy
  obtain ⟨h3, h4⟩ := cnt_set h1
  have hc := h.cnt
  have hD := h.dom p (by have := h.dl; omega)
  refine ⟨k - 1, by omega, h1, h2, by omega, ?_⟩
  have hl : leastB d g = some p := least_some.2 ⟨by have := h.dl; omega, hy, h.low⟩
  have hg := h.go
  rw [show k = (k - 1) + 1 by omega] at hg
  rw [← hg]
  simp only [goS, hl]
/-- Behind going through p well, at place q. -/
theorem FS.on {c : List Ins} {w : World} {db gb N p : Nat} {wr w' : World} {d d1 : List Int} {g : List Bool} {k k' q : Nat} (h : FS c w db gb N p wr d g k) (hr : AllR c) (hp : p < c.length) (hy : pendB d g p = true) (hk : k = k' + 1) (ht : throughS (atI c p) d p = (d1, true)) (hq : q ≤ c.length)
    (hlow : ∀ i, i < q → pendB d1 (g.set p true) i = false) (hrow : w'.rowIs db 3 c.length (dV d1)) (hgrow : w'.rowIs gb 4 c.length (gV (g.set p true))) (hb : Below w.heap.size w w') :
    FS c w db gb (k' * (c.length + 1) + (c.length - q)) q w' d1 (g.set p true) k' ∧ k' * (c.length + 1) + (c.length - q) < N := by
  obtain ⟨k2, e1, h1, h2, h3, h4⟩ := h.next hp hy
  have hkk : k2 = k' := by omega
  subst hkk
  rw [ht] at h4
  obtain ⟨h5, h6⟩ := cnt_set h1
  obtain ⟨sp1, _, sp3⟩ := through_spec c d p (n := c.length) (by have := h.dl; omega) h2 (hr p hp)
  rw [ht] at sp1 sp3
  have hc := h.cnt
  have hkl := h.kle
  have hD := h.dom p (by have := h.dl; omega)
  refine ⟨{
    num := rfl
    ple := hq
    go := (h4.trans (if_pos rfl)).symm
    cnt := by omega
    kle := by omega
    dom := sp3 _ (by omega) (fun i hi => by have := h.dom i hi; omega)
    dl := by rw [sp1.1, h.dl]
    gl := by rw [List.length_set, h.gl]
    low := hlow
    row := hrow
    grow := hgrow
    bel := hb
    dlo := h.dlo
    glo := h.glo
    ne := h.ne }, ?_⟩
  have := h.num
  rw [this, hk, Nat.succ_mul]
  omega
end Go.Proofs.Ytefijgdbnjmifaa

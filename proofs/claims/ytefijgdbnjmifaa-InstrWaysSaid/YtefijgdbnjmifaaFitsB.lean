/- The reference's Fits, walked: what its round needs, in words without the program. -/
import Derived.Test.YtefijgdbnjmifaaFitsA
namespace Go.Proofs.Ytefijgdbnjmifaa
open Go.RowKit Go.Maps

/-- What the target's place makes. -/
def R1S (x : Ins) (d : List Int) (p : Nat) : List Int × Bool := if aK x.op = 1 then meetS d x.a.toNat (thereI x (dAt d p)) else (d, true)
theorem through_gen {x : Ins} {d : List Int} {p : Nat} (h : endsK x.op = false) (h1 : ¬ dAt d p < takesI x) :
    throughS x d p = if (R1S x d p).2 = true then (if x.op = 1 then ((R1S x d p).1, true) else meetS (R1S x d p).1 (p + 1) (nextI x (dAt d p))) else ((R1S x d p).1, false) := by
  unfold throughS
  simp only [h]
  rw [if_neg (by simp)]
  refine (if_neg h1).trans ?_
  show (if (!(R1S x d p).2) = true then ((R1S x d p).1, false) else if x.op = 1 then ((R1S x d p).1, true) else meetS (R1S x d p).1 (p + 1) (nextI x (dAt d p))) = _
  cases (R1S x d p).2 <;> simp
theorem R1_no {x : Ins} {d : List Int} {p : Nat} (h : aK x.op ≠ 1) : R1S x d p = (d, true) := if_neg h
theorem R1_new {x : Ins} {d : List Int} {p q : Nat} (h : aK x.op = 1) (hq : x.a = (q : Int)) (hl : q < d.length) (hn : dAt d q < 0) : R1S x d p = (d.set q (thereI x (dAt d p)), true) := by
  unfold R1S
  rw [if_pos h, show x.a.toNat = q by omega]
  exact meetS_new hl hn
theorem R1_old {x : Ins} {d : List Int} {p q : Nat} (h : aK x.op = 1) (hq : x.a = (q : Int)) (hl : q < d.length) (hn : ¬ dAt d q < 0) : R1S x d p = (d, dAt d q == thereI x (dAt d p)) := by
  unfold R1S
  rw [if_pos h, show x.a.toNat = q by omega]
  exact meetS_old hl hn
theorem R1_len (x : Ins) (d : List Int) (p : Nat) : (R1S x d p).1.length = d.length := by
  unfold R1S
  split
  · exact meet_length _ _ _
  · rfl
theorem pend_set {d : List Int} {g : List Bool} {m q : Nat} {v : Int} (h : ∀ i, i < m → pendB d g i = false) (hq : m ≤ q) (hl : q < d.length) : ∀ i, i < m → pendB (d.set q v) g i = false := fun i hi => by
  have := h i hi
  unfold pendB at *
  rw [dAt_set _ _ _ _ hl, if_neg (by omega)]
  exact this
theorem pend_gset {d : List Int} {g : List Bool} {m p : Nat} (h : ∀ i, i < m → pendB d g i = false) (hl : p < g.length) : ∀ i, i < m → pendB d (g.set p true) i = false := fun i hi => by
  have := h i hi
  unfold pendB at *
  rw [gAt_set _ _ _ hl]
  split
  · simp
  · exact this
theorem row_set {w : World} {db n q : Nat} {d : List Int} {v : Int} {t : TypeId} (h : w.rowIs db t n (dV d)) (hl : q < d.length) : (w.setCell ⟨db, q, none⟩ (.int .i64 v)).rowIs db t n (dV (d.set q v)) :=
  (h.set q (.int .i64 v)).congr fun i _ => by
    unfold dV
    rw [dAt_set _ _ _ _ hl]
    split <;> rfl
theorem grow_set {w : World} {gb n q : Nat} {g : List Bool} {t : TypeId} (h : w.rowIs gb t n (gV g)) (hl : q < g.length) : (w.setCell ⟨gb, q, none⟩ (.bool true)).rowIs gb t n (gV (g.set q true)) :=
  (h.set q (.bool true)).congr fun i _ => by
    unfold gV
    rw [gAt_set _ _ _ hl]
    split <;> rfl
/-- Rows and what was there, kept. -/
structure Kp (w : World) (db gb n : Nat) (d : List Int) (g : List Bool) (W : World) : Prop where
  row : W.rowIs db 3 n (dV d)
  grow : W.rowIs gb 4 n (gV g)
  bel : Below w.heap.size w W
theorem Kp.below {w W W' : World} {db gb n : Nat} {d : List Int} {g : List Bool} (h : Kp w db gb n d g W) (k : Below W.heap.size W W') : Kp w db gb n d g W' :=
  ⟨h.row.of_block (k.block _ h.row.lt), h.grow.of_block (k.block _ h.grow.lt), bthen' h.bel k (Nat.le_refl _)⟩
theorem Kp.drew {w W : World} {db gb n : Nat} {d : List Int} {g : List Bool} (h : Kp w db gb n d g W) : Kp w db gb n d g W.drew := ⟨h.row.drew, h.grow.drew, h.bel.drew⟩
theorem Kp.store {w W : World} {db gb n q : Nat} {d : List Int} {g : List Bool} (h : Kp w db gb n d g W) (ne : db ≠ gb) (lo : w.heap.size ≤ db) (hl : q < d.length) (v : Int) : Kp w db gb n (d.set q v) g (W.setCell ⟨db, q, none⟩ (.int .i64 v)) :=
  ⟨row_set h.row hl, h.grow.setOther (Ne.symm ne) _, h.bel.setCell lo _⟩
/-- Place p is gone through, the instruction lies in a block of its own. -/
theorem FS.begin_ {c : List Ins} {w : World} {db gb N p : Nat} {wr : World} {d : List Int} {g : List Bool} {k : Nat} (h : FS c w db gb N p wr d g k) (hp : p < c.length) (o : Obj) :
    Kp w db gb c.length d (g.set p true) ((wr.setCell ⟨gb, p, none⟩ (.bool true)).alloc o) :=
  ⟨(h.row.setOther h.ne _).alloc _, (grow_set h.grow (by rw [h.gl]; exact hp)).alloc _, (h.bel.setCell h.glo _).alloc (by simp; exact h.bel.size) _⟩
/-- At the meeting behind the target's place. -/
def Mid (c : List Ins) (w : World) (db gb p : Nat) (d : List Int) (g : List Bool) (B : Nat) (op : Nat) (a : Int) (s7 : Value) (wx : World) : Prop :=
  ∃ q : Nat, s7 = .int .i64 q ∧ q ≤ p ∧ (R1S (atI c p) d p).2 = true ∧ Kp w db gb c.length (R1S (atI c p) d p).1 (g.set p true) wx ∧ (∀ i, i < q → pendB (R1S (atI c p) d p).1 (g.set p true) i = false) ∧
    wx.cell? ⟨B, 0, none⟩ = some (.int .u8 (op : Int)) ∧ wx.cell? ⟨B, 1, none⟩ = some (.int .i64 a)
def FPost (c : List Ins) (w : World) (n : Nat) (e : Ending) (w' : World) : Prop :=
  ∃ db : Nat, e = .returned (.tuple #[.slice (some ⟨db, 0, none⟩) n n, .int .i64 (fitsS c).2]) ∧ ((fitsS c).2 < 0 → ∀ j, j < n → w'.cell? ⟨db, j, none⟩ = some (.int .i64 (dAt (fitsS c).1 j))) ∧ Below w.heap.size w w' ∧ w.heap.size ≤ db ∧ db < w'.heap.size
theorem FPost.wrong {c : List Ins} {w W : World} {db gb n p : Nat} {d d1 : List Int} {g : List Bool} (h : Kp w db gb n d g W) (lo : w.heap.size ≤ db) (hf : fitsS c = (d1, (p : Int))) : FPost c w n (.returned (.tuple #[.slice (some ⟨db, 0, none⟩) n n, .int .i64 p])) W :=
  ⟨db, by rw [hf], fun hh => absurd hh (by rw [hf]; simp), h.bel, lo, h.row.lt⟩
theorem FPost.fine {c : List Ins} {w W : World} {db gb n : Nat} {d : List Int} {g : List Bool} (h : Kp w db gb n d g W) (lo : w.heap.size ≤ db) (hf : fitsS c = (d, -1)) : FPost c w n (.returned (.tuple #[.slice (some ⟨db, 0, none⟩) n n, .int .i64 (-1)])) W :=
  ⟨db, by rw [hf], fun _ j hj => by rw [hf]; exact h.row.cell hj, h.bel, lo, h.row.lt⟩
/-- The loop's relation. -/
def FRel (c : List Ins) (w : World) (db gb : Nat) (N : Nat) (s7 : Value) (wr : World) : Prop := ∃ (p : Nat) (d : List Int) (g : List Bool) (k : Nat), s7 = .int .i64 p ∧ FS c w db gb N p wr d g k
theorem FS.start {c : List Ins} {w wr : World} {db gb : Nat} (h : Kp w db gb c.length (d0S c.length) (g0S c.length) wr) (lo : w.heap.size ≤ db) (lo2 : w.heap.size ≤ gb) (ne : db ≠ gb) : FS c w db gb (c.length * (c.length + 1) + c.length) 0 wr (d0S c.length) (g0S c.length) c.length where
  num := by omega
  ple := Nat.zero_le _
  go := rfl
  cnt := by unfold cntB; exact Nat.le_trans List.count_le_length (by simp [g0S])
  kle := Nat.le_refl _
  dom := fun i hi => by
    have hl : (d0S c.length).length = c.length := by simp [d0S]
    rw [hl] at hi; rw [dAt_d0 _ _ hi]; split <;> omega
  dl := by simp [d0S]
  gl := by simp [g0S]
  low := fun i h => absurd h (by omega)
  row := h.row
  grow := h.grow
  bel := h.bel
  dlo := lo
  glo := lo2
  ne := ne
theorem FS.kp {c : List Ins} {w : World} {db gb N p : Nat} {wr : World} {d : List Int} {g : List Bool} {k : Nat} (h : FS c w db gb N p wr d g k) : Kp w db gb c.length d g wr := ⟨h.row, h.grow, h.bel⟩
end Go.Proofs.Ytefijgdbnjmifaa

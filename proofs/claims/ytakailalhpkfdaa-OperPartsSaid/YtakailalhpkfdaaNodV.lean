/- Nodes of values in memory, and what a value is, in plain Lean. -/
import Derived.Test.YtakailalhpkfdaaBase
import Derived.Laws.FloatArith
namespace Go.Proofs.Ytakailalhpkfdaa
open Go.RowKit

/-- A node in memory: its number's parts by their bits. -/
structure Node where
  kind : Nat
  kids : Int
  int : Int
  text : ByteArray
  re : Nat
  im : Nat
def Node.val (x : Node) : Value := .agg #[.int .u8 (x.kind : Int), .int .i64 x.kids, .int .i64 x.int, .string x.text, .complex .f64 x.re x.im]
def zN : Node := ⟨0, 0, 0, ⟨#[]⟩, 0, 0⟩
def atN (v : List Node) (k : Nat) : Node := v.getD k zN
theorem atN_lt {v : List Node} {k : Nat} (h : k < v.length) : atN v k = v[k] := by unfold atN; rw [List.getD_eq_getElem?_getD, List.getElem?_eq_getElem h]; rfl
theorem atN_mem {v : List Node} {k : Nat} (h : k < v.length) : atN v k ∈ v := by rw [atN_lt h]; exact List.getElem_mem h
/-- Five cells that hold a node. -/
structure NodeAt (w : World) (b o : Nat) (x : Node) : Prop where
  c0 : w.cell? ⟨b, o, none⟩ = some (.int .u8 (x.kind : Int))
  c1 : w.cell? ⟨b, o + 1, none⟩ = some (.int .i64 x.kids)
  c2 : w.cell? ⟨b, o + 2, none⟩ = some (.int .i64 x.int)
  c3 : w.cell? ⟨b, o + 3, none⟩ = some (.string x.text)
  c4 : w.cell? ⟨b, o + 4, none⟩ = some (.complex .f64 x.re x.im)
theorem NodeAt.lt {w : World} {b o : Nat} {x : Node} (h : NodeAt w b o x) : b < w.heap.size := World.block_lt_of_cell? w _ h.c0
theorem NodeAt.below {w w' : World} {B b o : Nat} {x : Node} (h : NodeAt w b o x) (hb : Below B w w') (hl : b < B) : NodeAt w' b o x :=
  ⟨(hb.cell (p := ⟨b, o, none⟩) hl).trans h.c0, (hb.cell (p := ⟨b, o + 1, none⟩) hl).trans h.c1, (hb.cell (p := ⟨b, o + 2, none⟩) hl).trans h.c2, (hb.cell (p := ⟨b, o + 3, none⟩) hl).trans h.c3, (hb.cell (p := ⟨b, o + 4, none⟩) hl).trans h.c4⟩
/-- The slice at A holds the nodes. -/
def NodesIn (w : World) (A : Option Addr) (v : List Node) : Prop :=
  0 < v.length → ∃ b off : Nat, A = some ⟨b, off, none⟩ ∧ b < w.heap.size ∧ ∀ k, k < v.length → NodeAt w b (off + k * 5) (atN v k)
theorem NodesIn.nil {w : World} {A : Option Addr} : NodesIn w A [] := fun h => absurd h (by simp)
theorem NodesIn.below {w w' : World} {A : Option Addr} {v : List Node} {B : Nat} (h : NodesIn w A v) (hb : Below B w w') (hB : w.heap.size ≤ B) : NodesIn w' A v := fun hn => by
  obtain ⟨b, off, e, hlt, hc⟩ := h hn
  exact ⟨b, off, e, Nat.lt_of_lt_of_le hlt hb.size, fun k hk => (hc k hk).below hb (Nat.lt_of_lt_of_le hlt hB)⟩
theorem NodesIn.keep {w w' : World} {A : Option Addr} {v : List Node} (h : NodesIn w A v) (hb : Below w.heap.size w w') : NodesIn w' A v := h.below hb (Nat.le_refl _)
/-- A node's numbers and text are such as there are. -/
structure OkNode (x : Node) : Prop where
  kind : x.kind < 256
  k0 : -9223372036854775808 ≤ x.kids
  k1 : x.kids ≤ 9223372036854775807
  i0 : -9223372036854775808 ≤ x.int
  i1 : x.int ≤ 9223372036854775807
  text : x.text.size ≤ 140737488351232
  re : x.re < 18446744073709551616
  im : x.im < 18446744073709551616
def OkV (v : List Node) : Prop := ∀ x, x ∈ v → OkNode x
theorem OkV.at {v : List Node} (h : OkV v) {k : Nat} (hk : k < v.length) : OkNode (atN v k) := h _ (atN_mem hk)

/-- Is a float finite? -/
def fin (x : Nat) : Bool := !(FloatKind.f64.decode x).isNaN && !(FloatKind.f64.decode x).isInfinity
/-- The nought with a minus. -/
def negZ : Nat := 9223372036854775808
def fineB (re im : Nat) : Bool := fin re && fin im && !decide (re = negZ) && !decide (im = negZ)
/-- Is a node right? -/
def rightN (x : Node) : Bool :=
  fineB x.re x.im && decide (x.kind ≤ 5) && (decide (x.kind = 5) || decide (x.kids = 0)) && (decide (x.kind = 1) || decide (x.kind = 2) || decide (x.int = 0)) &&
    (decide (x.kind = 3) || decide (x.text.size = 0)) && (decide (x.kind = 4) || (decide (x.re = 0) && decide (x.im = 0))) &&
    (!decide (x.kind = 1) || decide (x.int = 0) || decide (x.int = 1)) && (!decide (x.kind = 5) || decide (0 ≤ x.kids))
/-- How many values are still to come, behind so many nodes. -/
def openAdd (x : Node) : Int := if x.kind = 5 ∧ 0 < x.kids then min x.kids 1025 else 0
def openTo (v : List Node) : Nat → Int
  | 0 => 1
  | k + 1 => openTo v k - 1 + openAdd (atN v k)
/-- Nodes and bytes of the first so many. -/
def measTo (v : List Node) : Nat → Nat
  | 0 => 0
  | k + 1 => measTo v k + (1 + (atN v k).text.size)
def meas (v : List Node) : Nat := measTo v v.length
/-- A node at which nodes are no value. -/
def badN (v : List Node) (k : Nat) : Bool := !rightN (atN v k) || (decide (openTo v (k + 1) = 0) && decide (k + 1 < v.length))
def shapeS (v : List Node) : Bool := (List.range v.length).all fun k => !badN v k
/-- Is it a value? 0, or why not. -/
def checkS (v : List Node) : Int := if 1024 < v.length then 2 else if shapeS v = true ∧ openTo v v.length = 0 then (if 4096 < meas v then 2 else 0) else 3
theorem check_long {v : List Node} (h : 1024 < v.length) : checkS v = 2 := if_pos h
theorem check_bad {v : List Node} (h : ¬ 1024 < v.length) {k : Nat} (hk : k < v.length) (hb : badN v k = true) : checkS v = 3 := by
  unfold checkS
  rw [if_neg h, if_neg]
  rintro ⟨h1, _⟩
  have := List.all_eq_true.1 h1 k (List.mem_range.2 hk)
  rw [hb] at this
  exact absurd this (by decide)
theorem check_open {v : List Node} (h : ¬ 1024 < v.length) (ho : openTo v v.length ≠ 0) : checkS v = 3 := by
  unfold checkS
  rw [if_neg h, if_neg (fun c => ho c.2)]
theorem shape_all {v : List Node} (h : ∀ k, k < v.length → badN v k = false) : shapeS v = true := List.all_eq_true.2 fun k hk => by rw [h k (List.mem_range.1 hk)]; rfl
theorem check_big {v : List Node} (h : ¬ 1024 < v.length) (hs : shapeS v = true) (ho : openTo v v.length = 0) (hm : 4096 < meas v) : checkS v = 2 := by
  unfold checkS
  rw [if_neg h, if_pos ⟨hs, ho⟩, if_pos hm]
theorem check_ok {v : List Node} (h : ¬ 1024 < v.length) (hs : shapeS v = true) (ho : openTo v v.length = 0) (hm : ¬ 4096 < meas v) : checkS v = 0 := by
  unfold checkS
  rw [if_neg h, if_pos ⟨hs, ho⟩, if_neg hm]
/-- What is known of a right value. -/
structure Right (v : List Node) : Prop where
  len : v.length ≤ 1024
  shape : ∀ k, k < v.length → badN v k = false
  ends : openTo v v.length = 0
  meas : meas v ≤ 4096
theorem right_of {v : List Node} (h : checkS v = 0) : Right v := by
  unfold checkS at h
  split at h
  · exact absurd h (by decide)
  · rename_i h1
    split at h
    · rename_i h2
      split at h
      · exact absurd h (by decide)
      · rename_i h3
        refine ⟨by omega, fun k hk => ?_, h2.2, by omega⟩
        have := List.all_eq_true.1 h2.1 k (List.mem_range.2 hk)
        simpa using this
    · exact absurd h (by decide)
theorem Right.ok {v : List Node} (h : Right v) : checkS v = 0 := check_ok (by have := h.len; omega) (shape_all h.shape) h.ends (by have := h.meas; omega)
theorem Right.pos {v : List Node} (h : Right v) : 0 < v.length := by
  have := h.ends
  cases v with
  | nil => exact absurd this (by decide)
  | cons x v => simp
theorem Right.node {v : List Node} (h : Right v) {k : Nat} (hk : k < v.length) : rightN (atN v k) = true := by
  have := h.shape k hk
  unfold badN at this
  rw [Bool.or_eq_false_iff] at this
  simpa using this.1
theorem openTo_bounds (v : List Node) : ∀ k : Nat, -(k : Int) ≤ openTo v k ∧ openTo v k ≤ 1 + 1025 * (k : Int)
  | 0 => ⟨by unfold openTo; omega, by unfold openTo; omega⟩
  | k + 1 => by
    have := openTo_bounds v k
    have h : 0 ≤ openAdd (atN v k) ∧ openAdd (atN v k) ≤ 1025 := by unfold openAdd; split <;> omega
    unfold openTo
    omega
end Go.Proofs.Ytakailalhpkfdaa

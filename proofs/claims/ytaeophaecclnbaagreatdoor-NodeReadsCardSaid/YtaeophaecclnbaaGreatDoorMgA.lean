/- Nodes of values in memory, and what a value is, in plain Lean. Reading numbers, texts and values of bytes, in plain Lean. No program in sight. -/
import Derived.Test.YtaeophaecclnbaaGreatDoorBase
import Derived.Laws.FloatArith
import Derived.Lib.SlBytesRow
namespace Go.Proofs.YtaeophaecclnbaaGreatDoor
open Go.RowKit

/-- A node in memory: its number's parts by their bits. -/
structure Node where
  kind : Nat
  kids : Int
  int : Int
  text : ByteArray
  re : Nat
  im : Nat
def Node.val (x : Node) : Value := .agg #[.int .u8 (x.kind : Int), .int .i64 x.kids, .int .i64 x.int, .string x.text, .complex .f64 x.re x.im]
def zN : Node := ⟨0, 0, 0, ⟨#[]⟩, 0, 0⟩
def atN (v : List Node) (k : Nat) : Node := v.getD k zN
theorem atN_lt {v : List Node} {k : Nat} (h : k < v.length) : atN v k = v[k] := by unfold atN; rw [List.getD_eq_getElem?_getD, List.getElem?_eq_getElem h]; rfl
theorem atN_mem {v : List Node} {k : Nat} (h : k < v.length) : atN v k ∈ v := by rw [atN_lt h]; exact List.getElem_mem h
/-- Five cells that hold a node. -/
structure NodeAt (w : World) (b o : Nat) (x : Node) : Prop where
  c0 : w.cell? ⟨b, o, none⟩ = some (.int .u8 (x.kind : Int))
  c1 : w.cell? ⟨b, o + 1, none⟩ = some (.int .i64 x.kids)
  c2 : w.cell? ⟨b, o + 2, none⟩ = some (.int .i64 x.int)
  c3 : w.cell? ⟨b, o + 3, none⟩ = some (.string x.text)
  c4 : w.cell? ⟨b, o + 4, none⟩ = some (.complex .f64 x.re x.im)
theorem NodeAt.lt {w : World} {b o : Nat} {x : Node} (h : NodeAt w b o x) : b < w.heap.size := World.block_lt_of_cell? w _ h.c0
theorem NodeAt.below {w w' : World} {B b o : Nat} {x : Node} (h : NodeAt w b o x) (hb : Below B w w') (hl : b < B) : NodeAt w' b o x :=
  ⟨(hb.cell (p := ⟨b, o, none⟩) hl).trans h.c0, (hb.cell (p := ⟨b, o + 1, none⟩) hl).trans h.c1, (hb.cell (p := ⟨b, o + 2, none⟩) hl).trans h.c2, (hb.cell (p := ⟨b, o + 3, none⟩) hl).trans h.c3, (hb.cell (p := ⟨b, o + 4, none⟩) hl).trans h.c4⟩
/-- The slice at A holds the nodes. -/
def NodesIn (w : World) (A : Option Addr) (v : List Node) : Prop :=
  0 < v.length → ∃ b off : Nat, A = some ⟨b, off, none⟩ ∧ b < w.heap.size ∧ ∀ k, k < v.length → NodeAt w b (off + k * 5) (atN v k)
theorem NodesIn.nil {w : World} {A : Option Addr} : NodesIn w A [] := fun h => absurd h (by simp)
theorem NodesIn.below {w w' : World} {A : Option Addr} {v : List Node} {B : Nat} (h : NodesIn w A v) (hb : Below B w w') (hB : w.heap.size ≤ B) : NodesIn w' A v := fun hn => by
  obtain ⟨b, off, e, hlt, hc⟩ := h hn
  exact ⟨b, off, e, Nat.lt_of_lt_of_le hlt hb.size, fun k hk => (hc k hk).below hb (Nat.lt_of_lt_of_le hlt hB)⟩
theorem NodesIn.keep {w w' : World} {A : Option Addr} {v : List Node} (h : NodesIn w A v) (hb : Below w.heap.size w w') : NodesIn w' A v := h.below hb (Nat.le_refl _)
/-- A node's numbers and text are such as there are. -/
structure OkNode (x : Node) : Prop where
  kind : x.kind < 256
  k0 : -9223372036854775808 ≤ x.kids
  k1 : x.kids ≤ 9223372036854775807
  i0 : -9223372036854775808 ≤ x.int
  i1 : x.int ≤ 9223372036854775807
  text : x.text.size ≤ 140737488351232
  re : x.re < 18446744073709551616
  im : x.im < 18446744073709551616
def OkV (v : List Node) : Prop := ∀ x, x ∈ v → OkNode x
theorem OkV.at {v : List Node} (h : OkV v) {k : Nat} (hk : k < v.length) : OkNode (atN v k) := h _ (atN_mem hk)

/-- Is a float finite? -/
def fin (x : Nat) : Bool := !(FloatKind.f64.decode x).isNaN && !(FloatKind.f64.decode x).isInfinity
/-- The nought with a minus. -/
def negZ : Nat := 9223372036854775808
def fineB (re im : Nat) : Bool := fin re && fin im && !decide (re = negZ) && !decide (im = negZ)
/-- Is a node right? -/
def rightN (x : Node) : Bool :=
  fineB x.re x.im && decide (x.kind ≤ 5) && (decide (x.kind = 5) || decide (x.kids = 0)) && (decide (x.kind = 1) || decide (x.kind = 2) || decide (x.int = 0)) &&
    (decide (x.kind = 3) || decide (x.text.size = 0)) && (decide (x.kind = 4) || (decide (x.re = 0) && decide (x.im = 0))) &&
    (!decide (x.kind = 1) || decide (x.int = 0) || decide (x.int = 1)) && (!decide (x.kind = 5) || decide (0 ≤ x.kids))
/-- How many values are still to come, behind so many nodes. -/
def openAdd (x : Node) : Int := if x.kind = 5 ∧ 0 < x.kids then min x.kids 1025 else 0
def openTo (v : List Node) : Nat → Int
  | 0 => 1
  | k + 1 => openTo v k - 1 + openAdd (atN v k)
/-- Nodes and bytes of the first so many. -/
def measTo (v : List Node) : Nat → Nat
  | 0 => 0
  | k + 1 => measTo v k + (1 + (atN v k).text.size)
def meas (v : List Node) : Nat := measTo v v.length
/-- A node at which nodes are no value. -/
def badN (v : List Node) (k : Nat) : Bool := !rightN (atN v k) || (decide (openTo v (k + 1) = 0) && decide (k + 1 < v.length))
def shapeS (v : List Node) : Bool := (List.range v.length).all fun k => !badN v k
/-- Is it a value? 0, or why not. -/
def checkS (v : List Node) : Int := if 1024 < v.length then 2 else if shapeS v = true ∧ openTo v v.length = 0 then (if 4096 < meas v then 2 else 0) else 3
theorem check_long {v : List Node} (h : 1024 < v.length) : checkS v = 2 := if_pos h
theorem check_bad {v : List Node} (h : ¬ 1024 < v.length) {k : Nat} (hk : k < v.length) (hb : badN v k = true) : checkS v = 3 := by
  unfold checkS
  rw [if_neg h, if_neg]
  rintro ⟨h1, _⟩
  have := List.all_eq_true.1 h1 k (List.mem_range.2 hk)
  rw [hb] at this
  exact absurd this (by decide)
theorem check_open {v : List Node} (h : ¬ 1024 < v.length) (ho : openTo v v.length ≠ 0) : checkS v = 3 := by
  unfold checkS
  rw [if_neg h, if_neg (fun c => ho c.2)]
theorem shape_all {v : List Node} (h : ∀ k, k < v.length → badN v k = false) : shapeS v = true := List.all_eq_true.2 fun k hk => by rw [h k (List.mem_range.1 hk)]; rfl
theorem check_big {v : List Node} (h : ¬ 1024 < v.length) (hs : shapeS v = true) (ho : openTo v v.length = 0) (hm : 4096 < meas v) : checkS v = 2 := by
  unfold checkS
  rw [if_neg h, if_pos ⟨hs, ho⟩, if_pos hm]
theorem check_ok {v : List Node} (h : ¬ 1024 < v.length) (hs : shapeS v = true) (ho : openTo v v.length = 0) (hm : ¬ 4096 < meas v) : checkS v = 0 := by
  unfold checkS
  rw [if_neg h, if_pos ⟨hs, ho⟩, if_neg hm]
/-- What is known of a right value. -/
structure Right (v : List Node) : Prop where
  len : v.length ≤ 1024
  shape : ∀ k, k < v.length → badN v k = false
  ends : openTo v v.length = 0
  meas : meas v ≤ 4096
theorem right_of {v : List Node} (h : checkS v = 0) : Right v := by
  unfold checkS at h
  split at h
  · exact absurd h (by decide)
  · rename_i h1
    split at h
    · rename_i h2
      split at h
      · exact absurd h (by decide)
      · rename_i h3
        refine ⟨by omega, fun k hk => ?_, h2.2, by omega⟩
        have := List.all_eq_true.1 h2.1 k (List.mem_range.2 hk)
        simpa using this
    · exact absurd h (by decide)
theorem Right.ok {v : List Node} (h : Right v) : checkS v = 0 := check_ok (by have := h.len; omega) (shape_all h.shape) h.ends (by have := h.meas; omega)
theorem Right.pos {v : List Node} (h : Right v) : 0 < v.length := by
  have := h.ends
  cases v with
  | nil => exact absurd this (by decide)
  | cons x v => simp
theorem Right.node {v : List Node} (h : Right v) {k : Nat} (hk : k < v.length) : rightN (atN v k) = true := by
  have := h.shape k hk
  unfold badN at this
  rw [Bool.or_eq_false_iff] at this
  simpa using this.1
theorem openTo_bounds (v : List Node) : ∀ k : Nat, -(k : Int) ≤ openTo v k ∧ openTo v k ≤ 1 + 1025 * (k : Int)
  | 0 => ⟨by unfold openTo; omega, by unfold openTo; omega⟩
  | k + 1 => by
    have := openTo_bounds v k
    have h : 0 ≤ openAdd (atN v k) ∧ openAdd (atN v k) ≤ 1025 := by unfold openAdd; split <;> omega
    unfold openTo
    omega
end Go.Proofs.YtaeophaecclnbaaGreatDoor
namespace Go.Proofs.YtaeophaecclnbaaGreatDoor
open Go.RowKit

/-- A byte. -/
def byt (l : List UInt8) (i : Nat) : Nat := (l.getD i 0).toNat
theorem byt_lt (l : List UInt8) (i : Nat) : byt l i < 256 := (l.getD i 0).toNat_lt
/-- Reading a number: its value, where it ends, 0; or 0, where it goes wrong, the error. -/
def numGo (l : List UInt8) : Nat → Nat → Nat → Nat × Nat × Int
  | 0, i, _ => (0, i, 3)
  | f + 1, i, n => if l.length ≤ i then (0, l.length, 4)
    else if (byt l i = 0 ∧ 0 < i) ∨ (i = 9 ∧ byt l i ≠ 1) then (0, i, 3)
    else if byt l i < 128 then (n + byt l i % 128 * 2 ^ (7 * i), i + 1, 0)
    else numGo l f (i + 1) (n + byt l i % 128 * 2 ^ (7 * i))
def numS (l : List UInt8) : Nat × Nat × Int := numGo l 10 0 0
theorem numGo_end {l : List UInt8} {f i n : Nat} (h : l.length ≤ i) : numGo l (f + 1) i n = (0, l.length, 4) := if_pos h
theorem numGo_bad {l : List UInt8} {f i n : Nat} (h : i < l.length) (hb : (byt l i = 0 ∧ 0 < i) ∨ (i = 9 ∧ byt l i ≠ 1)) : numGo l (f + 1) i n = (0, i, 3) := (if_neg (by omega)).trans (if_pos hb)
theorem numGo_last {l : List UInt8} {f i n : Nat} (h : i < l.length) (hb : ¬ ((byt l i = 0 ∧ 0 < i) ∨ (i = 9 ∧ byt l i ≠ 1))) (h1 : byt l i < 128) : numGo l (f + 1) i n = (n + byt l i % 128 * 2 ^ (7 * i), i + 1, 0) := (if_neg (by omega)).trans ((if_neg hb).trans (if_pos h1))
theorem numGo_more {l : List UInt8} {f i n : Nat} (h : i < l.length) (hb : ¬ ((byt l i = 0 ∧ 0 < i) ∨ (i = 9 ∧ byt l i ≠ 1))) (h1 : ¬ byt l i < 128) : numGo l (f + 1) i n = numGo l f (i + 1) (n + byt l i % 128 * 2 ^ (7 * i)) := (if_neg (by omega)).trans ((if_neg hb).trans (if_neg h1))
/-- In the midst of a number. -/
structure Nm (l : List UInt8) (i n : Nat) : Prop where
  le : i ≤ 9
  eq : numS l = numGo l (10 - i) i n
  lt : n < 2 ^ (7 * i)
theorem Nm.start (l : List UInt8) : Nm l 0 0 := ⟨by omega, rfl, by simp⟩
theorem pow7_succ (i : Nat) : 2 ^ (7 * (i + 1)) = 128 * 2 ^ (7 * i) := by rw [show 7 * (i + 1) = 7 * i + 7 by omega, Nat.pow_add]; omega
theorem Nm.step_lt {l : List UInt8} {i n : Nat} (h : Nm l i n) : n + byt l i % 128 * 2 ^ (7 * i) < 2 ^ (7 * (i + 1)) := by
  have h1 := h.lt
  have h2 : byt l i % 128 < 128 := Nat.mod_lt _ (by omega)
  rw [pow7_succ]
  have h3 : byt l i % 128 * 2 ^ (7 * i) ≤ 127 * 2 ^ (7 * i) := Nat.mul_le_mul_right _ (by omega)
  omega
theorem Nm.ended {l : List UInt8} {i n : Nat} (h : Nm l i n) (hi : l.length ≤ i) : numS l = (0, l.length, 4) := by
  rw [h.eq, show 10 - i = (9 - i) + 1 by have := h.le; omega, numGo_end hi]
theorem Nm.bad {l : List UInt8} {i n : Nat} (h : Nm l i n) (hi : i < l.length) (hb : (byt l i = 0 ∧ 0 < i) ∨ (i = 9 ∧ byt l i ≠ 1)) : numS l = (0, i, 3) := by
  rw [h.eq, show 10 - i = (9 - i) + 1 by have := h.le; omega, numGo_bad hi hb]
theorem Nm.last {l : List UInt8} {i n : Nat} (h : Nm l i n) (hi : i < l.length) (hb : ¬ ((byt l i = 0 ∧ 0 < i) ∨ (i = 9 ∧ byt l i ≠ 1))) (h1 : byt l i < 128) : numS l = (n + byt l i % 128 * 2 ^ (7 * i), i + 1, 0) := by
  rw [h.eq, show 10 - i = (9 - i) + 1 by have := h.le; omega, numGo_last hi hb h1]
theorem Nm.more {l : List UInt8} {i n : Nat} (h : Nm l i n) (hi : i < l.length) (hb : ¬ ((byt l i = 0 ∧ 0 < i) ∨ (i = 9 ∧ byt l i ≠ 1))) (h1 : ¬ byt l i < 128) : Nm l (i + 1) (n + byt l i % 128 * 2 ^ (7 * i)) := by
  have hle := h.le
  refine ⟨by omega, ?_, h.step_lt⟩
  rw [h.eq, show 10 - i = (9 - i) + 1 by omega, numGo_more hi hb h1, show 10 - (i + 1) = 9 - i by omega]
/-- A step's sum stays within 64 bits. -/
theorem Nm.u64 {l : List UInt8} {i n : Nat} (h : Nm l i n) (hb : ¬ ((byt l i = 0 ∧ 0 < i) ∨ (i = 9 ∧ byt l i ≠ 1))) : n + byt l i % 128 * 2 ^ (7 * i) < 2 ^ 64 ∧ byt l i % 128 * 2 ^ (7 * i) < 2 ^ 64 := by
  have hle := h.le
  have hs := h.step_lt
  by_cases h9 : i = 9
  · subst h9
    have hc : byt l 9 = 1 := by omega
    have := h.lt
    rw [hc]
    have e : 2 ^ (7 * 9) = 9223372036854775808 := by decide
    rw [e] at *
    omega
  · have : 2 ^ (7 * (i + 1)) ≤ 2 ^ 63 := Nat.pow_le_pow_right (by omega) (by omega)
    have e : (2 : Nat) ^ 63 < 2 ^ 64 := by decide
    omega
theorem Nm.or {l : List UInt8} {i n : Nat} (h : Nm l i n) (c : Nat) : n ||| c * 2 ^ (7 * i) = n + c * 2 ^ (7 * i) := by
  have := Nat.shiftLeft_add_eq_or_of_lt h.lt c
  rw [Nat.shiftLeft_eq] at this
  rw [Nat.or_comm, ← this, Nat.add_comm]
def zagI (v : Nat) : Int := if v % 2 = 1 then -((v / 2 : Nat) : Int) - 1 else ((v / 2 : Nat) : Int)
theorem numGo_lt (l : List UInt8) : ∀ (f i n : Nat), Nm l i n → f = 10 - i → (numGo l f i n).1 < 2 ^ 64 := by
  intro f
  induction f with
  | zero => intro i n h _; show (0 : Nat) < _; decide
  | succ f ih =>
    intro i n h hf
    by_cases he : l.length ≤ i
    · rw [numGo_end he]; show (0 : Nat) < _; decide
    · by_cases hb : (byt l i = 0 ∧ 0 < i) ∨ (i = 9 ∧ byt l i ≠ 1)
      · rw [numGo_bad (by omega) hb]; show (0 : Nat) < _; decide
      · by_cases h1 : byt l i < 128
        · rw [numGo_last (by omega) hb h1]; exact (h.u64 hb).1
        · rw [numGo_more (by omega) hb h1]
          exact ih _ _ (h.more (by omega) hb h1) (by omega)
theorem num_lt (l : List UInt8) : (numS l).1 < 18446744073709551616 := numGo_lt l 10 0 0 (Nm.start l) rfl
theorem numGo_zero (l : List UInt8) : ∀ (f i n : Nat), (numGo l f i n).2.2 ≠ 0 → (numGo l f i n).1 = 0 := by
  intro f
  induction f with
  | zero => intro i n _; rfl
  | succ f ih =>
    intro i n h
    by_cases he : l.length ≤ i
    · rw [numGo_end he]
    · by_cases hb : (byt l i = 0 ∧ 0 < i) ∨ (i = 9 ∧ byt l i ≠ 1)
      · rw [numGo_bad (by omega) hb]
      · by_cases h1 : byt l i < 128
        · rw [numGo_last (by omega) hb h1] at h; exact absurd rfl h
        · rw [numGo_more (by omega) hb h1] at h ⊢
          exact ih _ _ h
theorem num_zero {l : List UInt8} (h : (numS l).2.2 ≠ 0) : (numS l).1 = 0 := numGo_zero l 10 0 0 h
def strB (l : List UInt8) : ByteArray := ⟨l.toArray⟩
theorem ext_take (l : List UInt8) (p k : Nat) : (strB l).extract p (p + k) = strB ((l.drop p).take k) := by
  apply ByteArray.ext
  apply Array.toList_inj.1
  rw [Lib.extract_data]
  simp [strB]
/-- Reading a text: its bytes, where it ends, 0; or none, where it goes wrong, the error. -/
def textS (l : List UInt8) : List UInt8 × Nat × Int :=
  if (numS l).2.2 ≠ 0 then ([], (numS l).2.1, (numS l).2.2)
  else if l.length - (numS l).2.1 < (numS l).1 then ([], l.length, 4)
  else ((l.drop (numS l).2.1).take (numS l).1, (numS l).2.1 + (numS l).1, 0)
theorem text_bad {l : List UInt8} (h : (numS l).2.2 ≠ 0) : textS l = ([], (numS l).2.1, (numS l).2.2) := if_pos h
theorem text_short {l : List UInt8} (h : (numS l).2.2 = 0) (hs : l.length - (numS l).2.1 < (numS l).1) : textS l = ([], l.length, 4) := (if_neg (fun c => c h)).trans (if_pos hs)
theorem text_good {l : List UInt8} (h : (numS l).2.2 = 0) (hs : ¬ l.length - (numS l).2.1 < (numS l).1) : textS l = ((l.drop (numS l).2.1).take (numS l).1, (numS l).2.1 + (numS l).1, 0) := (if_neg (fun c => c h)).trans (if_neg hs)
theorem text_none {l : List UInt8} (h : (textS l).2.2 ≠ 0) : (textS l).1 = [] := by
  by_cases h1 : (numS l).2.2 = 0
  · by_cases h2 : l.length - (numS l).2.1 < (numS l).1
    · rw [text_short h1 h2]
    · rw [text_good h1 h2] at h; exact absurd rfl h
  · rw [text_bad h1]
theorem byt_drop (l : List UInt8) (p j : Nat) : byt (l.drop p) j = byt l (p + j) := by
  unfold byt
  simp [List.getD]
theorem num_pos {l : List UInt8} : (numS l).2.1 ≤ l.length := by
  have : ∀ (f i n : Nat), Nm l i n → f = 10 - i → (numGo l f i n).2.1 ≤ l.length := by
    intro f
    induction f with
    | zero => intro i n h hf; have := h.le; omega
    | succ f ih =>
      intro i n h hf
      by_cases he : l.length ≤ i
      · rw [numGo_end he]; exact Nat.le_refl _
      · by_cases hb : (byt l i = 0 ∧ 0 < i) ∨ (i = 9 ∧ byt l i ≠ 1)
        · rw [numGo_bad (by omega) hb]; show i ≤ _; omega
        · by_cases h1 : byt l i < 128
          · rw [numGo_last (by omega) hb h1]; show i + 1 ≤ _; omega
          · rw [numGo_more (by omega) hb h1]
            exact ih _ _ (h.more (by omega) hb h1) (by omega)
  exact this 10 0 0 (Nm.start l) rfl
theorem text_pos {l : List UInt8} : (textS l).2.1 ≤ l.length := by
  by_cases h1 : (numS l).2.2 = 0
  · by_cases h2 : l.length - (numS l).2.1 < (numS l).1
    · rw [text_short h1 h2]; exact Nat.le_refl _
    · have := @num_pos l
      rw [text_good h1 h2]
      show (numS l).2.1 + (numS l).1 ≤ _
      omega
  · rw [text_bad h1]; exact num_pos
theorem text_zero {l : List UInt8} (h : (textS l).2.2 ≠ 0) : strB (textS l).1 = ⟨#[]⟩ := by rw [text_none h]; rfl
theorem zag_zero {l : List UInt8} (h : (numS l).2.2 ≠ 0) : zagI (numS l).1 = 0 := by rw [num_zero h]; rfl
theorem num_zeroI {l : List UInt8} (h : (numS l).2.2 ≠ 0) : ((numS l).1 : Int) = 0 := by rw [num_zero h]; rfl
set_option maxRecDepth 100000 in

/-! ### Values -/
/-- A number of so many bytes, the highest first. -/
def beN (l : List UInt8) (p : Nat) : Nat → Nat
  | 0 => 0
  | k + 1 => beN l p k * 256 + byt l (p + k)
theorem beN_lt (l : List UInt8) (p : Nat) : ∀ k, beN l p k < 256 ^ k
  | 0 => by unfold beN; decide
  | k + 1 => by
    have := beN_lt l p k
    have h := byt_lt l (p + k)
    unfold beN
    rw [Nat.pow_succ]
    omega
/-- A node that was read, from a place on, behind nodes of a size: it, where it ends, 0; or where it goes wrong, the error. -/
def nodeS (l : List UInt8) (p size : Nat) : Node × Nat × Int :=
  if byt l p = 0 then (zN, p + 1, 0)
  else if byt l p = 1 then
    (if l.length ≤ p + 1 then (zN, l.length, 4) else if 1 < byt l (p + 1) then (zN, p + 1, 3) else (⟨1, 0, (byt l (p + 1) : Int), ⟨#[]⟩, 0, 0⟩, p + 1 + 1, 0))
  else if byt l p = 2 then
    (if (numS (l.drop (p + 1))).2.2 ≠ 0 then (zN, p + 1 + (numS (l.drop (p + 1))).2.1, (numS (l.drop (p + 1))).2.2)
      else (⟨2, 0, zagI (numS (l.drop (p + 1))).1, ⟨#[]⟩, 0, 0⟩, p + 1 + (numS (l.drop (p + 1))).2.1, 0))
  else if byt l p = 3 then
    (if (numS (l.drop (p + 1))).2.2 ≠ 0 then (zN, p + 1 + (numS (l.drop (p + 1))).2.1, (numS (l.drop (p + 1))).2.2)
      else if 4095 - size < (numS (l.drop (p + 1))).1 then (zN, p + 1, 2)
      else if (textS (l.drop (p + 1))).2.2 ≠ 0 then (zN, p + 1 + (textS (l.drop (p + 1))).2.1, (textS (l.drop (p + 1))).2.2)
      else (⟨3, 0, 0, strB (textS (l.drop (p + 1))).1, 0, 0⟩, p + 1 + (textS (l.drop (p + 1))).2.1, 0))
  else if byt l p = 4 then
    (if l.length < p + 1 + 16 then (zN, l.length, 4) else if fineB (beN l (p + 1) 8) (beN l (p + 1 + 8) 8) = false then (zN, p + 1, 20)
      else (⟨4, 0, 0, ⟨#[]⟩, beN l (p + 1) 8, beN l (p + 1 + 8) 8⟩, p + 1 + 16, 0))
  else if byt l p = 5 then
    (if (numS (l.drop (p + 1))).2.2 ≠ 0 then (zN, p + 1 + (numS (l.drop (p + 1))).2.1, (numS (l.drop (p + 1))).2.2)
      else if 1024 < (numS (l.drop (p + 1))).1 then (zN, p + 1, 2)
      else (⟨5, ((numS (l.drop (p + 1))).1 : Int), 0, ⟨#[]⟩, 0, 0⟩, p + 1 + (numS (l.drop (p + 1))).2.1, 0))
  else (zN, p, 3)
section
variable {l : List UInt8} {p size : Nat}
theorem node_none (h : byt l p = 0) : nodeS l p size = (zN, p + 1, 0) := if_pos h
theorem node_bool (h : byt l p = 1) : nodeS l p size = (if l.length ≤ p + 1 then (zN, l.length, 4) else if 1 < byt l (p + 1) then (zN, p + 1, 3) else (⟨1, 0, (byt l (p + 1) : Int), ⟨#[]⟩, 0, 0⟩, p + 1 + 1, 0)) := by
  unfold nodeS; rw [h]; rfl
theorem node_bool_short (h : byt l p = 1) (h1 : l.length ≤ p + 1) : nodeS l p size = (zN, l.length, 4) := by rw [node_bool h, if_pos h1]
theorem node_bool_bad (h : byt l p = 1) (h1 : ¬ l.length ≤ p + 1) (h2 : 1 < byt l (p + 1)) : nodeS l p size = (zN, p + 1, 3) := by rw [node_bool h, if_neg h1, if_pos h2]
theorem node_bool_ok (h : byt l p = 1) (h1 : ¬ l.length ≤ p + 1) (h2 : ¬ 1 < byt l (p + 1)) : nodeS l p size = (⟨1, 0, (byt l (p + 1) : Int), ⟨#[]⟩, 0, 0⟩, p + 1 + 1, 0) := by rw [node_bool h, if_neg h1, if_neg h2]
theorem node_int (h : byt l p = 2) : nodeS l p size = (if (numS (l.drop (p + 1))).2.2 ≠ 0 then (zN, p + 1 + (numS (l.drop (p + 1))).2.1, (numS (l.drop (p + 1))).2.2)
      else (⟨2, 0, zagI (numS (l.drop (p + 1))).1, ⟨#[]⟩, 0, 0⟩, p + 1 + (numS (l.drop (p + 1))).2.1, 0)) := by
  unfold nodeS; rw [h]; rfl
theorem node_int_bad (h : byt l p = 2) (h1 : (numS (l.drop (p + 1))).2.2 ≠ 0) : nodeS l p size = (zN, p + 1 + (numS (l.drop (p + 1))).2.1, (numS (l.drop (p + 1))).2.2) := by rw [node_int h, if_pos h1]
theorem node_int_ok (h : byt l p = 2) (h1 : (numS (l.drop (p + 1))).2.2 = 0) : nodeS l p size = (⟨2, 0, zagI (numS (l.drop (p + 1))).1, ⟨#[]⟩, 0, 0⟩, p + 1 + (numS (l.drop (p + 1))).2.1, 0) := by rw [node_int h, if_neg (fun c => c h1)]
theorem node_text (h : byt l p = 3) : nodeS l p size = (if (numS (l.drop (p + 1))).2.2 ≠ 0 then (zN, p + 1 + (numS (l.drop (p + 1))).2.1, (numS (l.drop (p + 1))).2.2)
      else if 4095 - size < (numS (l.drop (p + 1))).1 then (zN, p + 1, 2)
      else if (textS (l.drop (p + 1))).2.2 ≠ 0 then (zN, p + 1 + (textS (l.drop (p + 1))).2.1, (textS (l.drop (p + 1))).2.2)
      else (⟨3, 0, 0, strB (textS (l.drop (p + 1))).1, 0, 0⟩, p + 1 + (textS (l.drop (p + 1))).2.1, 0)) := by
  unfold nodeS; rw [h]; rfl
theorem node_text_bad (h : byt l p = 3) (h1 : (numS (l.drop (p + 1))).2.2 ≠ 0) : nodeS l p size = (zN, p + 1 + (numS (l.drop (p + 1))).2.1, (numS (l.drop (p + 1))).2.2) := by rw [node_text h, if_pos h1]
theorem node_text_long (h : byt l p = 3) (h1 : (numS (l.drop (p + 1))).2.2 = 0) (h2 : 4095 - size < (numS (l.drop (p + 1))).1) : nodeS l p size = (zN, p + 1, 2) := by rw [node_text h, if_neg (fun c => c h1), if_pos h2]
theorem node_text_short (h : byt l p = 3) (h1 : (numS (l.drop (p + 1))).2.2 = 0) (h2 : ¬ 4095 - size < (numS (l.drop (p + 1))).1) (h3 : (textS (l.drop (p + 1))).2.2 ≠ 0) : nodeS l p size = (zN, p + 1 + (textS (l.drop (p + 1))).2.1, (textS (l.drop (p + 1))).2.2) := by
  rw [node_text h, if_neg (fun c => c h1), if_neg h2, if_pos h3]
theorem node_text_ok (h : byt l p = 3) (h1 : (numS (l.drop (p + 1))).2.2 = 0) (h2 : ¬ 4095 - size < (numS (l.drop (p + 1))).1) (h3 : (textS (l.drop (p + 1))).2.2 = 0) : nodeS l p size = (⟨3, 0, 0, strB (textS (l.drop (p + 1))).1, 0, 0⟩, p + 1 + (textS (l.drop (p + 1))).2.1, 0) := by
  rw [node_text h, if_neg (fun c => c h1), if_neg h2, if_neg (fun c => c h3)]
theorem node_num (h : byt l p = 4) : nodeS l p size = (if l.length < p + 1 + 16 then (zN, l.length, 4) else if fineB (beN l (p + 1) 8) (beN l (p + 1 + 8) 8) = false then (zN, p + 1, 20)
      else (⟨4, 0, 0, ⟨#[]⟩, beN l (p + 1) 8, beN l (p + 1 + 8) 8⟩, p + 1 + 16, 0)) := by
  unfold nodeS; rw [h]; rfl
theorem node_num_short (h : byt l p = 4) (h1 : l.length < p + 1 + 16) : nodeS l p size = (zN, l.length, 4) := by rw [node_num h, if_pos h1]
theorem node_num_bad (h : byt l p = 4) (h1 : ¬ l.length < p + 1 + 16) (h2 : fineB (beN l (p + 1) 8) (beN l (p + 1 + 8) 8) = false) : nodeS l p size = (zN, p + 1, 20) := by rw [node_num h, if_neg h1, if_pos h2]
theorem node_num_ok (h : byt l p = 4) (h1 : ¬ l.length < p + 1 + 16) (h2 : fineB (beN l (p + 1) 8) (beN l (p + 1 + 8) 8) = true) : nodeS l p size = (⟨4, 0, 0, ⟨#[]⟩, beN l (p + 1) 8, beN l (p + 1 + 8) 8⟩, p + 1 + 16, 0) := by
  rw [node_num h, if_neg h1, if_neg (by rw [h2]; decide)]
theorem node_list (h : byt l p = 5) : nodeS l p size = (if (numS (l.drop (p + 1))).2.2 ≠ 0 then (zN, p + 1 + (numS (l.drop (p + 1))).2.1, (numS (l.drop (p + 1))).2.2)
      else if 1024 < (numS (l.drop (p + 1))).1 then (zN, p + 1, 2)
      else (⟨5, ((numS (l.drop (p + 1))).1 : Int), 0, ⟨#[]⟩, 0, 0⟩, p + 1 + (numS (l.drop (p + 1))).2.1, 0)) := by
  unfold nodeS; rw [h]; rfl
theorem node_list_bad (h : byt l p = 5) (h1 : (numS (l.drop (p + 1))).2.2 ≠ 0) : nodeS l p size = (zN, p + 1 + (numS (l.drop (p + 1))).2.1, (numS (l.drop (p + 1))).2.2) := by rw [node_list h, if_pos h1]
theorem node_list_long (h : byt l p = 5) (h1 : (numS (l.drop (p + 1))).2.2 = 0) (h2 : 1024 < (numS (l.drop (p + 1))).1) : nodeS l p size = (zN, p + 1, 2) := by rw [node_list h, if_neg (fun c => c h1), if_pos h2]
theorem node_list_ok (h : byt l p = 5) (h1 : (numS (l.drop (p + 1))).2.2 = 0) (h2 : ¬ 1024 < (numS (l.drop (p + 1))).1) : nodeS l p size = (⟨5, ((numS (l.drop (p + 1))).1 : Int), 0, ⟨#[]⟩, 0, 0⟩, p + 1 + (numS (l.drop (p + 1))).2.1, 0) := by
  rw [node_list h, if_neg (fun c => c h1), if_neg h2]
theorem node_other (h : 5 < byt l p) : nodeS l p size = (zN, p, 3) := by
  unfold nodeS
  rw [if_neg (by omega), if_neg (by omega), if_neg (by omega), if_neg (by omega), if_neg (by omega), if_neg (by omega)]
/-- What is known of a node that was read. -/
structure NodeR (l : List UInt8) (p size : Nat) : Prop where
  to : (nodeS l p size).2.1 ≤ l.length
  on : (nodeS l p size).2.2 = 0 → p < (nodeS l p size).2.1
  right : (nodeS l p size).2.2 = 0 → rightN (nodeS l p size).1 = true
  ok : OkNode (nodeS l p size).1
  text : (nodeS l p size).2.2 = 0 → size + 1 + (nodeS l p size).1.text.size ≤ 4096
  kids0 : 0 ≤ (nodeS l p size).1.kids
  kids1 : (nodeS l p size).1.kids ≤ 1024
theorem okN_zN : OkNode zN := ⟨by decide, by decide, by decide, by decide, by decide, by decide, by decide, by decide⟩
theorem drop_len (l : List UInt8) (p : Nat) : (l.drop p).length = l.length - p := List.length_drop
theorem zag_range {v : Nat} (h : v < 18446744073709551616) : -9223372036854775808 ≤ zagI v ∧ zagI v ≤ 9223372036854775807 := by
  unfold zagI
  split <;> omega
theorem text_size {l : List UInt8} (h : (textS l).2.2 = 0) : (strB (textS l).1).size = (numS l).1 := by
  by_cases h1 : (numS l).2.2 = 0
  · by_cases h2 : l.length - (numS l).2.1 < (numS l).1
    · rw [text_short h1 h2] at h; exact absurd (show (4 : Int) = 0 from h) (by decide)
    · rw [text_good h1 h2]
      show (List.take (numS l).1 (List.drop (numS l).2.1 l)).length = _
      rw [List.length_take, List.length_drop]; omega
  · rw [text_bad h1] at h; exact absurd h h1
theorem fineB_zero : fineB 0 0 = true := by decide +kernel
theorem NodeR.good {x : Node} {q : Nat} (h : nodeS l p size = (x, q, 0)) (h1 : q ≤ l.length) (h2 : p < q) (h3 : rightN x = true) (h4 : OkNode x) (h5 : size + 1 + x.text.size ≤ 4096) (h6 : 0 ≤ x.kids) (h7 : x.kids ≤ 1024) : NodeR l p size :=
  ⟨by rw [h]; exact h1, fun _ => by rw [h]; exact h2, fun _ => by rw [h]; exact h3, by rw [h]; exact h4, fun _ => by rw [h]; exact h5, by rw [h]; exact h6, by rw [h]; exact h7⟩
theorem NodeR.bad {q : Nat} {e : Int} (h : nodeS l p size = (zN, q, e)) (hq : q ≤ l.length) (he : e ≠ 0) : NodeR l p size := by
  refine ⟨by rw [h]; exact hq, fun c => ?_, fun c => ?_, by rw [h]; exact okN_zN, fun c => ?_, by rw [h]; exact Int.le_refl 0, by rw [h]; exact (by decide : (0 : Int) ≤ 1024)⟩
  all_goals (rw [h] at c; exact absurd c he)
theorem right_plain {x : Node} (hf : fineB x.re x.im = true) (hk : x.kind ≤ 5) (h1 : x.kind = 5 ∨ x.kids = 0) (h2 : (x.kind = 1 ∨ x.kind = 2) ∨ x.int = 0) (h3 : x.kind = 3 ∨ x.text.size = 0) (h4 : x.kind = 4 ∨ (x.re = 0 ∧ x.im = 0)) (h5 : x.kind ≠ 1 ∨ x.int = 0 ∨ x.int = 1) (h6 : x.kind ≠ 5 ∨ 0 ≤ x.kids) : rightN x = true := by
  unfold rightN
  simp only [Bool.and_eq_true, Bool.or_eq_true, Bool.not_eq_true', decide_eq_true_eq, decide_eq_false_iff_not]
  refine ⟨⟨⟨⟨⟨⟨⟨hf, hk⟩, h1⟩, h2⟩, h3⟩, h4⟩, ?_⟩, h6⟩
  rcases h5 with h5 | h5 | h5
  · exact .inl (.inl h5)
  · exact .inl (.inr h5)
  · exact .inr h5
theorem read_node (hp : p < l.length) (hs : size ≤ 4095) : NodeR l p size := by
  have hd := drop_len l (p + 1)
  have hn : (numS (l.drop (p + 1))).2.1 ≤ l.length - (p + 1) := by rw [← hd]; exact num_pos
  have ht : (textS (l.drop (p + 1))).2.1 ≤ l.length - (p + 1) := by rw [← hd]; exact text_pos
  have hz := zag_range (num_lt (l.drop (p + 1)))
  have k1024 : (0 : Int) ≤ 1024 := by decide
  have u0 : (0 : Nat) < 18446744073709551616 := by decide
  have i0 : (-9223372036854775808 : Int) ≤ 0 := by decide
  have i1 : (0 : Int) ≤ 9223372036854775807 := by decide
  have t0 : (⟨#[]⟩ : ByteArray).size ≤ 140737488351232 := Nat.zero_le _
  have s0 : size + 1 + (⟨#[]⟩ : ByteArray).size ≤ 4096 := by show size + 1 + 0 ≤ 4096; omega
  by_cases k0 : byt l p = 0
  · exact .good (node_none k0) hp (Nat.lt_succ_self p) (right_plain fineB_zero (Nat.zero_le _) (.inr rfl) (.inr rfl) (.inr rfl) (.inr ⟨rfl, rfl⟩) (.inr (.inl rfl)) (.inr (Int.le_refl 0))) okN_zN s0 (Int.le_refl 0) k1024
  by_cases k1 : byt l p = 1
  · by_cases h1 : l.length ≤ p + 1
    · exact .bad (node_bool_short k1 h1) (Nat.le_refl _) (by decide)
    · by_cases h2 : 1 < byt l (p + 1)
      · exact .bad (node_bool_bad k1 h1 h2) (by omega) (by decide)
      · have hb : ((byt l (p + 1) : Nat) : Int) = 0 ∨ ((byt l (p + 1) : Nat) : Int) = 1 := by omega
        exact .good (node_bool_ok k1 h1 h2) (by omega) (by omega) (right_plain fineB_zero (by show 1 ≤ 5; omega) (.inr rfl) (.inl (.inl rfl)) (.inr rfl) (.inr ⟨rfl, rfl⟩) (.inr hb) (.inr (Int.le_refl 0)))
          ⟨by show 1 < 256; omega, i0, i1, by show _ ≤ ((byt l (p + 1) : Nat) : Int); omega, by show ((byt l (p + 1) : Nat) : Int) ≤ _; omega, t0, u0, u0⟩ s0 (Int.le_refl 0) k1024
  by_cases k2 : byt l p = 2
  · by_cases h1 : (numS (l.drop (p + 1))).2.2 = 0
    · exact .good (node_int_ok k2 h1) (by omega) (by omega) (right_plain fineB_zero (by show 2 ≤ 5; omega) (.inr rfl) (.inl (.inr rfl)) (.inr rfl) (.inr ⟨rfl, rfl⟩) (.inl (by show (2 : Nat) ≠ 1; omega)) (.inr (Int.le_refl 0)))
        ⟨by show 2 < 256; omega, i0, i1, hz.1, hz.2, t0, u0, u0⟩ s0 (Int.le_refl 0) k1024
    · exact .bad (node_int_bad k2 h1) (by omega) h1
  by_cases k3 : byt l p = 3
  · by_cases h1 : (numS (l.drop (p + 1))).2.2 = 0
    · by_cases h2 : 4095 - size < (numS (l.drop (p + 1))).1
      · exact .bad (node_text_long k3 h1 h2) (by omega) (by decide)
      · by_cases h3 : (textS (l.drop (p + 1))).2.2 = 0
        · have hts := text_size h3
          exact .good (node_text_ok k3 h1 h2 h3) (by omega) (by omega) (right_plain fineB_zero (by show 3 ≤ 5; omega) (.inr rfl) (.inr rfl) (.inl rfl) (.inr ⟨rfl, rfl⟩) (.inl (by show (3 : Nat) ≠ 1; omega)) (.inr (Int.le_refl 0)))
            ⟨by show 3 < 256; omega, i0, i1, i0, i1, by show (strB _).size ≤ _; omega, u0, u0⟩ (by show size + 1 + (strB _).size ≤ _; omega) (Int.le_refl 0) k1024
        · exact .bad (node_text_short k3 h1 h2 h3) (by omega) h3
    · exact .bad (node_text_bad k3 h1) (by omega) h1
  by_cases k4 : byt l p = 4
  · by_cases h1 : l.length < p + 1 + 16
    · exact .bad (node_num_short k4 h1) (Nat.le_refl _) (by decide)
    · by_cases h2 : fineB (beN l (p + 1) 8) (beN l (p + 1 + 8) 8) = true
      · have b1 := beN_lt l (p + 1) 8
        have b2 := beN_lt l (p + 1 + 8) 8
        rw [show (256 : Nat) ^ 8 = 18446744073709551616 by decide] at b1 b2
        exact .good (node_num_ok k4 h1 h2) (by omega) (by omega) (right_plain h2 (by show 4 ≤ 5; omega) (.inr rfl) (.inr rfl) (.inr rfl) (.inl rfl) (.inl (by show (4 : Nat) ≠ 1; omega)) (.inr (Int.le_refl 0)))
          ⟨by show 4 < 256; omega, i0, i1, i0, i1, t0, b1, b2⟩ s0 (Int.le_refl 0) k1024
      · exact .bad (node_num_bad k4 h1 (by simpa using h2)) (by omega) (by decide)
  by_cases k5 : byt l p = 5
  · by_cases h1 : (numS (l.drop (p + 1))).2.2 = 0
    · by_cases h2 : 1024 < (numS (l.drop (p + 1))).1
      · exact .bad (node_list_long k5 h1 h2) (by omega) (by decide)
      · have hc : (0 : Int) ≤ (((numS (l.drop (p + 1))).1 : Nat) : Int) := Int.natCast_nonneg _
        exact .good (node_list_ok k5 h1 h2) (by omega) (by omega) (right_plain fineB_zero (by show 5 ≤ 5; omega) (.inl rfl) (.inr rfl) (.inr rfl) (.inr ⟨rfl, rfl⟩) (.inl (by show (5 : Nat) ≠ 1; omega)) (.inr hc))
          ⟨by show 5 < 256; omega, by show _ ≤ (((numS (l.drop (p + 1))).1 : Nat) : Int); omega, by show (((numS (l.drop (p + 1))).1 : Nat) : Int) ≤ _; omega, i0, i1, t0, u0, u0⟩ s0 hc (by show (((numS (l.drop (p + 1))).1 : Nat) : Int) ≤ _; omega)
    · exact .bad (node_list_bad k5 h1) (by omega) h1
  exact .bad (node_other (by omega)) (by omega) (by decide)
end
/-- Reading a value: its nodes, where it ends, 0; or none, where it goes wrong, the error. -/
def vlGo (l : List UInt8) : Nat → Nat → Nat → Int → List Node → List Node × Nat × Int
  | 0, p, _, _, _ => ([], p, 2)
  | f + 1, p, size, todo, v =>
    if todo ≤ 0 then (v, p, 0)
    else if l.length ≤ p then ([], l.length, 4)
    else if 1024 ≤ v.length ∨ 4096 ≤ size then ([], p, 2)
    else if (nodeS l p size).2.2 ≠ 0 then ([], (nodeS l p size).2.1, (nodeS l p size).2.2)
    else vlGo l f (nodeS l p size).2.1 (size + 1 + (nodeS l p size).1.text.size) (todo - 1 + (nodeS l p size).1.kids) (v ++ [(nodeS l p size).1])
def vlS (l : List UInt8) : List Node × Nat × Int := vlGo l 1025 0 0 1 []
/-- In the midst of a value. -/
structure Vl (l : List UInt8) (p size : Nat) (todo : Int) (v : List Node) : Prop where
  le : v.length ≤ 1024
  eq : vlS l = vlGo l (1025 - v.length) p size todo v
  pos : p ≤ l.length
  sz : size ≤ 4096
  mea : size = meas v
  tod : todo = openTo v v.length
  todo0 : 0 ≤ todo
  todo1 : todo ≤ 1 + 1025 * (v.length : Int)
  right : ∀ k, k < v.length → rightN (atN v k) = true
  opn : ∀ k, k < v.length → 0 < openTo v k
  ok : OkV v
theorem Vl.start (l : List UInt8) : Vl l 0 0 1 [] :=
  ⟨by simp, rfl, by omega, by omega, rfl, rfl, by omega, by simp, fun k hk => absurd hk (by simp), fun k hk => absurd hk (by simp), fun x hx => absurd hx (by simp)⟩
section
variable {l : List UInt8} {p size : Nat} {todo : Int} {v : List Node}
theorem atN_app {v : List Node} {x : Node} {k : Nat} (h : k < v.length) : atN (v ++ [x]) k = atN v k := by
  unfold atN
  rw [List.getD_eq_getElem?_getD, List.getD_eq_getElem?_getD, List.getElem?_append_left h]
theorem atN_last {v : List Node} {x : Node} : atN (v ++ [x]) v.length = x := by
  unfold atN
  rw [List.getD_eq_getElem?_getD, List.getElem?_append_right (Nat.le_refl _)]
  simp
theorem openTo_app {v : List Node} {x : Node} : ∀ k, k ≤ v.length → openTo (v ++ [x]) k = openTo v k
  | 0, _ => rfl
  | k + 1, h => by
    unfold openTo
    rw [openTo_app k (by omega), atN_app (by omega)]
theorem measTo_app {v : List Node} {x : Node} : ∀ k, k ≤ v.length → measTo (v ++ [x]) k = measTo v k
  | 0, _ => rfl
  | k + 1, h => by
    unfold measTo
    rw [measTo_app k (by omega), atN_app (by omega)]
theorem meas_app {v : List Node} {x : Node} : meas (v ++ [x]) = meas v + (1 + x.text.size) := by
  unfold meas
  rw [List.length_append]
  show measTo (v ++ [x]) v.length + (1 + (atN (v ++ [x]) v.length).text.size) = _
  rw [measTo_app _ (Nat.le_refl _), atN_last]
theorem Vl.done (h : Vl l p size todo v) (ht : todo ≤ 0) : vlS l = (v, p, 0) := by
  rw [h.eq, show 1025 - v.length = (1024 - v.length) + 1 by have := h.le; omega]
  exact if_pos ht
theorem Vl.short (h : Vl l p size todo v) (ht : ¬ todo ≤ 0) (hp : l.length ≤ p) : vlS l = ([], l.length, 4) := by
  rw [h.eq, show 1025 - v.length = (1024 - v.length) + 1 by have := h.le; omega]
  exact (if_neg ht).trans (if_pos hp)
theorem Vl.long (h : Vl l p size todo v) (ht : ¬ todo ≤ 0) (hp : ¬ l.length ≤ p) (hl : 1024 ≤ v.length ∨ 4096 ≤ size) : vlS l = ([], p, 2) := by
  rw [h.eq, show 1025 - v.length = (1024 - v.length) + 1 by have := h.le; omega]
  exact (if_neg ht).trans ((if_neg hp).trans (if_pos hl))
theorem Vl.bad (h : Vl l p size todo v) (ht : ¬ todo ≤ 0) (hp : ¬ l.length ≤ p) (hl : ¬ (1024 ≤ v.length ∨ 4096 ≤ size)) (hn : (nodeS l p size).2.2 ≠ 0) : vlS l = ([], (nodeS l p size).2.1, (nodeS l p size).2.2) := by
  rw [h.eq, show 1025 - v.length = (1024 - v.length) + 1 by have := h.le; omega]
  exact (if_neg ht).trans ((if_neg hp).trans ((if_neg hl).trans (if_pos hn)))
theorem Vl.more (h : Vl l p size todo v) (ht : ¬ todo ≤ 0) (hp : ¬ l.length ≤ p) (hl : ¬ (1024 ≤ v.length ∨ 4096 ≤ size)) (hn : (nodeS l p size).2.2 = 0) :
    Vl l (nodeS l p size).2.1 (size + 1 + (nodeS l p size).1.text.size) (todo - 1 + (nodeS l p size).1.kids) (v ++ [(nodeS l p size).1]) := by
  have R := read_node (l := l) (p := p) (size := size) (by omega) (by omega)
  have hk : openAdd (nodeS l p size).1 = (nodeS l p size).1.kids := by
    unfold openAdd
    have hr := R.right hn
    have k0 := R.kids0
    have k1 := R.kids1
    split
    · omega
    · rename_i hc
      unfold rightN at hr
      simp only [Bool.and_eq_true, Bool.or_eq_true, decide_eq_true_eq] at hr
      obtain ⟨⟨⟨⟨⟨⟨⟨_, _⟩, h3⟩, _⟩, _⟩, _⟩, _⟩, _⟩ := hr
      rcases h3 with h3 | h3
      · omega
      · omega
  have ho : openTo (v ++ [(nodeS l p size).1]) (v.length + 1) = todo - 1 + (nodeS l p size).1.kids := by
    unfold openTo
    rw [openTo_app _ (Nat.le_refl _), atN_last, hk, h.tod]
  have hlen : (v ++ [(nodeS l p size).1]).length = v.length + 1 := by simp
  have k0 := R.kids0
  have k1 := R.kids1
  have t1 := h.todo1
  refine ⟨by rw [hlen]; omega, ?_, R.to, R.text hn, by rw [meas_app, ← h.mea]; omega, by rw [hlen, ho], by omega, by rw [hlen]; omega, fun k hk => ?_, fun k hk => ?_, fun x hx => ?_⟩
  · rw [h.eq, show 1025 - v.length = (1024 - v.length) + 1 by have := h.le; omega, hlen, show 1025 - (v.length + 1) = 1024 - v.length by omega]
    exact (if_neg ht).trans ((if_neg hp).trans ((if_neg hl).trans (if_neg (fun c => c hn))))
  · rw [hlen] at hk
    by_cases hkl : k < v.length
    · rw [atN_app hkl]; exact h.right k hkl
    · obtain rfl : k = v.length := by omega
      rw [atN_last]; exact R.right hn
  · rw [hlen] at hk
    by_cases hkl : k < v.length
    · rw [openTo_app _ (by omega)]; exact h.opn k hkl
    · obtain rfl : k = v.length := by omega
      rw [openTo_app _ (by omega), ← h.tod]; omega
  · rcases List.mem_append.1 hx with hx | hx
    · exact h.ok x hx
    · rw [List.mem_singleton.1 hx]; exact R.ok
/-- A value that ends is right. -/
theorem Vl.ends (h : Vl l p size todo v) (ht : todo ≤ 0) : Right v := by
  have h0 : todo = 0 := by have := h.todo0; omega
  refine ⟨h.le, fun k hk => ?_, by rw [← h.tod, h0], by rw [← h.mea]; exact h.sz⟩
  unfold badN
  rw [h.right k hk]
  by_cases hl : k + 1 < v.length
  · have := h.opn (k + 1) hl
    rw [decide_eq_false (show ¬ openTo v (k + 1) = 0 by omega)]; rfl
  · rw [decide_eq_false hl]
    simp
end
/-- What is known of a value that was read. -/
structure ValR (l : List UInt8) : Prop where
  to : (vlS l).2.1 ≤ l.length
  right : (vlS l).2.2 = 0 → Right (vlS l).1
  ok : OkV (vlS l).1
  none : (vlS l).2.2 ≠ 0 → (vlS l).1 = []
theorem valR_go (l : List UInt8) : ∀ (f p size : Nat) (todo : Int) (v : List Node), Vl l p size todo v → f = 1025 - v.length → ValR l
  | 0, p, size, todo, v, h, hf => by have := h.le; omega
  | f + 1, p, size, todo, v, h, hf => by
    have bad : ∀ q : Nat, ∀ e : Int, q ≤ l.length → e ≠ 0 → vlS l = ([], q, e) → ValR l := fun q e hq he hv => by
      refine ⟨by rw [hv]; exact hq, fun c => ?_, by rw [hv]; intro x hx; exact absurd hx (by simp), fun _ => by rw [hv]⟩
      rw [hv] at c; exact absurd c he
    by_cases ht : todo ≤ 0
    · have hv := h.done ht
      exact ⟨by rw [hv]; exact h.pos, fun _ => by rw [hv]; exact h.ends ht, by rw [hv]; exact h.ok, fun c => by rw [hv] at c; exact absurd rfl c⟩
    · by_cases hp : l.length ≤ p
      · exact bad _ _ (Nat.le_refl _) (by decide) (h.short ht hp)
      · by_cases hl : 1024 ≤ v.length ∨ 4096 ≤ size
        · exact bad _ _ (by omega) (by decide) (h.long ht hp hl)
        · have R := read_node (l := l) (p := p) (size := size) (by omega) (by omega)
          by_cases hn : (nodeS l p size).2.2 = 0
          · exact valR_go l f _ _ _ _ (h.more ht hp hl hn) (by rw [List.length_append]; show f = 1025 - (v.length + 1); omega)
          · exact bad _ _ R.to hn (h.bad ht hp hl hn)
theorem valR (l : List UInt8) : ValR l := valR_go l 1025 0 0 1 [] (Vl.start l) rfl
end Go.Proofs.YtaeophaecclnbaaGreatDoor

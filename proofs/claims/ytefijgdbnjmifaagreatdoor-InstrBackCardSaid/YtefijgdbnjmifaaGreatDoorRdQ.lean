/- Reading one instruction, and code, in plain Lean. The three fields of an instruction. The memory of reading one instruction. What reading one instruction comes to, in plain Lean. -/
import Derived.Test.YtefijgdbnjmifaaGreatDoorRdE
import Derived.Test.YtefijgdbnjmifaaGreatDoorInsV
namespace Go.Proofs.YtefijgdbnjmifaaGreatDoor
open Go.RowKit

def fA (op : Nat) (l : List UInt8) : Nat × Nat × Int := ifS (decide (aK op ≠ 0)) 0 (numS l)
def fI (op : Nat) (l : List UInt8) : Int × Nat × Int := ifS (numK op) 0 (zagI (numS l).1, (numS l).2)
def fT (op : Nat) (l : List UInt8) : List UInt8 × Nat × Int := ifS (decide (textK op ≠ 0)) [] (textS l)
theorem ifS_pos {α : Type} {is : Bool} {z : α} {s : α × Nat × Int} {l : List UInt8} (h : s.2.1 ≤ l.length) : (ifS is z s).2.1 ≤ l.length := by
  unfold ifS; split
  · exact h
  · exact Nat.zero_le _
theorem fA_pos (op : Nat) (l : List UInt8) : (fA op l).2.1 ≤ l.length := ifS_pos num_pos
theorem fI_pos (op : Nat) (l : List UInt8) : (fI op l).2.1 ≤ l.length := ifS_pos (s := (zagI (numS l).1, (numS l).2)) num_pos
theorem fT_pos (op : Nat) (l : List UInt8) : (fT op l).2.1 ≤ l.length := ifS_pos text_pos
theorem fA_lt (op : Nat) (l : List UInt8) : (fA op l).1 < 18446744073709551616 := by
  unfold fA ifS; split
  · exact num_lt l
  · show (0 : Nat) < _; omega
/-- Where the fields end. -/
def pA (l : List UInt8) : Nat := 1 + (fA (byt l 0) (l.drop 1)).2.1
def pI (l : List UInt8) : Nat := pA l + (fI (byt l 0) (l.drop (pA l))).2.1
def pT (l : List UInt8) : Nat := pI l + (fT (byt l 0) (l.drop (pI l))).2.1
def eA (l : List UInt8) : Int := (fA (byt l 0) (l.drop 1)).2.2
def eI (l : List UInt8) : Int := (fI (byt l 0) (l.drop (pA l))).2.2
def eT (l : List UInt8) : Int := (fT (byt l 0) (l.drop (pI l))).2.2
theorem pA_le {l : List UInt8} (h : 0 < l.length) : pA l ≤ l.length := by
  have := fA_pos (byt l 0) (l.drop 1)
  rw [List.length_drop] at this
  unfold pA; omega
theorem pI_le {l : List UInt8} (h : 0 < l.length) : pI l ≤ l.length := by
  have := fI_pos (byt l 0) (l.drop (pA l))
  have := pA_le h
  rw [List.length_drop] at *
  unfold pI; omega
theorem pT_le {l : List UInt8} (h : 0 < l.length) : pT l ≤ l.length := by
  have := fT_pos (byt l 0) (l.drop (pI l))
  have := pI_le h
  rw [List.length_drop] at *
  unfold pT; omega
/-- The instruction that the fields say. -/
def xS (l : List UInt8) : InsV := ⟨byt l 0, ((min (fA (byt l 0) (l.drop 1)).1 4611686018427387904 : Nat) : Int), (fI (byt l 0) (l.drop (pA l))).1, strB (fT (byt l 0) (l.drop (pI l))).1⟩
/-- Reading an instruction: it, where it ends, 0; or the place of what is wrong, and the error. -/
def oneS (l : List UInt8) (n : Int) : InsV × Nat × Int :=
  if l.length = 0 then (zV, 0, 4) else
  if eA l ≠ 0 then (zV, pA l, eA l) else
  if eI l ≠ 0 then (zV, pI l, eI l) else
  if eT l ≠ 0 then (zV, pT l, eT l) else
  if rightI (xS l).ins n = true then (xS l, pT l, 0) else (zV, 0, 3)
theorem one_short {l : List UInt8} {n : Int} (h : l.length = 0) : oneS l n = (zV, 0, 4) := if_pos h
theorem one_a {l : List UInt8} {n : Int} (h : 0 < l.length) (h1 : eA l ≠ 0) : oneS l n = (zV, pA l, eA l) := (if_neg (by omega)).trans (if_pos h1)
theorem one_i {l : List UInt8} {n : Int} (h : 0 < l.length) (h1 : eA l = 0) (h2 : eI l ≠ 0) : oneS l n = (zV, pI l, eI l) := (if_neg (by omega)).trans ((if_neg (fun c => c h1)).trans (if_pos h2))
theorem one_t {l : List UInt8} {n : Int} (h : 0 < l.length) (h1 : eA l = 0) (h2 : eI l = 0) (h3 : eT l ≠ 0) : oneS l n = (zV, pT l, eT l) := (if_neg (by omega)).trans ((if_neg (fun c => c h1)).trans ((if_neg (fun c => c h2)).trans (if_pos h3)))
theorem one_good {l : List UInt8} {n : Int} (h : 0 < l.length) (h1 : eA l = 0) (h2 : eI l = 0) (h3 : eT l = 0) (h4 : rightI (xS l).ins n = true) : oneS l n = (xS l, pT l, 0) :=
  (if_neg (by omega)).trans ((if_neg (fun c => c h1)).trans ((if_neg (fun c => c h2)).trans ((if_neg (fun c => c h3)).trans (if_pos h4))))
theorem one_wrong {l : List UInt8} {n : Int} (h : 0 < l.length) (h1 : eA l = 0) (h2 : eI l = 0) (h3 : eT l = 0) (h4 : ¬ rightI (xS l).ins n = true) : oneS l n = (zV, 0, 3) :=
  (if_neg (by omega)).trans ((if_neg (fun c => c h1)).trans ((if_neg (fun c => c h2)).trans ((if_neg (fun c => c h3)).trans (if_neg h4))))
theorem one_pos {l : List UInt8} {n : Int} : (oneS l n).2.1 ≤ l.length := by
  by_cases h : l.length = 0
  · rw [one_short h]; exact Nat.zero_le _
  · have h0 : 0 < l.length := by omega
    by_cases h1 : eA l = 0
    · by_cases h2 : eI l = 0
      · by_cases h3 : eT l = 0
        · by_cases h4 : rightI (xS l).ins n = true
          · rw [one_good h0 h1 h2 h3 h4]; exact pT_le h0
          · rw [one_wrong h0 h1 h2 h3 h4]; exact Nat.zero_le _
        · rw [one_t h0 h1 h2 h3]; exact pT_le h0
      · rw [one_i h0 h1 h2]; exact pI_le h0
    · rw [one_a h0 h1]; exact pA_le h0
/-- A great A is not right. -/
theorem xS_great {l : List UInt8} {n : Int} (hn : n ≤ 8192) (h : 1099511627776 < (fA (byt l 0) (l.drop 1)).1) : ¬ rightI (xS l).ins n = true := fun hr => by
  have h1 := rightI_a hr
  have h2 : (xS l).ins.a < topK (byt l 0) n := h1.2
  have h3 : topK (byt l 0) n ≤ 8192 := by unfold topK; (repeat' split) <;> omega
  have h4 : (xS l).ins.a = ((min (fA (byt l 0) (l.drop 1)).1 4611686018427387904 : Nat) : Int) := rfl
  rw [h4] at h2
  omega
/-- Reading so many instructions from a place on. -/
def readGo (l : List UInt8) (n : Int) : Nat → Nat → List InsV → List InsV × Nat × Int
  | 0, p, c => if p < l.length then ([], p, 3) else (c, p, 0)
  | k + 1, p, c => if (oneS (l.drop p) n).2.2 ≠ 0 then ([], p + (oneS (l.drop p) n).2.1, (oneS (l.drop p) n).2.2) else readGo l n k (p + (oneS (l.drop p) n).2.1) (c ++ [(oneS (l.drop p) n).1])
/-- Reading code. -/
def readS (l : List UInt8) : List InsV × Nat × Int :=
  if (numS l).2.2 ≠ 0 then ([], (numS l).2.1, (numS l).2.2) else
  if 8192 < (numS l).1 then ([], 0, 2) else readGo l (numS l).1 (numS l).1 (numS l).2.1 []
theorem readGo_bad {l : List UInt8} {n : Int} {k p : Nat} {c : List InsV} (h : (oneS (l.drop p) n).2.2 ≠ 0) : readGo l n (k + 1) p c = ([], p + (oneS (l.drop p) n).2.1, (oneS (l.drop p) n).2.2) := if_pos h
theorem readGo_more {l : List UInt8} {n : Int} {k p : Nat} {c : List InsV} (h : (oneS (l.drop p) n).2.2 = 0) : readGo l n (k + 1) p c = readGo l n k (p + (oneS (l.drop p) n).2.1) (c ++ [(oneS (l.drop p) n).1]) := if_neg (fun x => x h)
theorem readGo_left {l : List UInt8} {n : Int} {p : Nat} {c : List InsV} (h : p < l.length) : readGo l n 0 p c = ([], p, 3) := if_pos h
theorem readGo_end {l : List UInt8} {n : Int} {p : Nat} {c : List InsV} (h : ¬ p < l.length) : readGo l n 0 p c = (c, p, 0) := if_neg h
theorem read_bad {l : List UInt8} (h : (numS l).2.2 ≠ 0) : readS l = ([], (numS l).2.1, (numS l).2.2) := if_pos h
theorem read_long {l : List UInt8} (h : (numS l).2.2 = 0) (h1 : 8192 < (numS l).1) : readS l = ([], 0, 2) := (if_neg (fun x => x h)).trans (if_pos h1)
theorem read_go {l : List UInt8} (h : (numS l).2.2 = 0) (h1 : ¬ 8192 < (numS l).1) : readS l = readGo l (numS l).1 (numS l).1 (numS l).2.1 [] := (if_neg (fun x => x h)).trans (if_neg h1)
/-- In the midst of reading code. -/
structure Mid (l : List UInt8) (i p : Nat) (c : List InsV) : Prop where
  le : i ≤ (numS l).1
  pos : p ≤ l.length
  len : c.length = i
  eq : readS l = readGo l (numS l).1 ((numS l).1 - i) p c
theorem Mid.start {l : List UInt8} (h : (numS l).2.2 = 0) (h1 : ¬ 8192 < (numS l).1) : Mid l 0 (numS l).2.1 [] := ⟨Nat.zero_le _, num_pos, rfl, read_go h h1⟩
theorem Mid.bad {l : List UInt8} {i p : Nat} {c : List InsV} (m : Mid l i p c) (hi : i < (numS l).1) (h : (oneS (l.drop p) (numS l).1).2.2 ≠ 0) : readS l = ([], p + (oneS (l.drop p) (numS l).1).2.1, (oneS (l.drop p) (numS l).1).2.2) := by
  rw [m.eq, show (numS l).1 - i = ((numS l).1 - i - 1) + 1 by omega, readGo_bad h]
theorem Mid.more {l : List UInt8} {i p : Nat} {c : List InsV} (m : Mid l i p c) (hi : i < (numS l).1) (h : (oneS (l.drop p) (numS l).1).2.2 = 0) : Mid l (i + 1) (p + (oneS (l.drop p) (numS l).1).2.1) (c ++ [(oneS (l.drop p) (numS l).1).1]) := by
  have hp := @one_pos (l.drop p) (numS l).1
  rw [List.length_drop] at hp
  have := m.pos
  refine ⟨by omega, by omega, by simp [m.len], ?_⟩
  rw [m.eq, show (numS l).1 - i = ((numS l).1 - (i + 1)) + 1 by omega, readGo_more h]
theorem Mid.left {l : List UInt8} {i p : Nat} {c : List InsV} (m : Mid l i p c) (hi : ¬ i < (numS l).1) (h : p < l.length) : readS l = ([], p, 3) := by
  rw [m.eq, show (numS l).1 - i = 0 by omega, readGo_left h]
theorem Mid.done {l : List UInt8} {i p : Nat} {c : List InsV} (m : Mid l i p c) (hi : ¬ i < (numS l).1) (h : ¬ p < l.length) : readS l = (c, p, 0) := by
  rw [m.eq, show (numS l).1 - i = 0 by omega, readGo_end h]
end Go.Proofs.YtefijgdbnjmifaaGreatDoor
namespace Go.Proofs.YtefijgdbnjmifaaGreatDoor
open Go.RowKit

theorem AtW.below {w w1 : World} {pb p : Nat} (h : Below w.heap.size w w1) (hl : pb < w.heap.size) (hc : w.cell? ⟨pb, 0, none⟩ = some (.int .i64 p)) : AtW pb (p + 0) w w1 :=
  ⟨h.os, h.tape, h.output, h.size, fun k hk _ => h.block k hk, (h.cell (p := ⟨pb, 0, none⟩) hl).trans hc, h.frozen (p := ⟨pb, 0, none⟩) hl⟩
section
variable {w : World} {A : Option Addr} {n cc : Nat} {l : List UInt8} {pb p : Nat}
theorem fieldA (op : Nat) (h : BS w A n cc l) (hc : w.cell? ⟨pb, 0, none⟩ = some (.int .i64 p)) (hf : w.frozen? ⟨pb, 0, none⟩ = false) (hl : pb < w.heap.size) (hp : p ≤ n) :
    Calls Tryz.prog 40 #[.slice A n cc, .pointer (some ⟨pb, 0, none⟩), .bool (aB op != 0), .func (.func 23) #[] #[]] w
      (fun e w' => e = .returned (.tuple #[.int .u64 ((fA op (l.drop p)).1 : Int), .int .i64 (fA op (l.drop p)).2.2]) ∧ AtW pb (p + (fA op (l.drop p)).2.1) w w') := by
  rw [aB_ne]
  unfold fA
  cases decide (aK op ≠ 0) with
  | true => exact field_uint64_is h hc hf hl hp
  | false => exact (field_uint64_no _ _ pb w).mono fun e w' ⟨h1, h2⟩ => ⟨h1, AtW.below h2 hl hc⟩
theorem fieldI (op : Nat) (h : BS w A n cc l) (hc : w.cell? ⟨pb, 0, none⟩ = some (.int .i64 p)) (hf : w.frozen? ⟨pb, 0, none⟩ = false) (hl : pb < w.heap.size) (hp : p ≤ n) :
    Calls Tryz.prog 41 #[.slice A n cc, .pointer (some ⟨pb, 0, none⟩), .bool (numK op), .func (.func 42) #[] #[]] w
      (fun e w' => e = .returned (.tuple #[.int .i64 (fI op (l.drop p)).1, .int .i64 (fI op (l.drop p)).2.2]) ∧ AtW pb (p + (fI op (l.drop p)).2.1) w w') := by
  unfold fI
  cases numK op with
  | true => exact field_int64_is h hc hf hl hp
  | false => exact (field_int64_no _ _ pb w).mono fun e w' ⟨h1, h2⟩ => ⟨h1, AtW.below h2 hl hc⟩
theorem fieldT (op : Nat) (h : BS w A n cc l) (hc : w.cell? ⟨pb, 0, none⟩ = some (.int .i64 p)) (hf : w.frozen? ⟨pb, 0, none⟩ = false) (hl : pb < w.heap.size) (hp : p ≤ n) :
    Calls Tryz.prog 43 #[.slice A n cc, .pointer (some ⟨pb, 0, none⟩), .bool (tB op != 0), .func (.func 44) #[] #[]] w
      (fun e w' => e = .returned (.tuple #[.string (strB (fT op (l.drop p)).1), .int .i64 (fT op (l.drop p)).2.2]) ∧ AtW pb (p + (fT op (l.drop p)).2.1) w w') := by
  rw [tB_ne]
  unfold fT
  cases decide (textK op ≠ 0) with
  | true => exact field_string_is h hc hf hl hp
  | false => exact (field_string_no _ _ pb w).mono fun e w' ⟨h1, h2⟩ => ⟨h1, AtW.below h2 hl hc⟩
end
end Go.Proofs.YtefijgdbnjmifaaGreatDoor
namespace Go.Proofs.YtefijgdbnjmifaaGreatDoor
open Go.RowKit

/-- While one instruction is read: it lies in block w.heap.size, the place in the next, its kind in block k. -/
structure O1 (w W : World) (k : Nat) (x : InsV) (q : Nat) (op : Nat) : Prop where
  bel : Below w.heap.size w W
  klo : w.heap.size + 1 < k
  khi : k < W.heap.size
  x0 : W.cell? ⟨w.heap.size, 0, none⟩ = some (.int .u8 (x.op : Int))
  x1 : W.cell? ⟨w.heap.size, 1, none⟩ = some (.int .i64 x.a)
  x2 : W.cell? ⟨w.heap.size, 2, none⟩ = some (.int .i64 x.int)
  x3 : W.cell? ⟨w.heap.size, 3, none⟩ = some (.string x.text)
  t0 : W.cell? ⟨w.heap.size + 1, 0, none⟩ = some (.int .i64 q)
  k2 : W.cell? ⟨k, 2, none⟩ = some (.bool (numK op))
  k3 : W.cell? ⟨k, 3, none⟩ = some (.int .u8 (tB op))
  fx : ∀ j, W.frozen? ⟨w.heap.size, j, none⟩ = false
  ft : W.frozen? ⟨w.heap.size + 1, 0, none⟩ = false
theorem O1.at {w W W' : World} {k q q' op : Nat} {x : InsV} (h : O1 w W k x q op) (g : AtW (w.heap.size + 1) q' W W') : O1 w W' k x q' op := by
  have hlo := h.klo
  have hhi := h.khi
  have hb := g.2.2.2.2.1
  have c : ∀ (b j : Nat), b < W.heap.size → b ≠ w.heap.size + 1 → W'.cell? ⟨b, j, none⟩ = W.cell? ⟨b, j, none⟩ := fun b j h1 h2 => World.cell?_of_block (a := ⟨b, j, none⟩) (hb b h1 h2)
  have f : ∀ (b j : Nat), b < W.heap.size → b ≠ w.heap.size + 1 → W'.frozen? ⟨b, j, none⟩ = W.frozen? ⟨b, j, none⟩ := fun b j h1 h2 => World.frozen?_of_block (a := ⟨b, j, none⟩) (hb b h1 h2)
  have hs := h.bel.size
  exact {
    bel := h.bel.trans ⟨g.1, g.2.1, g.2.2.1, by have := g.2.2.2.1; omega, fun j hj => hb j (by omega) (by omega)⟩
    klo := hlo
    khi := Nat.lt_of_lt_of_le hhi g.2.2.2.1
    x0 := (c _ 0 (by omega) (by omega)).trans h.x0
    x1 := (c _ 1 (by omega) (by omega)).trans h.x1
    x2 := (c _ 2 (by omega) (by omega)).trans h.x2
    x3 := (c _ 3 (by omega) (by omega)).trans h.x3
    t0 := g.2.2.2.2.2.1
    k2 := (c _ 2 (by omega) (by omega)).trans h.k2
    k3 := (c _ 3 (by omega) (by omega)).trans h.k3
    fx := fun j => (f _ j (by omega) (by omega)).trans (h.fx j)
    ft := g.2.2.2.2.2.2.trans h.ft }
theorem O1.setInt {w W : World} {k q op : Nat} {x : InsV} (h : O1 w W k x q op) (v : Int) : O1 w (W.setCell ⟨w.heap.size, 2, none⟩ (.int .i64 v)) k { x with int := v } q op where
  bel := ⟨h.bel.os, h.bel.tape, h.bel.output, by simp; exact h.bel.size, fun i hi => (heap_setCell_other _ _ i _ (by show i ≠ w.heap.size; omega)).trans (h.bel.block i hi)⟩
  klo := h.klo
  khi := by simp; exact h.khi
  x0 := (World.cell?_setCell_other _ _ _ _ (by simp)).trans h.x0
  x1 := (World.cell?_setCell_other _ _ _ _ (by simp)).trans h.x1
  x2 := World.cell?_setCell_same _ _ _ h.x2
  x3 := (World.cell?_setCell_other _ _ _ _ (by simp)).trans h.x3
  t0 := (World.cell?_setCell_other _ _ _ _ (by simp)).trans h.t0
  k2 := (World.cell?_setCell_other _ _ _ _ (fun e => by have := h.klo; injection e with e1 _ _; omega)).trans h.k2
  k3 := (World.cell?_setCell_other _ _ _ _ (fun e => by have := h.klo; injection e with e1 _ _; omega)).trans h.k3
  fx := fun j => (World.frozen?_setCell _ _ _ _).trans (h.fx j)
  ft := (World.frozen?_setCell _ _ _ _).trans h.ft
theorem O1.setText {w W : World} {k q op : Nat} {x : InsV} (h : O1 w W k x q op) (v : ByteArray) : O1 w (W.setCell ⟨w.heap.size, 3, none⟩ (.string v)) k { x with text := v } q op where
  bel := ⟨h.bel.os, h.bel.tape, h.bel.output, by simp; exact h.bel.size, fun i hi => (heap_setCell_other _ _ i _ (by show i ≠ w.heap.size; omega)).trans (h.bel.block i hi)⟩
  klo := h.klo
  khi := by simp; exact h.khi
  x0 := (World.cell?_setCell_other _ _ _ _ (by simp)).trans h.x0
  x1 := (World.cell?_setCell_other _ _ _ _ (by simp)).trans h.x1
  x2 := (World.cell?_setCell_other _ _ _ _ (by simp)).trans h.x2
  x3 := World.cell?_setCell_same _ _ _ h.x3
  t0 := (World.cell?_setCell_other _ _ _ _ (by simp)).trans h.t0
  k2 := (World.cell?_setCell_other _ _ _ _ (fun e => by have := h.klo; injection e with e1 _ _; omega)).trans h.k2
  k3 := (World.cell?_setCell_other _ _ _ _ (fun e => by have := h.klo; injection e with e1 _ _; omega)).trans h.k3
  fx := fun j => (World.frozen?_setCell _ _ _ _).trans (h.fx j)
  ft := (World.frozen?_setCell _ _ _ _).trans h.ft
theorem O1.setA {w W : World} {k q op : Nat} {x : InsV} (h : O1 w W k x q op) (v : Int) : O1 w (W.setCell ⟨w.heap.size, 1, none⟩ (.int .i64 v)) k { x with a := v } q op where
  bel := ⟨h.bel.os, h.bel.tape, h.bel.output, by simp; exact h.bel.size, fun i hi => (heap_setCell_other _ _ i _ (by show i ≠ w.heap.size; omega)).trans (h.bel.block i hi)⟩
  klo := h.klo
  khi := by simp; exact h.khi
  x0 := (World.cell?_setCell_other _ _ _ _ (by simp)).trans h.x0
  x1 := World.cell?_setCell_same _ _ _ h.x1
  x2 := (World.cell?_setCell_other _ _ _ _ (by simp)).trans h.x2
  x3 := (World.cell?_setCell_other _ _ _ _ (by simp)).trans h.x3
  t0 := (World.cell?_setCell_other _ _ _ _ (by simp)).trans h.t0
  k2 := (World.cell?_setCell_other _ _ _ _ (fun e => by have := h.klo; injection e with e1 _ _; omega)).trans h.k2
  k3 := (World.cell?_setCell_other _ _ _ _ (fun e => by have := h.klo; injection e with e1 _ _; omega)).trans h.k3
  fx := fun j => (World.frozen?_setCell _ _ _ _).trans (h.fx j)
  ft := (World.frozen?_setCell _ _ _ _).trans h.ft
theorem O1.setT {w W : World} {k q op : Nat} {x : InsV} (h : O1 w W k x q op) {z : Int} (q' : Nat) (hz : z = (q' : Int)) : O1 w (W.setCell ⟨w.heap.size + 1, 0, none⟩ (.int .i64 z)) k x q' op := by
  subst hz
  exact h.at ⟨rfl, rfl, rfl, by simp, fun i _ hne => heap_setCell_other _ _ i _ hne, World.cell?_setCell_same _ _ _ h.t0, World.frozen?_setCell _ _ _ _⟩
theorem O1.setOp {w W : World} {k q op : Nat} {x : InsV} (h : O1 w W k x q op) : O1 w (W.setCell ⟨w.heap.size, 0, none⟩ (.int .u8 (x.op : Int))) k x q op where
  bel := ⟨h.bel.os, h.bel.tape, h.bel.output, by simp; exact h.bel.size, fun i hi => (heap_setCell_other _ _ i _ (by show i ≠ w.heap.size; omega)).trans (h.bel.block i hi)⟩
  klo := h.klo
  khi := by simp; exact h.khi
  x0 := World.cell?_setCell_same _ _ _ h.x0
  x1 := (World.cell?_setCell_other _ _ _ _ (by simp)).trans h.x1
  x2 := (World.cell?_setCell_other _ _ _ _ (by simp)).trans h.x2
  x3 := (World.cell?_setCell_other _ _ _ _ (by simp)).trans h.x3
  t0 := (World.cell?_setCell_other _ _ _ _ (by simp)).trans h.t0
  k2 := (World.cell?_setCell_other _ _ _ _ (fun e => by have := h.klo; injection e with e1 _ _; omega)).trans h.k2
  k3 := (World.cell?_setCell_other _ _ _ _ (fun e => by have := h.klo; injection e with e1 _ _; omega)).trans h.k3
  fx := fun j => (World.frozen?_setCell _ _ _ _).trans (h.fx j)
  ft := (World.frozen?_setCell _ _ _ _).trans h.ft
/-- All stored once more as it was, and a draw. -/
theorem O1.again {w W : World} {k q op : Nat} {x : InsV} (h : O1 w W k x q op) {z : Int} (hz : z = (q : Int)) :
    O1 w (((((W.setCell ⟨w.heap.size, 0, none⟩ (.int .u8 (x.op : Int))).setCell ⟨w.heap.size, 1, none⟩ (.int .i64 x.a)).setCell ⟨w.heap.size, 2, none⟩ (.int .i64 x.int)).setCell ⟨w.heap.size, 3, none⟩ (.string x.text)).setCell ⟨w.heap.size + 1, 0, none⟩ (.int .i64 z)) k x q op :=
  (((h.setOp.setA x.a).setInt x.int).setText x.text).setT q hz
/-- The beginning. -/
theorem O1.start {w w1 : World} {op p : Nat} {z : Int} (hz : z = ((p + 1 : Nat) : Int)) (t1 t2 t3 : TypeId) (c0 c1 c4 c5 c6 c7 : Value)
    (hb : Below ((w.alloc (.cells #[.int .u8 (op : Int), .int .i64 0, .int .i64 0, .string ⟨#[]⟩] t1)).alloc (.cells #[.int .i64 z] t2)).heap.size ((w.alloc (.cells #[.int .u8 (op : Int), .int .i64 0, .int .i64 0, .string ⟨#[]⟩] t1)).alloc (.cells #[.int .i64 z] t2)) w1) :
    O1 w (w1.alloc (.cells #[c0, c1, .bool (numK op), .int .u8 (tB op), c4, c5, c6, c7] t3)) w1.heap.size ⟨op, 0, 0, ⟨#[]⟩⟩ (p + 1) op := by
  subst hz
  have e1 : (w.alloc (.cells #[.int .u8 (op : Int), .int .i64 0, .int .i64 0, .string ⟨#[]⟩] t1)).heap.size = w.heap.size + 1 := by simp
  have hs : w.heap.size + 1 + 1 ≤ w1.heap.size := by have := hb.size; simpa using this
  have cx : ∀ j, (w1.alloc (.cells #[c0, c1, .bool (numK op), .int .u8 (tB op), c4, c5, c6, c7] t3)).cell? ⟨w.heap.size, j, none⟩ = (#[.int .u8 (op : Int), .int .i64 0, .int .i64 0, .string ⟨#[]⟩] : Array Value)[j]? := fun j => by
    rw [cell_old _ _ _ _ (by omega), hb.cell (p := ⟨w.heap.size, j, none⟩) (by simp; omega), cell_old _ _ _ _ (by omega), cell_new _ _ rfl]
  exact {
    bel := ((((Below.refl _ w).alloc (Nat.le_refl _) _).alloc (by simp) _).trans ⟨hb.os, hb.tape, hb.output, hb.size, fun i hi => hb.block i (by simp; omega)⟩).alloc (by omega) _
    klo := by omega
    khi := by simp
    x0 := cx 0
    x1 := cx 1
    x2 := cx 2
    x3 := cx 3
    t0 := by rw [cell_old _ _ _ _ (by omega), hb.cell (p := ⟨w.heap.size + 1, 0, none⟩) (by simp), cell_new _ _ e1]; rfl
    k2 := by rw [cell_new _ _ rfl]; rfl
    k3 := by rw [cell_new _ _ rfl]; rfl
    fx := fun j => by rw [frozen_old _ _ _ _ (by omega), hb.frozen (p := ⟨w.heap.size, j, none⟩) (by simp; omega), frozen_old _ _ _ _ (by omega), frozen_new _ _ rfl]
    ft := by rw [frozen_old _ _ _ _ (by omega), hb.frozen (p := ⟨w.heap.size + 1, 0, none⟩) (by simp), frozen_new _ _ e1] }
theorem O1.below {w W W' : World} {k q op : Nat} {x : InsV} (h : O1 w W k x q op) (B : Below W.heap.size W W') : O1 w W' k x q op := by
  have hlo := h.klo
  have hhi := h.khi
  exact {
    bel := h.bel.trans ⟨B.os, B.tape, B.output, by have := B.size; have := h.bel.size; omega, fun i hi => B.block i (by have := h.bel.size; omega)⟩
    klo := hlo
    khi := Nat.lt_of_lt_of_le hhi B.size
    x0 := (B.cell (p := ⟨w.heap.size, 0, none⟩) (by show w.heap.size < _; omega)).trans h.x0
    x1 := (B.cell (p := ⟨w.heap.size, 1, none⟩) (by show w.heap.size < _; omega)).trans h.x1
    x2 := (B.cell (p := ⟨w.heap.size, 2, none⟩) (by show w.heap.size < _; omega)).trans h.x2
    x3 := (B.cell (p := ⟨w.heap.size, 3, none⟩) (by show w.heap.size < _; omega)).trans h.x3
    t0 := (B.cell (p := ⟨w.heap.size + 1, 0, none⟩) (by show w.heap.size + 1 < _; omega)).trans h.t0
    k2 := (B.cell (p := ⟨k, 2, none⟩) hhi).trans h.k2
    k3 := (B.cell (p := ⟨k, 3, none⟩) hhi).trans h.k3
    fx := fun j => (B.frozen (p := ⟨w.heap.size, j, none⟩) (by show w.heap.size < _; omega)).trans (h.fx j)
    ft := (B.frozen (p := ⟨w.heap.size + 1, 0, none⟩) (by show w.heap.size + 1 < _; omega)).trans h.ft }
theorem O1.drew {w W : World} {k q op : Nat} {x : InsV} (h : O1 w W k x q op) : O1 w W.drew k x q op := h.below (Below.refl _ _).drew
end Go.Proofs.YtefijgdbnjmifaaGreatDoor
namespace Go.Proofs.YtefijgdbnjmifaaGreatDoor
open Go.RowKit

/-- What reading an instruction comes to. -/
def OPost (l : List UInt8) (p N : Nat) (w : World) (e : Ending) (w' : World) : Prop :=
  ∃ x : InsV, e = .returned (.tuple #[x.val, .int .i64 ((p + (oneS (l.drop p) N).2.1 : Nat) : Int), .int .i64 (oneS (l.drop p) N).2.2]) ∧ Below w.heap.size w w' ∧ ((oneS (l.drop p) N).2.2 = 0 → x = (oneS (l.drop p) N).1)
def qA (l : List UInt8) (p op : Nat) : Nat := p + 1 + (fA op (l.drop (p + 1))).2.1
def qI (l : List UInt8) (p op : Nat) : Nat := qA l p op + (fI op (l.drop (qA l p op))).2.1
def qT (l : List UInt8) (p op : Nat) : Nat := qI l p op + (fT op (l.drop (qI l p op))).2.1
/-- The instruction. -/
def xAt (l : List UInt8) (p op : Nat) : InsV := ⟨op, ((min (fA op (l.drop (p + 1))).1 4611686018427387904 : Nat) : Int), (fI op (l.drop (qA l p op))).1, strB (fT op (l.drop (qI l p op))).1⟩
section
variable {l : List UInt8} {p op N : Nat}
theorem byt0 (hop : byt l p = op) : byt (l.drop p) 0 = op := by rw [byt_drop]; exact hop
theorem eA_at (hop : byt l p = op) : eA (l.drop p) = (fA op (l.drop (p + 1))).2.2 := by unfold eA; rw [byt0 hop, List.drop_drop]
theorem pA_at (hop : byt l p = op) : p + pA (l.drop p) = qA l p op := by unfold pA qA; rw [byt0 hop, List.drop_drop]; omega
theorem eI_at (hop : byt l p = op) : eI (l.drop p) = (fI op (l.drop (qA l p op))).2.2 := by unfold eI; rw [byt0 hop, List.drop_drop, pA_at hop]
theorem pI_at (hop : byt l p = op) : p + pI (l.drop p) = qI l p op := by unfold pI qI; rw [byt0 hop, List.drop_drop, pA_at hop, ← pA_at hop]; omega
theorem eT_at (hop : byt l p = op) : eT (l.drop p) = (fT op (l.drop (qI l p op))).2.2 := by unfold eT; rw [byt0 hop, List.drop_drop, pI_at hop]
theorem pT_at (hop : byt l p = op) : p + pT (l.drop p) = qT l p op := by unfold pT qT; rw [byt0 hop, List.drop_drop, pI_at hop, ← pI_at hop]; omega
theorem xS_at (hop : byt l p = op) : xS (l.drop p) = xAt l p op := by unfold xS xAt; rw [byt0 hop, List.drop_drop, List.drop_drop, List.drop_drop, pA_at hop, pI_at hop]
theorem drop_pos (hp : p < l.length) : 0 < (l.drop p).length := by rw [List.length_drop]; omega
theorem text_len (l : List UInt8) : (textS l).1.length ≤ l.length := by
  unfold textS
  split
  · exact Nat.zero_le _
  · split
    · exact Nat.zero_le _
    · show ((l.drop (numS l).2.1).take (numS l).1).length ≤ _
      rw [List.length_take, List.length_drop]; omega
theorem fT_len (op : Nat) (l : List UInt8) : (fT op l).1.length ≤ l.length := by
  unfold fT ifS
  split
  · exact text_len l
  · exact Nat.zero_le _
theorem qA_le (hp : p < l.length) : qA l p op ≤ l.length := by
  have := fA_pos op (l.drop (p + 1))
  rw [List.length_drop] at this
  unfold qA; omega
theorem qI_le (hp : p < l.length) : qI l p op ≤ l.length := by
  have := fI_pos op (l.drop (qA l p op))
  have := @qA_le l p op hp
  rw [List.length_drop] at *
  unfold qI; omega
theorem qT_le (hp : p < l.length) : qT l p op ≤ l.length := by
  have := fT_pos op (l.drop (qI l p op))
  have := @qI_le l p op hp
  rw [List.length_drop] at *
  unfold qT; omega
theorem op_a {w w' : World} (hp : p < l.length) (hop : byt l p = op) (h : (fA op (l.drop (p + 1))).2.2 ≠ 0) (x : InsV) (B : Below w.heap.size w w') :
    OPost l p N w (.returned (.tuple #[x.val, .int .i64 (qA l p op : Int), .int .i64 (fA op (l.drop (p + 1))).2.2])) w' := by
  have e := @one_a (l.drop p) N (drop_pos hp) (by rw [eA_at hop]; exact h)
  refine ⟨x, ?_, B, ?_⟩
  · rw [e]; simp only []; rw [pA_at hop, eA_at hop]
  · rw [e]; simp only []; rw [eA_at hop]; exact fun c => absurd c h
theorem op_i {w w' : World} (hp : p < l.length) (hop : byt l p = op) (h1 : (fA op (l.drop (p + 1))).2.2 = 0) (h : (fI op (l.drop (qA l p op))).2.2 ≠ 0) (x : InsV) (B : Below w.heap.size w w') :
    OPost l p N w (.returned (.tuple #[x.val, .int .i64 (qI l p op : Int), .int .i64 (fI op (l.drop (qA l p op))).2.2])) w' := by
  have e := @one_i (l.drop p) N (drop_pos hp) (by rw [eA_at hop]; exact h1) (by rw [eI_at hop]; exact h)
  refine ⟨x, ?_, B, ?_⟩
  · rw [e]; simp only []; rw [pI_at hop, eI_at hop]
  · rw [e]; simp only []; rw [eI_at hop]; exact fun c => absurd c h
theorem op_t {w w' : World} (hp : p < l.length) (hop : byt l p = op) (h1 : (fA op (l.drop (p + 1))).2.2 = 0) (h2 : (fI op (l.drop (qA l p op))).2.2 = 0) (h : (fT op (l.drop (qI l p op))).2.2 ≠ 0) (x : InsV) (B : Below w.heap.size w w') :
    OPost l p N w (.returned (.tuple #[x.val, .int .i64 (qT l p op : Int), .int .i64 (fT op (l.drop (qI l p op))).2.2])) w' := by
  have e := @one_t (l.drop p) N (drop_pos hp) (by rw [eA_at hop]; exact h1) (by rw [eI_at hop]; exact h2) (by rw [eT_at hop]; exact h)
  refine ⟨x, ?_, B, ?_⟩
  · rw [e]; simp only []; rw [pT_at hop, eT_at hop]
  · rw [e]; simp only []; rw [eT_at hop]; exact fun c => absurd c h
theorem op_w {w w' : World} (hp : p < l.length) (hop : byt l p = op) (h1 : (fA op (l.drop (p + 1))).2.2 = 0) (h2 : (fI op (l.drop (qA l p op))).2.2 = 0) (h3 : (fT op (l.drop (qI l p op))).2.2 = 0) (h : rightI (xAt l p op).ins N = false) (x : InsV) (B : Below w.heap.size w w') :
    OPost l p N w (.returned (.tuple #[x.val, .int .i64 (p : Int), .int .i64 3])) w' := by
  have e := @one_wrong (l.drop p) N (drop_pos hp) (by rw [eA_at hop]; exact h1) (by rw [eI_at hop]; exact h2) (by rw [eT_at hop]; exact h3) (by rw [xS_at hop, h]; simp)
  refine ⟨x, ?_, B, ?_⟩
  · rw [e]; rfl
  · rw [e]; exact fun c => absurd c (by decide)
theorem op_g {w w' : World} (hp : p < l.length) (hop : byt l p = op) (h1 : (fA op (l.drop (p + 1))).2.2 = 0) (h2 : (fI op (l.drop (qA l p op))).2.2 = 0) (h3 : (fT op (l.drop (qI l p op))).2.2 = 0) (h : rightI (xAt l p op).ins N = true) (B : Below w.heap.size w w') :
    OPost l p N w (.returned (.tuple #[(xAt l p op).val, .int .i64 (qT l p op : Int), .int .i64 0])) w' := by
  have e := @one_good (l.drop p) N (drop_pos hp) (by rw [eA_at hop]; exact h1) (by rw [eI_at hop]; exact h2) (by rw [eT_at hop]; exact h3) (by rw [xS_at hop]; exact h)
  refine ⟨xAt l p op, ?_, B, ?_⟩
  · rw [e]; simp only []; rw [pT_at hop]
  · rw [e]; exact fun _ => (xS_at hop).symm
end
end Go.Proofs.YtefijgdbnjmifaaGreatDoor

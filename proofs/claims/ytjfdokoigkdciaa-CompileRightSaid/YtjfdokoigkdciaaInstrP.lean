/- Layer 14 in plain Lean: the table of instructions, what is right, how deep the stack is. No program in sight. Names in plain Lean. -/
import Derived.RowKit
import Derived.Laws.Strings
namespace Go.Proofs.Ytjfdokoigkdciaa
open Go.RowKit

/-- What A is: 0 nothing, 1 a target, 2 a slot, 3 a count. -/
def aK (op : Nat) : Nat :=
  if op = 1 ∨ op = 2 ∨ op = 3 ∨ op = 4 ∨ op = 53 then 1 else if op = 26 ∨ op = 27 then 2 else if op = 25 ∨ op = 50 ∨ op = 51 then 3 else 0
def numK (op : Nat) : Bool := op = 23
/-- 0 no text, 1 any, 2 a name. -/
def textK (op : Nat) : Nat := if op = 24 then 1 else if op = 50 ∨ op = 51 ∨ op = 56 then 2 else 0
/-- Is there such an instruction? -/
def isK (op : Nat) : Bool := (1 ≤ op && op ≤ 6) || (8 ≤ op && op ≤ 10) || (20 ≤ op && op ≤ 28) || (32 ≤ op && op ≤ 48) || (50 ≤ op && op ≤ 57)
/-- What it takes, A's own count aside. -/
def takesK (op : Nat) : Int :=
  if 32 ≤ op ∧ op ≤ 42 then 2 else
  if op = 2 ∨ op = 3 ∨ op = 4 ∨ op = 5 ∨ op = 6 ∨ op = 8 ∨ op = 9 ∨ op = 10 ∨ op = 27 ∨ (43 ≤ op ∧ op ≤ 48) ∨ op = 52 ∨ op = 54 ∨ op = 55 then 1 else 0
def leaveK (op : Nat) : Int :=
  if op = 5 ∨ (20 ≤ op ∧ op ≤ 26) ∨ (32 ≤ op ∧ op ≤ 48) ∨ (50 ≤ op ∧ op ≤ 57) then 1 else 0
def endsK (op : Nat) : Bool := op = 8 || op = 9 || op = 28

/-- An instruction. -/
structure Ins where
  op : Nat
  a : Int
  int : Int
  text : List UInt8

def nameB (l : List UInt8) : Bool :=
  decide (1 ≤ l.length) && decide (l.length ≤ 24) && (match l with | [] => false | c :: _ => decide (97 ≤ c.toNat) && decide (c.toNat ≤ 122)) &&
    l.all fun c => (decide (97 ≤ c.toNat) && decide (c.toNat ≤ 122)) || (decide (48 ≤ c.toNat) && decide (c.toNat ≤ 57)) || decide (c.toNat = 95)
def topK (op : Nat) (n : Int) : Int := if aK op = 1 then n else if aK op = 2 then 100 else if aK op = 3 then 2049 else 1
def textOk (op : Nat) (l : List UInt8) : Bool := if textK op = 1 then decide (l.length < 4096) else if textK op = 2 then nameB l else l.isEmpty
/-- Is an instruction right in code of n? -/
def rightI (x : Ins) (n : Int) : Bool := isK x.op && (numK x.op || decide (x.int = 0)) && decide (0 ≤ x.a) && decide (x.a < topK x.op n) && textOk x.op x.text

/-- What it takes. -/
def takesI (x : Ins) : Int := if aK x.op = 3 then x.a else takesK x.op
def nextI (x : Ins) (depth : Int) : Int := depth - takesI x + leaveK x.op
def thereI (x : Ins) (depth : Int) : Int := if x.op = 53 then 0 else if x.op = 3 ∨ x.op = 4 then depth else nextI x depth

/-- Meeting a place with a depth: the depths then; none: it does not fit. -/
def meetS (d : List Int) (at_ : Nat) (depth : Int) : List Int × Bool :=
  if d.length ≤ at_ then (d, false)
  else if d.getD at_ 0 < 0 then (d.set at_ depth, true)
  else (d, d.getD at_ 0 == depth)
/-- Going through a place: the depths then, and whether it fits. -/
def throughS (x : Ins) (d : List Int) (at_ : Nat) : List Int × Bool :=
  let depth := d.getD at_ 0
  if endsK x.op then (d, depth == takesI x)
  else if depth < takesI x then (d, false)
  else
    let r := if aK x.op = 1 then meetS d x.a.toNat (thereI x depth) else (d, true)
    if !r.2 then (r.1, false)
    else if x.op = 1 then (r.1, true)
    else meetS r.1 (at_ + 1) (nextI x depth)
end Go.Proofs.Ytjfdokoigkdciaa
namespace Go.Proofs.Ytjfdokoigkdciaa
open Go.RowKit

def okC (c : UInt8) : Bool := (decide (97 ≤ c.toNat) && decide (c.toNat ≤ 122)) || (decide (48 ≤ c.toNat) && decide (c.toNat ≤ 57)) || decide (c.toNat = 95)
def lowC (c : UInt8) : Bool := decide (97 ≤ c.toNat) && decide (c.toNat ≤ 122)
theorem dataLen (s : ByteArray) : s.data.toList.length = s.size := by rw [Array.length_toList]; rfl
theorem dataGet (s : ByteArray) (k : Nat) (h : k < s.size) : s.data.toList[k]'(by rw [dataLen]; exact h) = s[k] := rfl
theorem dataNil {s : ByteArray} (h : s.size = 0) : s.data.toList = [] := List.eq_nil_of_length_eq_zero (by rw [dataLen]; exact h)
theorem dataCons {s : ByteArray} (h : 0 < s.size) : ∃ r, s.data.toList = s[0] :: r := by
  cases hl : s.data.toList with
  | nil => have := dataLen s; rw [hl] at this; simp at this; omega
  | cons c r =>
    refine ⟨r, ?_⟩
    have := dataGet s 0 h
    simp only [hl, List.getElem_cons_zero] at this
    rw [this]
theorem emptyNo {s : ByteArray} (h : 0 < s.size) : s.toList.isEmpty = false := by
  obtain ⟨r, hr⟩ := dataCons h
  rw [ByteArray.toList_eq, hr]; rfl
theorem emptyYes {s : ByteArray} (h : s.size = 0) : s.toList.isEmpty = true := by rw [ByteArray.toList_eq, dataNil h]; rfl
theorem name_def (l : List UInt8) : nameB l = (decide (1 ≤ l.length) && decide (l.length ≤ 24) && (match l with | [] => false | c :: _ => lowC c) && l.all okC) := rfl
theorem name_none {s : ByteArray} (h : s.size = 0) : nameB s.data.toList = false := by rw [dataNil h]; rfl
theorem name_big {s : ByteArray} (h : 24 < s.size) : nameB s.data.toList = false := by
  rw [name_def, decide_eq_false (p := s.data.toList.length ≤ 24) (by rw [dataLen]; omega)]; simp
theorem name_head {s : ByteArray} (h : 0 < s.size) (hl : lowC s[0] = false) : nameB s.data.toList = false := by
  obtain ⟨r, hr⟩ := dataCons h
  rw [name_def, hr]
  simp only [hl, Bool.and_false, Bool.false_and]
theorem name_bad {s : ByteArray} {k : Nat} (h : k < s.size) (hk : okC s[k] = false) : nameB s.data.toList = false := by
  have : s.data.toList.all okC = false := by
    rw [List.all_eq_false]
    exact ⟨s[k], by rw [← dataGet s k h]; exact List.getElem_mem _, by simp [hk]⟩
  rw [name_def, this, Bool.and_false]
theorem name_good {s : ByteArray} (h : 0 < s.size) (h24 : s.size ≤ 24) (hl : lowC s[0] = true) (ha : s.data.toList.all okC = true) : nameB s.data.toList = true := by
  obtain ⟨r, hr⟩ := dataCons h
  rw [name_def, ha, decide_eq_true (p := 1 ≤ s.data.toList.length) (by rw [dataLen]; omega), decide_eq_true (p := s.data.toList.length ≤ 24) (by rw [dataLen]; omega), hr]
  simp [hl]
theorem all_step {s : ByteArray} {k : Nat} (h : k < s.size) (ha : (s.data.toList.take k).all okC = true) (hk : okC s[k] = true) : (s.data.toList.take (k + 1)).all okC = true := by
  rw [List.take_succ_eq_append_getElem (by rw [dataLen]; exact h), List.all_append, ha, dataGet s k h]
  simp [hk]
theorem all_end {s : ByteArray} {k : Nat} (h : s.size ≤ k) (ha : (s.data.toList.take k).all okC = true) : s.data.toList.all okC = true := by
  rwa [List.take_of_length_le (by rw [dataLen]; exact h)] at ha
theorem okC_low {c : UInt8} (h : lowC c = true) : okC c = true := by simp only [okC, lowC] at *; simp [h]
section
variable {c : UInt8}
theorem lowC_yes (h1 : (97 : Int) ≤ (c.toNat : Int)) (h2 : (c.toNat : Int) ≤ 122) : lowC c = true := by simp only [lowC, Bool.and_eq_true, decide_eq_true_eq]; omega
theorem lowC_no (h : (c.toNat : Int) < 97 ∨ (122 : Int) < (c.toNat : Int)) : lowC c = false := by simp only [lowC, Bool.and_eq_false_iff, decide_eq_false_iff_not]; omega
theorem okC_yes (h : ((97 : Int) ≤ (c.toNat : Int) ∧ (c.toNat : Int) ≤ 122) ∨ ((48 : Int) ≤ (c.toNat : Int) ∧ (c.toNat : Int) ≤ 57) ∨ (c.toNat : Int) = 95) : okC c = true := by
  simp only [okC, Bool.or_eq_true, Bool.and_eq_true, decide_eq_true_eq]; omega
theorem okC_no (h1 : (c.toNat : Int) < 97 ∨ (122 : Int) < (c.toNat : Int)) (h2 : (c.toNat : Int) < 48 ∨ (57 : Int) < (c.toNat : Int)) (h3 : ¬ (c.toNat : Int) = 95) : okC c = false := by
  simp only [okC, Bool.or_eq_false_iff, Bool.and_eq_false_iff, decide_eq_false_iff_not]; omega
end
end Go.Proofs.Ytjfdokoigkdciaa

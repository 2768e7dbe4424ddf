/- Layer 14 in plain Lean: the table of instructions, what is right, how deep the stack is. No program in sight. -/
import Derived.RowKit
namespace Go.Proofs.Ytefijgdbnjmifaa
open Go.RowKit

/-- What A is: 0 nothing, 1 a target, 2 a slot, 3 a count. -/
def aK (op : Nat) : Nat :=
  if op = 1 ∨ op = 2 ∨ op = 3 ∨ op = 4 ∨ op = 53 then 1 else if op = 26 ∨ op = 27 then 2 else if op = 25 ∨ op = 50 ∨ op = 51 then 3 else 0
def numK (op : Nat) : Bool := op = 23
/-- 0 no text, 1 any, 2 a name. -/
def textK (op : Nat) : Nat := if op = 24 then 1 else if op = 50 ∨ op = 51 ∨ op = 56 then 2 else 0
/-- Is there such an instruction? -/
def isK (op : Nat) : Bool := (1 ≤ op && op ≤ 6) || (8 ≤ op && op ≤ 10) || (20 ≤ op && op ≤ 28) || (32 ≤ op && op ≤ 48) || (50 ≤ op && op ≤ 57)
/-- What it takes, A's own count aside. -/
def takesK (op : Nat) : Int :=
  if 32 ≤ op ∧ op ≤ 42 then 2 else
  if op = 2 ∨ op = 3 ∨ op = 4 ∨ op = 5 ∨ op = 6 ∨ op = 8 ∨ op = 9 ∨ op = 10 ∨ op = 27 ∨ (43 ≤ op ∧ op ≤ 48) ∨ op = 52 ∨ op = 54 ∨ op = 55 then 1 else 0
def leaveK (op : Nat) : Int :=
  if op = 5 ∨ (20 ≤ op ∧ op ≤ 26) ∨ (32 ≤ op ∧ op ≤ 48) ∨ (50 ≤ op ∧ op ≤ 57) then 1 else 0
def endsK (op : Nat) : Bool := op = 8 || op = 9 || op = 28

/-- An instruction. -/
structure Ins where
  op : Nat
  a : Int
  int : Int
  text : List UInt8

def nameB (l : List UInt8) : Bool :=
  decide (1 ≤ l.length) && decide (l.length ≤ 24) && (match l with | [] => false | c :: _ => decide (97 ≤ c.toNat) && decide (c.toNat ≤ 122)) &&
    l.all fun c => (decide (97 ≤ c.toNat) && decide (c.toNat ≤ 122)) || (decide (48 ≤ c.toNat) && decide (c.toNat ≤ 57)) || decide (c.toNat = 95)
def topK (op : Nat) (n : Int) : Int := if aK op = 1 then n else if aK op = 2 then 100 else if aK op = 3 then 2049 else 1
def textOk (op : Nat) (l : List UInt8) : Bool := if textK op = 1 then decide (l.length < 4096) else if textK op = 2 then nameB l else l.isEmpty
/-- Is an instruction right in code of n? -/
def rightI (x : Ins) (n : Int) : Bool := isK x.op && (numK x.op || decide (x.int = 0)) && decide (0 ≤ x.a) && decide (x.a < topK x.op n) && textOk x.op x.text

/-- What it takes. -/
def takesI (x : Ins) : Int := if aK x.op = 3 then x.a else takesK x.op
def nextI (x : Ins) (depth : Int) : Int := depth - takesI x + leaveK x.op
def thereI (x : Ins) (depth : Int) : Int := if x.op = 53 then 0 else if x.op = 3 ∨ x.op = 4 then depth else nextI x depth

/-- Meeting a place with a depth: the depths then; none: it does not fit. -/
def meetS (d : List Int) (at_ : Nat) (depth : Int) : List Int × Bool :=
  if d.length ≤ at_ then (d, false)
  else if d.getD at_ 0 < 0 then (d.set at_ depth, true)
  else (d, d.getD at_ 0 == depth)
/-- Going through a place: the depths then, and whether it fits. -/
def throughS (x : Ins) (d : List Int) (at_ : Nat) : List Int × Bool :=
  let depth := d.getD at_ 0
  if endsK x.op then (d, depth == takesI x)
  else if depth < takesI x then (d, false)
  else
    let r := if aK x.op = 1 then meetS d x.a.toNat (thereI x depth) else (d, true)
    if !r.2 then (r.1, false)
    else if x.op = 1 then (r.1, true)
    else meetS r.1 (at_ + 1) (nextI x depth)
end Go.Proofs.Ytefijgdbnjmifaa

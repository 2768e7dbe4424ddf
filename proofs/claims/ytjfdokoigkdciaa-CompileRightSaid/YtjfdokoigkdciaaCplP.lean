/- Plain: a flow's code. -/
import Derived.Test.YtjfdokoigkdciaaTreP
namespace Go.Proofs.Ytjfdokoigkdciaa
open Go.RowKit

def insO (op : Nat) : InsV := ⟨op, 0, 0, ⟨#[]⟩⟩
def insA (op : Nat) (a : Int) : InsV := ⟨op, a, 0, ⟨#[]⟩⟩
/-- A twig's own instruction. -/
def plainI (x : InsV) (slot : Int) : List InsV :=
  if x.op = 3 then [] else if x.op = 4 ∨ x.op = 5 then [insA 27 slot] else if x.op = 26 then [insA 26 slot] else if x.op = 11 then [insO 6]
  else if x.op = 23 then [⟨23, 0, x.int, ⟨#[]⟩⟩] else if x.op = 24 then [⟨24, 0, 0, x.text⟩] else if x.op = 25 then [insA 25 x.a]
  else if x.op = 50 ∨ x.op = 51 then [⟨x.op, x.a, 0, x.text⟩] else if x.op = 56 then [⟨56, 0, 0, x.text⟩] else [insO x.op]
/-- The code of some trees, one behind the other; where they end. -/
def callS (nx : Nat → Nat → List InsV × Nat) : Nat → Nat → Nat → List InsV × Nat
  | 0, at_, _ => ([], at_)
  | r + 1, at_, fr => ((nx at_ fr).1 ++ (callS nx r (nx at_ fr).2 (fr + (nx at_ fr).1.length)).1, (callS nx r (nx at_ fr).2 (fr + (nx at_ fr).1.length)).2)
/-- The code of the tree at a place, when it stands from some place of the code on; where the tree ends. -/
def compS (cs : List InsV) (slot : List Int) : Nat → Nat → Nat → List InsV × Nat
  | 0, at_, _ => ([], at_)
  | f + 1, at_, fr =>
    let x := atV cs at_
    if x.op = 1 then
      let b := compS cs slot f (at_ + x.a.toNat) fr
      (b.1 ++ [insO 28], b.2)
    else if x.op = 6 then
      let a := compS cs slot f (at_ + 1) fr
      let b := compS cs slot f a.2 (fr + a.1.length + 1)
      if x.a = 3 then
        let c := compS cs slot f b.2 (fr + a.1.length + 1 + b.1.length + 1)
        (a.1 ++ [insA 2 (fr + a.1.length + 1 + b.1.length + 1 : Nat)] ++ b.1 ++ [insA 1 (fr + a.1.length + 1 + b.1.length + 1 + c.1.length : Nat)] ++ c.1, c.2)
      else (a.1 ++ [insA 2 (fr + a.1.length + 1 + b.1.length : Nat)] ++ b.1, b.2)
    else if x.op = 7 then
      let a := compS cs slot f (at_ + 1) fr
      let b := compS cs slot f a.2 (fr + a.1.length + 1)
      (a.1 ++ [insA 2 (fr + a.1.length + 1 + b.1.length + 1 : Nat)] ++ b.1 ++ [insA 1 (fr : Nat)], b.2)
    else if x.op = 30 ∨ x.op = 31 then
      let a := compS cs slot f (at_ + 1) fr
      let b := compS cs slot f a.2 (fr + a.1.length + 1)
      (a.1 ++ [insA (if x.op = 31 then 4 else 3) (fr + a.1.length + 1 + b.1.length + 1 : Nat)] ++ b.1 ++ [insO 5], b.2)
    else if x.op = 53 then
      let b := compS cs slot f (at_ + 1) (fr + 2)
      ([insA 53 (fr + 2 : Nat), insA 1 (fr + 2 + b.1.length + 1 : Nat)] ++ b.1 ++ [insO 28], b.2)
    else
      let r := callS (compS cs slot f) x.a.toNat (at_ + 1) fr
      (r.1 ++ plainI x (slot.getD at_ 0), r.2)
/-- Does an instruction cost a step; is a twig counted? -/
def costI (x : InsV) : Bool := !(x.op == 1) && !(x.op == 5) && !(x.op == 28)
def cntT (x : InsV) : Bool := !(x.op == 1) && !(x.op == 2) && !(x.op == 3)
/-- How many twigs count, from a place up to another one. -/
def cntS (cs : List InsV) (at_ nx : Nat) : Nat := ((cs.drop at_).take (nx - at_)).countP cntT
end Go.Proofs.Ytjfdokoigkdciaa

/- Code as a text, in plain Lean. -/
import Derived.Test.YtefijgdbnjmifaaDoorBytP
import Derived.Test.YtefijgdbnjmifaaDoorInstrT
import Derived.Lib.ItoaNum
namespace Go.Proofs.YtefijgdbnjmifaaDoor
open Go.RowKit

/-- A byte that a quoted text does not bear as it stands. -/
def odd (c : UInt8) : Bool := decide (c.toNat < 32) || decide (126 < c.toNat) || decide (c.toNat = 34) || decide (c.toNat = 92)
def hexC (k : Nat) : UInt8 := UInt8.ofNat (if k < 10 then 48 + k else 87 + k)
def qByte (c : UInt8) : List UInt8 := if odd c then [92, 120, hexC (c.toNat / 16), hexC (c.toNat % 16)] else [c]
def quotedTo (l : List UInt8) (k : Nat) : List UInt8 := 34 :: (l.take k).flatMap qByte
def quotedS (l : List UInt8) : List UInt8 := 34 :: (l.flatMap qByte ++ [34])
theorem quotedTo_zero (l : List UInt8) : quotedTo l 0 = [34] := by simp [quotedTo]
theorem quotedTo_succ (l : List UInt8) (k : Nat) (h : k < l.length) : quotedTo l (k + 1) = quotedTo l k ++ qByte l[k] := by
  unfold quotedTo
  rw [List.take_succ_eq_append_getElem h]
  simp only [List.flatMap_append, List.flatMap_cons, List.flatMap_nil, List.append_nil, List.cons_append]
theorem quotedTo_all (l : List UInt8) (k : Nat) (h : ¬ k < l.length) : quotedTo l k ++ [34] = quotedS l := by
  unfold quotedTo quotedS
  rw [List.take_of_length_le (by omega)]
  simp
theorem qByte_odd {c : UInt8} (h : odd c = true) : qByte c = [92, 120, hexC (c.toNat / 16), hexC (c.toNat % 16)] := if_pos h
theorem qByte_even {c : UInt8} (h : odd c = false) : qByte c = [c] := if_neg (by simp [h])
theorem qByte_len (c : UInt8) : (qByte c).length ≤ 4 := by
  unfold qByte; split <;> simp
theorem quotedTo_len (l : List UInt8) (k : Nat) : (quotedTo l k).length ≤ 1 + 4 * k := by
  unfold quotedTo
  simp only [List.length_cons]
  have : ∀ m : List UInt8, (m.flatMap qByte).length ≤ 4 * m.length := by
    intro m
    induction m with
    | nil => simp
    | cons c m ih => have := qByte_len c; simp only [List.flatMap_cons, List.length_append, List.length_cons]; omega
  have h2 := this (l.take k)
  have h3 : (l.take k).length ≤ k := List.length_take_le _ _
  omega
theorem quotedS_len (l : List UInt8) : (quotedS l).length ≤ 2 + 4 * l.length := by
  have := quotedTo_len l l.length
  have e := quotedTo_all l l.length (by omega)
  rw [← e, List.length_append]
  simp only [List.length_cons, List.length_nil]
  omega
/-- An instruction's line. -/
def aTx (op : Nat) (a : Int) : List UInt8 := if aK op = 0 then [] else 32 :: Lib.itoa a
def iTx (op : Nat) (x : Int) : List UInt8 := if numK op then 32 :: Lib.itoa x else []
def tTx (op : Nat) (t : ByteArray) : List UInt8 := if textK op = 0 then [] else if textK op = 1 then 32 :: quotedS t.data.toList else 32 :: t.data.toList
def headTx (k op : Nat) : List UInt8 := Lib.itoa k ++ 32 :: (wordK op).data.toList
def lineS (k : Nat) (x : InsV) : List UInt8 := headTx k x.op ++ aTx x.op x.a ++ iTx x.op x.int ++ tTx x.op x.text
theorem aTx_no {op : Nat} {a : Int} (h : aK op = 0) : aTx op a = [] := if_pos h
theorem aTx_is {op : Nat} {a : Int} (h : ¬ aK op = 0) : aTx op a = 32 :: Lib.itoa a := if_neg h
theorem iTx_no {op : Nat} {x : Int} (h : numK op = false) : iTx op x = [] := by unfold iTx; rw [h]; rfl
theorem iTx_is {op : Nat} {x : Int} (h : numK op = true) : iTx op x = 32 :: Lib.itoa x := by unfold iTx; rw [h]; rfl
theorem tTx_no {op : Nat} {t : ByteArray} (h : textK op = 0) : tTx op t = [] := if_pos h
theorem tTx_any {op : Nat} {t : ByteArray} (h : textK op = 1) : tTx op t = 32 :: quotedS t.data.toList := by unfold tTx; rw [if_neg (by omega), if_pos h]
theorem tTx_name {op : Nat} {t : ByteArray} (h : textK op = 2) : tTx op t = 32 :: t.data.toList := by unfold tTx; rw [if_neg (by omega), if_neg (by omega)]
/-- The first k lines. -/
def listTo (c : List InsV) : Nat → List UInt8
  | 0 => []
  | k + 1 => listTo c k ++ (lineS k (atV c k) ++ [10])
def listS (c : List InsV) : List UInt8 := listTo c c.length
end Go.Proofs.YtefijgdbnjmifaaDoor

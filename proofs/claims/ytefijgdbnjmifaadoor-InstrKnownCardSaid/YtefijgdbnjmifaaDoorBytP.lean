/- Numbers, texts and code as bytes, in plain Lean. Code as a text, in plain Lean. What a text says as code, in plain Lean: the program's road. -/
import Derived.Test.YtefijgdbnjmifaaDoorLookP
import Derived.Test.YtefijgdbnjmifaaDoorInsV
import Derived.Test.YtefijgdbnjmifaaDoorInstrT
import Derived.Lib.ItoaNum
namespace Go.Proofs.YtefijgdbnjmifaaDoor
open Go.RowKit

/-- A number's bytes. -/
def uintB (n : Nat) : List UInt8 := if n < 128 then [UInt8.ofNat n] else UInt8.ofNat (n % 128 + 128) :: uintB (n / 128)
termination_by n
decreasing_by omega
theorem uintB_last {n : Nat} (h : n < 128) : uintB n = [UInt8.ofNat n] := by rw [uintB, if_pos h]
theorem uintB_more {n : Nat} (h : ¬ n < 128) : uintB n = UInt8.ofNat (n % 128 + 128) :: uintB (n / 128) := by rw [uintB, if_neg h]
theorem uintB_len (k : Nat) : ∀ n, n < 128 ^ (k + 1) → (uintB n).length ≤ k + 1 := by
  induction k with
  | zero => intro n h; rw [uintB_last (by omega)]; exact Nat.le_refl _
  | succ k ih =>
    intro n h
    by_cases hn : n < 128
    · rw [uintB_last hn]; simp
    · rw [uintB_more hn]
      have := ih (n / 128) (by rw [Nat.div_lt_iff_lt_mul (by omega)]; rw [Nat.pow_succ] at h; exact h)
      simp only [List.length_cons]; omega
theorem uintB_len10 {n : Nat} (h : n < 18446744073709551616) : (uintB n).length ≤ 10 := uintB_len 9 n (Nat.lt_of_lt_of_le h (by decide))
/-- A whole number as one from 0 on. -/
def zigN (x : Int) : Nat := if 0 ≤ x then (2 * x).toNat else (-2 * x - 1).toNat
theorem zig_pos {x : Int} (h : 0 ≤ x) : ((zigN x : Nat) : Int) = 2 * x := by unfold zigN; rw [if_pos h]; omega
theorem zig_neg {x : Int} (h : ¬ 0 ≤ x) : ((zigN x : Nat) : Int) = -2 * x - 1 := by unfold zigN; rw [if_neg h]; omega
theorem zig_lt {x : Int} (h0 : -9223372036854775808 ≤ x) (h1 : x ≤ 9223372036854775807) : zigN x < 18446744073709551616 := by
  unfold zigN; split <;> omega
/-- An instruction's fields as bytes. -/
def aBy (op : Nat) (a : Int) : List UInt8 := if aK op = 0 then [] else uintB a.toNat
def iBy (op : Nat) (x : Int) : List UInt8 := if numK op then uintB (zigN x) else []
def tBy (op : Nat) (t : ByteArray) : List UInt8 := if textK op = 0 then [] else uintB t.size ++ t.data.toList
def insB (x : InsV) : List UInt8 := UInt8.ofNat x.op :: (aBy x.op x.a ++ iBy x.op x.int ++ tBy x.op x.text)
theorem aBy_no {op : Nat} {a : Int} (h : aK op = 0) : aBy op a = [] := if_pos h
theorem aBy_is {op : Nat} {a : Int} (h : ¬ aK op = 0) : aBy op a = uintB a.toNat := if_neg h
theorem iBy_no {op : Nat} {x : Int} (h : numK op = false) : iBy op x = [] := by unfold iBy; rw [h]; rfl
theorem iBy_is {op : Nat} {x : Int} (h : numK op = true) : iBy op x = uintB (zigN x) := by unfold iBy; rw [h]; rfl
theorem tBy_no {op : Nat} {t : ByteArray} (h : textK op = 0) : tBy op t = [] := if_pos h
theorem tBy_is {op : Nat} {t : ByteArray} (h : ¬ textK op = 0) : tBy op t = uintB t.size ++ t.data.toList := if_neg h
/-- The first k instructions' bytes, behind their number. -/
def bytesTo (c : List InsV) (k : Nat) : List UInt8 := uintB c.length ++ (c.take k).flatMap insB
def bytesS (c : List InsV) : List UInt8 := uintB c.length ++ c.flatMap insB
theorem bytesTo_zero (c : List InsV) : bytesTo c 0 = uintB c.length := by simp [bytesTo]
theorem take_atV (c : List InsV) (k : Nat) (h : k < c.length) : c.take (k + 1) = c.take k ++ [atV c k] := by
  rw [List.take_succ_eq_append_getElem h]
  congr 1
  unfold atV
  simp [List.getD, h]
theorem bytesTo_succ (c : List InsV) (k : Nat) (h : k < c.length) : bytesTo c (k + 1) = bytesTo c k ++ insB (atV c k) := by
  unfold bytesTo
  rw [take_atV c k h]
  simp
theorem bytesTo_all (c : List InsV) : bytesTo c c.length = bytesS c := by simp [bytesTo, bytesS]
/-- How long the texts of the first k are. -/
def textsTo (c : List InsV) : Nat → Nat
  | 0 => 0
  | k + 1 => textsTo c k + (atV c k).text.size
theorem textsTo_mono (c : List InsV) : ∀ {i j : Nat}, i ≤ j → textsTo c i ≤ textsTo c j := by
  intro i j h
  induction j with
  | zero => have : i = 0 := by omega
            subst this; exact Nat.le_refl _
  | succ j ih =>
    by_cases e : i = j + 1
    · subst e; exact Nat.le_refl _
    · exact Nat.le_trans (ih (by omega)) (Nat.le_add_right _ _)
theorem insB_len (x : InsV) (ha : 0 ≤ x.a) (ha1 : x.a ≤ 9223372036854775807) (hi : -9223372036854775808 ≤ x.int) (hi1 : x.int ≤ 9223372036854775807) (ht : x.text.size ≤ 9223372036854775807) : (insB x).length ≤ 31 + x.text.size := by
  have h1 : (aBy x.op x.a).length ≤ 10 := by
    unfold aBy; split
    · exact Nat.zero_le _
    · exact uintB_len10 (by omega)
  have h2 : (iBy x.op x.int).length ≤ 10 := by
    unfold iBy; split
    · exact uintB_len10 (zig_lt hi hi1)
    · exact Nat.zero_le _
  have h3 : (tBy x.op x.text).length ≤ 10 + x.text.size := by
    unfold tBy; split
    · exact Nat.zero_le _
    · rw [List.length_append]
      have := uintB_len10 (n := x.text.size) (by omega)
      have e : x.text.data.toList.length = x.text.size := by simp
      omega
  unfold insB
  simp only [List.length_cons, List.length_append]
  omega
/-- The code's whole numbers are such as there are. -/
def OkI (c : List InsV) : Prop := ∀ k, k < c.length → -9223372036854775808 ≤ (atV c k).int ∧ (atV c k).int ≤ 9223372036854775807
/-- Whether, and why not, code may be told. -/
def mayS (c : List InsV) : Int := if 8192 < c.length then 2 else if (List.range c.length).all (fun k => rightI (atV c k).ins c.length) then 0 else 3
theorem may_long {c : List InsV} (h : 8192 < c.length) : mayS c = 2 := if_pos h
theorem may_bad {c : List InsV} (h : ¬ 8192 < c.length) {k : Nat} (hk : k < c.length) (hr : rightI (atV c k).ins c.length = false) : mayS c = 3 := by
  unfold mayS
  rw [if_neg h, if_neg]
  intro ha
  have := (List.all_eq_true.1 ha) k (List.mem_range.2 hk)
  rw [hr] at this
  exact absurd this (by simp)
theorem may_good {c : List InsV} (h : ¬ 8192 < c.length) (hr : ∀ k, k < c.length → rightI (atV c k).ins c.length = true) : mayS c = 0 := by
  unfold mayS
  rw [if_neg h, if_pos]
  exact List.all_eq_true.2 fun k hk => hr k (List.mem_range.1 hk)
theorem may_ok {c : List InsV} (h : mayS c = 0) : c.length ≤ 8192 ∧ ∀ k, k < c.length → rightI (atV c k).ins c.length = true := by
  unfold mayS at h
  split at h
  · exact absurd h (by decide)
  · rename_i h1
    split at h
    · rename_i h2
      exact ⟨by omega, fun k hk => (List.all_eq_true.1 h2) k (List.mem_range.2 hk)⟩
    · exact absurd h (by decide)
theorem right_nn {x : Ins} {n : Int} (h : rightI x n = true) (hn : n ≤ 8192) : 0 ≤ x.a ∧ x.a ≤ 8192 := by
  have h1 := rightI_a h
  have h2 : topK x.op n ≤ 8192 := by unfold topK; (repeat' split) <;> omega
  have := h1.1
  have := h1.2
  omega
theorem bytesTo_len {c : List InsV} (hr : ∀ k, k < c.length → rightI (atV c k).ins c.length = true) (hl : c.length ≤ 8192) (ho : OkC c) (hi : OkI c) : ∀ k, k ≤ c.length → (bytesTo c k).length ≤ 10 + 31 * k + textsTo c k := by
  intro k
  induction k with
  | zero => intro _; rw [bytesTo_zero]; have := uintB_len10 (n := c.length) (by omega); omega
  | succ k ih =>
    intro hk
    have h1 := ih (by omega)
    have h2 := right_nn (hr k (by omega)) (by omega)
    have h3 := insB_len (atV c k) h2.1 (by have := h2.2; show (atV c k).a ≤ _; have e : (atV c k).ins.a = (atV c k).a := rfl; rw [e] at this; omega) (hi k (by omega)).1 (hi k (by omega)).2 (ho k (by omega)).2
    rw [bytesTo_succ c k (by omega), List.length_append]
    show _ ≤ 10 + 31 * (k + 1) + (textsTo c k + (atV c k).text.size)
    omega
end Go.Proofs.YtefijgdbnjmifaaDoor
namespace Go.Proofs.YtefijgdbnjmifaaDoor
open Go.RowKit

/-- A byte that a quoted text does not bear as it stands. -/
def odd (c : UInt8) : Bool := decide (c.toNat < 32) || decide (126 < c.toNat) || decide (c.toNat = 34) || decide (c.toNat = 92)
def hexC (k : Nat) : UInt8 := UInt8.ofNat (if k < 10 then 48 + k else 87 + k)
def qByte (c : UInt8) : List UInt8 := if odd c then [92, 120, hexC (c.toNat / 16), hexC (c.toNat % 16)] else [c]
def quotedTo (l : List UInt8) (k : Nat) : List UInt8 := 34 :: (l.take k).flatMap qByte
def quotedS (l : List UInt8) : List UInt8 := 34 :: (l.flatMap qByte ++ [34])
theorem quotedTo_zero (l : List UInt8) : quotedTo l 0 = [34] := by simp [quotedTo]
theorem quotedTo_succ (l : List UInt8) (k : Nat) (h : k < l.length) : quotedTo l (k + 1) = quotedTo l k ++ qByte l[k] := by
  unfold quotedTo
  rw [List.take_succ_eq_append_getElem h]
  simp only [List.flatMap_append, List.flatMap_cons, List.flatMap_nil, List.append_nil, List.cons_append]
theorem quotedTo_all (l : List UInt8) (k : Nat) (h : ¬ k < l.length) : quotedTo l k ++ [34] = quotedS l := by
  unfold quotedTo quotedS
  rw [List.take_of_length_le (by omega)]
  simp
theorem qByte_odd {c : UInt8} (h : odd c = true) : qByte c = [92, 120, hexC (c.toNat / 16), hexC (c.toNat % 16)] := if_pos h
theorem qByte_even {c : UInt8} (h : odd c = false) : qByte c = [c] := if_neg (by simp [h])
theorem qByte_len (c : UInt8) : (qByte c).length ≤ 4 := by
  unfold qByte; split <;> simp
theorem quotedTo_len (l : List UInt8) (k : Nat) : (quotedTo l k).length ≤ 1 + 4 * k := by
  unfold quotedTo
  simp only [List.length_cons]
  have : ∀ m : List UInt8, (m.flatMap qByte).length ≤ 4 * m.length := by
    intro m
    induction m with
    | nil => simp
    | cons c m ih => have := qByte_len c; simp only [List.flatMap_cons, List.length_append, List.length_cons]; omega
  have h2 := this (l.take k)
  have h3 : (l.take k).length ≤ k := List.length_take_le _ _
  omega
theorem quotedS_len (l : List UInt8) : (quotedS l).length ≤ 2 + 4 * l.length := by
  have := quotedTo_len l l.length
  have e := quotedTo_all l l.length (by omega)
  rw [← e, List.length_append]
  simp only [List.length_cons, List.length_nil]
  omega
/-- An instruction's line. -/
def aTx (op : Nat) (a : Int) : List UInt8 := if aK op = 0 then [] else 32 :: Lib.itoa a
def iTx (op : Nat) (x : Int) : List UInt8 := if numK op then 32 :: Lib.itoa x else []
def tTx (op : Nat) (t : ByteArray) : List UInt8 := if textK op = 0 then [] else if textK op = 1 then 32 :: quotedS t.data.toList else 32 :: t.data.toList
def headTx (k op : Nat) : List UInt8 := Lib.itoa k ++ 32 :: (wordK op).data.toList
def lineS (k : Nat) (x : InsV) : List UInt8 := headTx k x.op ++ aTx x.op x.a ++ iTx x.op x.int ++ tTx x.op x.text
theorem aTx_no {op : Nat} {a : Int} (h : aK op = 0) : aTx op a = [] := if_pos h
theorem aTx_is {op : Nat} {a : Int} (h : ¬ aK op = 0) : aTx op a = 32 :: Lib.itoa a := if_neg h
theorem iTx_no {op : Nat} {x : Int} (h : numK op = false) : iTx op x = [] := by unfold iTx; rw [h]; rfl
theorem iTx_is {op : Nat} {x : Int} (h : numK op = true) : iTx op x = 32 :: Lib.itoa x := by unfold iTx; rw [h]; rfl
theorem tTx_no {op : Nat} {t : ByteArray} (h : textK op = 0) : tTx op t = [] := if_pos h
theorem tTx_any {op : Nat} {t : ByteArray} (h : textK op = 1) : tTx op t = 32 :: quotedS t.data.toList := by unfold tTx; rw [if_neg (by omega), if_pos h]
theorem tTx_name {op : Nat} {t : ByteArray} (h : textK op = 2) : tTx op t = 32 :: t.data.toList := by unfold tTx; rw [if_neg (by omega), if_neg (by omega)]
/-- The first k lines. -/
def listTo (c : List InsV) : Nat → List UInt8
  | 0 => []
  | k + 1 => listTo c k ++ (lineS k (atV c k) ++ [10])
def listS (c : List InsV) : List UInt8 := listTo c c.length
end Go.Proofs.YtefijgdbnjmifaaDoor
namespace Go.Proofs.YtefijgdbnjmifaaDoor
open Go.RowKit

/-- The instruction of a word; 0: none. -/
def opS (word : ByteArray) : Nat := if word.size = 0 then 0 else ((List.range 64).find? fun op => decide (wordK op = word)).getD 0
theorem opS_nil {word : ByteArray} (h : word.size = 0) : opS word = 0 := if_pos h
theorem opS_at {word : ByteArray} {k : Nat} (h0 : word.size ≠ 0) (hk : k < 64) (hw : wordK k = word) (hl : ∀ j, j < k → wordK j ≠ word) : opS word = k := by
  unfold opS
  rw [if_neg h0]
  have : (List.range 64).find? (fun op => decide (wordK op = word)) = some k := by
    rw [List.find?_range_eq_some]
    exact ⟨decide_eq_true hw, by simpa using hk, fun j hj => by simp [hl j hj]⟩
  rw [this]; rfl
theorem opS_no {word : ByteArray} (hl : ∀ j, j < 64 → wordK j ≠ word) : opS word = 0 := by
  unfold opS
  split
  · rfl
  · have : (List.range 64).find? (fun op => decide (wordK op = word)) = none := by
      rw [List.find?_eq_none]
      intro x hx
      simpa using hl x (by simpa using hx)
    rw [this]; rfl
theorem opS_lt (word : ByteArray) : opS word < 64 := by
  unfold opS
  split
  · omega
  · cases h : (List.range 64).find? (fun op => decide (wordK op = word)) with
    | none => simp
    | some k => have := List.mem_of_find?_eq_some h; simpa using this

/-- What a digit to the base 16 is worth, large letters too; 16: none. -/
def hexN (c : UInt8) : Nat :=
  if 48 ≤ c.toNat ∧ c.toNat ≤ 57 then c.toNat - 48
  else if 97 ≤ c.toNat ||| 32 ∧ c.toNat ||| 32 ≤ 102 then (c.toNat ||| 32) - 87 else 16
theorem hexN_le (c : UInt8) : hexN c ≤ 16 := by
  unfold hexN; split
  · omega
  · split <;> omega
/-- An escaped byte at the head? -/
def escL (l : List UInt8) : Bool := decide (l.getD 0 0 = 92) && decide (4 ≤ l.length) && decide (hexN (l.getD 2 0) < 16) && decide (hexN (l.getD 3 0) < 16)
def escV (l : List UInt8) : UInt8 := UInt8.ofNat (16 * hexN (l.getD 2 0) + hexN (l.getD 3 0))
/-- What is between quotes, from a place on. -/
def unqL (l : List UInt8) : List UInt8 :=
  if 1 < l.length then (if escL l then escV l :: unqL (l.drop 4) else l.getD 0 0 :: unqL (l.drop 1)) else []
termination_by l.length
decreasing_by all_goals (simp only [List.length_drop]; omega)
theorem unqL_end {l : List UInt8} (h : ¬ 1 < l.length) : unqL l = [] := by rw [unqL, if_neg h]
theorem unqL_esc {l : List UInt8} (h : 1 < l.length) (he : escL l = true) : unqL l = escV l :: unqL (l.drop 4) := by rw [unqL, if_pos h, if_pos he]
theorem unqL_one {l : List UInt8} (h : 1 < l.length) (he : escL l = false) : unqL l = l.getD 0 0 :: unqL (l.drop 1) := by rw [unqL, if_pos h, if_neg (by simp [he])]
def unqS (l : List UInt8) : List UInt8 := unqL (l.drop 1)
theorem unqL_len : ∀ (n : Nat) (l : List UInt8), l.length ≤ n → (unqL l).length ≤ n
  | 0, l, h => by rw [unqL_end (by omega)]; simp
  | n + 1, l, h => by
    by_cases h1 : 1 < l.length
    · cases he : escL l with
      | true =>
        rw [unqL_esc h1 he]
        have := unqL_len n (l.drop 4) (by simp only [List.length_drop]; omega)
        simp only [List.length_cons]; omega
      | false =>
        rw [unqL_one h1 he]
        have := unqL_len n (l.drop 1) (by simp only [List.length_drop]; omega)
        simp only [List.length_cons]; omega
    · rw [unqL_end h1]; simp
theorem unqS_len (l : List UInt8) : (unqS l).length ≤ l.length := Nat.le_trans (unqL_len _ _ (Nat.le_refl _)) (by simp only [List.length_drop]; omega)
/-- Right, wherever its target may be. -/
def apartS (x : InsV) : Bool := rightI (InsV.ins ⟨x.op, if aK x.op = 1 then 0 else x.a, x.int, x.text⟩) 1
end Go.Proofs.YtefijgdbnjmifaaDoor

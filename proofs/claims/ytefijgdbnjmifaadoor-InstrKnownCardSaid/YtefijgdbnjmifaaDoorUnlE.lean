/- What a line says, in plain Lean; the memory of reading it. What a text says as code, in plain Lean. -/
import Derived.Test.YtefijgdbnjmifaaDoorUnlA
import Derived.Test.YtefijgdbnjmifaaDoorRedA
import Derived.Lib.IndexMore
import Derived.Lib.Strings
import Derived.Test.YtefijgdbnjmifaaDoorCodeC
namespace Go.Proofs.YtefijgdbnjmifaaDoor
open Go.RowKit

def headL (k : Nat) : List UInt8 := Lib.itoa k ++ [32]
def cutL (l : List UInt8) (c : UInt8) : List UInt8 × List UInt8 × Bool := Lib.cut l [c]
def wordL (k : Nat) (l : List UInt8) : List UInt8 := (cutL (Lib.trimPrefix l (headL k)) 32).1
def restL (k : Nat) (l : List UInt8) : List UInt8 := (cutL (Lib.trimPrefix l (headL k)) 32).2.1
def failL (op : Nat) (rest : List UInt8) : Bool := decide (aK op ≠ 0) && (decide (readErr (cutL rest 32).1 ≠ 0) || decide (readVal (cutL rest 32).1 < 0))
def aL (op : Nat) (rest : List UInt8) : Int := if aK op = 0 then 0 else readVal (cutL rest 32).1
def behindL (op : Nat) (rest : List UInt8) : List UInt8 := if aK op = 0 then rest else (cutL rest 32).2.1
def intL (op : Nat) (rest : List UInt8) : Int := if numK op then readVal rest else 0
def textL (op : Nat) (rest : List UInt8) : ByteArray := if textK op = 2 then sp rest else if textK op = 1 then sp (unqS rest) else ⟨#[]⟩
def fullL (op : Nat) (rest : List UInt8) : InsV := ⟨op, aL op rest, intL op (behindL op rest), textL op (behindL op rest)⟩
def parseO (k op : Nat) (rest l : List UInt8) : InsV × Bool :=
  if failL op rest then (⟨op, 0, 0, ⟨#[]⟩⟩, false) else (fullL op rest, isK op && decide (lineS k (fullL op rest) = l))
/-- What a line says at a place, and whether it is the line of that. -/
def parseS (k : Nat) (l : List UInt8) : InsV × Bool := parseO k (opS (sp (wordL k l))) (restL k l) l
def kindC (op : Nat) : Array Value := #[.string (wordK op), .int .u8 (aB op), .bool (numK op), .int .u8 (tB op), .int .i64 (takesK op), .int .i64 (leaveK op), .bool (manyK op), .bool (endsK op)]
def insC (x : InsV) : Array Value := #[.int .u8 (x.op : Int), .int .i64 x.a, .int .i64 x.int, .string x.text]
/-- In the midst of a line: the answer's block, the instruction's, its kind's. -/
structure Ps (w W : World) (rb xb kb : Nat) (x : InsV) : Prop where
  low : Below w.heap.size w W
  hr : W.heap[rb]? = some (.cells (insC zV) 36 (0, 0))
  hx : W.heap[xb]? = some (.cells (insC x) 36 (0, 0))
  hk : W.heap[kb]? = some (.cells (kindC x.op) 46 (0, 0))
  r0 : w.heap.size ≤ rb
  x0 : w.heap.size ≤ xb
  rx : rb ≠ xb
  rk : rb ≠ kb
  xk : xb ≠ kb
section
variable {w W W' : World} {rb xb kb : Nat} {x : InsV}
theorem Ps.xlt (h : Ps w W rb xb kb x) : xb < W.heap.size := (Array.getElem?_eq_some_iff.1 h.hx).1
theorem Ps.klt (h : Ps w W rb xb kb x) : kb < W.heap.size := (Array.getElem?_eq_some_iff.1 h.hk).1
theorem Ps.rlt (h : Ps w W rb xb kb x) : rb < W.heap.size := (Array.getElem?_eq_some_iff.1 h.hr).1
theorem Ps.below (h : Ps w W rb xb kb x) (b : Below W.heap.size W W') : Ps w W' rb xb kb x :=
  ⟨bthen h.low b, (b.block rb h.rlt).trans h.hr, (b.block xb h.xlt).trans h.hx, (b.block kb h.klt).trans h.hk, h.r0, h.x0, h.rx, h.rk, h.xk⟩
end
section
variable {w W : World} {rb xb kb op : Nat} {a i v : Int} {t u : ByteArray}
theorem Ps.k0 (h : Ps w W rb xb kb ⟨op, a, i, t⟩) : W.cell? ⟨kb, 0, none⟩ = some (.string (wordK op)) := (cells_of h.hk 0).trans rfl
theorem Ps.k1 (h : Ps w W rb xb kb ⟨op, a, i, t⟩) : W.cell? ⟨kb, 1, none⟩ = some (.int .u8 (aB op)) := (cells_of h.hk 1).trans rfl
theorem Ps.k2 (h : Ps w W rb xb kb ⟨op, a, i, t⟩) : W.cell? ⟨kb, 2, none⟩ = some (.bool (numK op)) := (cells_of h.hk 2).trans rfl
theorem Ps.k3 (h : Ps w W rb xb kb ⟨op, a, i, t⟩) : W.cell? ⟨kb, 3, none⟩ = some (.int .u8 (tB op)) := (cells_of h.hk 3).trans rfl
theorem Ps.c0 (h : Ps w W rb xb kb ⟨op, a, i, t⟩) : W.cell? ⟨xb, 0, none⟩ = some (.int .u8 (op : Int)) := (cells_of h.hx 0).trans rfl
theorem Ps.c1 (h : Ps w W rb xb kb ⟨op, a, i, t⟩) : W.cell? ⟨xb, 1, none⟩ = some (.int .i64 a) := (cells_of h.hx 1).trans rfl
theorem Ps.c2 (h : Ps w W rb xb kb ⟨op, a, i, t⟩) : W.cell? ⟨xb, 2, none⟩ = some (.int .i64 i) := (cells_of h.hx 2).trans rfl
theorem Ps.c3 (h : Ps w W rb xb kb ⟨op, a, i, t⟩) : W.cell? ⟨xb, 3, none⟩ = some (.string t) := (cells_of h.hx 3).trans rfl
theorem Ps.o0 (h : Ps w W rb xb kb ⟨op, a, i, t⟩) : W.cell? ⟨rb, 0, none⟩ = some (.int .u8 0) := (cells_of h.hr 0).trans rfl
theorem Ps.o1 (h : Ps w W rb xb kb ⟨op, a, i, t⟩) : W.cell? ⟨rb, 1, none⟩ = some (.int .i64 0) := (cells_of h.hr 1).trans rfl
theorem Ps.o2 (h : Ps w W rb xb kb ⟨op, a, i, t⟩) : W.cell? ⟨rb, 2, none⟩ = some (.int .i64 0) := (cells_of h.hr 2).trans rfl
theorem Ps.o3 (h : Ps w W rb xb kb ⟨op, a, i, t⟩) : W.cell? ⟨rb, 3, none⟩ = some (.string ⟨#[]⟩) := (cells_of h.hr 3).trans rfl
theorem Ps.xf (h : Ps w W rb xb kb ⟨op, a, i, t⟩) (j : Nat) : W.frozen? ⟨xb, j, none⟩ = false := frozen_of_row _ _ _ _ _ h.hx
theorem Ps.rf (h : Ps w W rb xb kb ⟨op, a, i, t⟩) (j : Nat) : W.frozen? ⟨rb, j, none⟩ = false := frozen_of_row _ _ _ _ _ h.hr
theorem Ps.set (h : Ps w W rb xb kb ⟨op, a, i, t⟩) (j : Nat) (z : Value) (y : InsV) (hy : y.op = op) (he : (insC ⟨op, a, i, t⟩).setIfInBounds j z = insC y) : Ps w (W.setCell ⟨xb, j, none⟩ z) rb xb kb y :=
  ⟨h.low.setCell (p := ⟨xb, j, none⟩) h.x0 _, (heap_setCell_other W ⟨xb, j, none⟩ rb z h.rx).trans h.hr, (heap_setCell_same W xb j _ _ z h.hx).trans (by rw [he]), (heap_setCell_other W ⟨xb, j, none⟩ kb z h.xk.symm).trans (by rw [hy]; exact h.hk), h.r0, h.x0, h.rx, h.rk, h.xk⟩
theorem Ps.setA (h : Ps w W rb xb kb ⟨op, a, i, t⟩) (v : Int) : Ps w (W.setCell ⟨xb, 1, none⟩ (.int .i64 v)) rb xb kb ⟨op, v, i, t⟩ := h.set 1 _ _ rfl rfl
theorem Ps.setI (h : Ps w W rb xb kb ⟨op, a, i, t⟩) (v : Int) : Ps w (W.setCell ⟨xb, 2, none⟩ (.int .i64 v)) rb xb kb ⟨op, a, v, t⟩ := h.set 2 _ _ rfl rfl
theorem Ps.setT (h : Ps w W rb xb kb ⟨op, a, i, t⟩) (u : ByteArray) : Ps w (W.setCell ⟨xb, 3, none⟩ (.string u)) rb xb kb ⟨op, a, i, u⟩ := h.set 3 _ _ rfl rfl
end
theorem behindL_no {op : Nat} {rest : List UInt8} (h : aK op = 0) : behindL op rest = rest := if_pos h
theorem behindL_is {op : Nat} {rest : List UInt8} (h : ¬ aK op = 0) : behindL op rest = (cutL rest 32).2.1 := if_neg h
theorem aL_no {op : Nat} {rest : List UInt8} (h : aK op = 0) : aL op rest = 0 := if_pos h
theorem aL_is {op : Nat} {rest : List UInt8} (h : ¬ aK op = 0) : aL op rest = readVal (cutL rest 32).1 := if_neg h
theorem failL_no {op : Nat} {rest : List UInt8} (h : aK op = 0) : failL op rest = false := by unfold failL; rw [decide_eq_false (by simp [h])]; rfl
theorem failL_ok {op : Nat} {rest : List UInt8} (h1 : readErr (cutL rest 32).1 = 0) (h2 : ¬ readVal (cutL rest 32).1 < 0) : failL op rest = false := by
  unfold failL; rw [decide_eq_false (p := readErr (cutL rest 32).1 ≠ 0) (by simp [h1]), decide_eq_false h2]; simp
theorem failL_e {op : Nat} {rest : List UInt8} (h : ¬ aK op = 0) (h1 : readErr (cutL rest 32).1 ≠ 0) : failL op rest = true := by
  unfold failL; rw [decide_eq_true h, decide_eq_true h1]; simp
theorem failL_n {op : Nat} {rest : List UInt8} (h : ¬ aK op = 0) (h2 : readVal (cutL rest 32).1 < 0) : failL op rest = true := by
  unfold failL; rw [decide_eq_true h, decide_eq_true h2]; simp
theorem parseO_fail {k op : Nat} {rest l : List UInt8} (h : failL op rest = true) : parseO k op rest l = (⟨op, 0, 0, ⟨#[]⟩⟩, false) := if_pos h
theorem parseO_ok {k op : Nat} {rest l : List UInt8} (h : failL op rest = false) : parseO k op rest l = (fullL op rest, isK op && decide (lineS k (fullL op rest) = l)) := by unfold parseO; rw [h]; rfl
theorem intL_no {op : Nat} {l : List UInt8} (h : numK op = false) : intL op l = 0 := by unfold intL; rw [h]; rfl
theorem intL_is {op : Nat} {l : List UInt8} (h : numK op = true) : intL op l = readVal l := by unfold intL; rw [h]; rfl
theorem textL_no {op : Nat} {l : List UInt8} (h : textK op = 0) : textL op l = ⟨#[]⟩ := by unfold textL; rw [if_neg (by omega), if_neg (by omega)]
theorem textL_any {op : Nat} {l : List UInt8} (h : textK op = 1) : textL op l = sp (unqS l) := by unfold textL; rw [if_neg (by omega), if_pos h]
theorem textL_name {op : Nat} {l : List UInt8} (h : textK op = 2) : textL op l = sp l := by unfold textL; rw [if_pos h]
theorem textK_cases (op : Nat) : textK op = 0 ∨ textK op = 1 ∨ textK op = 2 := by
  unfold textK
  (repeat' split) <;> simp
theorem tB_110 (op : Nat) : (tB op == 110) = decide (textK op = 2) := by
  unfold tB
  rcases textK_cases op with h | h | h <;> rw [h] <;> rfl
theorem tB_120 (op : Nat) : (tB op == 120) = decide (textK op = 1) := by
  unfold tB
  rcases textK_cases op with h | h | h <;> rw [h] <;> rfl
theorem num_text {op : Nat} (h : numK op = true) : textK op = 0 := by
  have : op = 23 := by simpa [numK] using h
  subst this; rfl
/-- The word of an instruction is there just if there is such. -/
theorem words_is (op : Nat) : (wordK op).toList.isEmpty = !isK op := word_none op
/-- A whole number is read within bounds. -/
theorem readVal_in (l : List UInt8) : -9223372036854775808 ≤ readVal l ∧ readVal l ≤ 9223372036854775807 := by
  unfold readVal
  split
  · rename_i h
    simp only [Bool.and_eq_true] at h
    have h2 := h.2
    unfold readOk at h2
    split at h2
    · rename_i hn
      rw [if_pos hn]
      simp only [decide_eq_true_eq] at h2
      omega
    · rename_i hn
      rw [if_neg hn]
      simp only [decide_eq_true_eq] at h2
      omega
  · omega
theorem aL_in {op : Nat} {rest : List UInt8} (h : failL op rest = false) : 0 ≤ aL op rest ∧ aL op rest ≤ 9223372036854775807 := by
  by_cases hA : aK op = 0
  · rw [aL_no hA]; omega
  · rw [aL_is hA]
    refine ⟨?_, (readVal_in _).2⟩
    by_cases hn : readVal (cutL rest 32).1 < 0
    · rw [failL_n hA hn] at h; cases h
    · omega
theorem intL_in (op : Nat) (l : List UInt8) : -9223372036854775808 ≤ intL op l ∧ intL op l ≤ 9223372036854775807 := by
  cases h : numK op with
  | true => rw [intL_is h]; exact readVal_in l
  | false => rw [intL_no h]; omega
theorem textL_len (op : Nat) (l : List UInt8) : (textL op l).size ≤ l.length := by
  rcases textK_cases op with h | h | h
  · rw [textL_no h]; exact Nat.zero_le _
  · rw [textL_any h, sp_size]; exact unqS_len l
  · rw [textL_name h, sp_size]; exact Nat.le_refl _
theorem same_text (l : List UInt8) (s : ByteArray) : ((sp l).toList == s.toList) = decide (l = s.data.toList) := by
  rw [ByteArray.toList_eq, ByteArray.toList_eq]
  show (l == s.data.toList) = _
  by_cases h : l = s.data.toList
  · rw [beq_iff_eq.2 h, decide_eq_true h]
  · rw [beq_eq_false_iff_ne.2 h, decide_eq_false h]
theorem keep4 {w : World} {rb b o : Nat} {v x0 x1 x2 x3 : Value} (h : w.cell? ⟨b, o, none⟩ = some v) (hb : b ≠ rb) :
    ((((w.setCell ⟨rb, 0, none⟩ x0).setCell ⟨rb, 1, none⟩ x1).setCell ⟨rb, 2, none⟩ x2).setCell ⟨rb, 3, none⟩ x3).cell? ⟨b, o, none⟩ = some v := by
  have one : ∀ (W : World) (j : Nat) (x : Value), (W.setCell ⟨rb, j, none⟩ x).cell? ⟨b, o, none⟩ = W.cell? ⟨b, o, none⟩ := fun W j x =>
    World.cell?_of_block (a := ⟨b, o, none⟩) (heap_setCell_other W ⟨rb, j, none⟩ b x hb)
  rw [one, one, one, one]; exact h
end Go.Proofs.YtefijgdbnjmifaaDoor
namespace Go.Proofs.YtefijgdbnjmifaaDoor
open Go.RowKit

/-- All lines are read: is all right? -/
def unlEnd (c : List InsV) : List InsV × Nat × Int :=
  match (List.range c.length).find? (fun i => !rightI (atV c i).ins c.length) with
  | some i => ([], i, 9)
  | none => (c, 0, 0)
def lineOk (k : Nat) (l : List UInt8) : Bool := (cutL l 10).2.2 && (parseS k (cutL l 10).1).2 && apartS (parseS k (cutL l 10).1).1
/-- From here on: n rounds at most. -/
def unlTo : Nat → List InsV → List UInt8 → List InsV × Nat × Int
  | 0, c, _ => unlEnd c
  | n + 1, c, l =>
    if l.length = 0 then unlEnd c
    else if c.length = 8192 then ([], 8192, 2)
    else if lineOk c.length l then unlTo n (c ++ [(parseS c.length (cutL l 10).1).1]) (cutL l 10).2.1
    else ([], c.length, 9)
def unlS (l : List UInt8) : List InsV × Nat × Int := if 1048576 < l.length then ([], 0, 2) else unlTo l.length [] l
theorem unlTo_nil {n : Nat} {c : List InsV} {l : List UInt8} (h : l.length = 0) : unlTo n c l = unlEnd c := by
  cases n with
  | zero => rfl
  | succ n => unfold unlTo; rw [if_pos h]
theorem unlTo_long {n : Nat} {c : List InsV} {l : List UInt8} (h : 0 < l.length) (hn : l.length ≤ n) (hc : c.length = 8192) : unlTo n c l = ([], 8192, 2) := by
  cases n with
  | zero => omega
  | succ n => unfold unlTo; rw [if_neg (by omega), if_pos hc]
theorem unlTo_bad {n : Nat} {c : List InsV} {l : List UInt8} (h : 0 < l.length) (hn : l.length ≤ n) (hc : c.length ≠ 8192) (hb : lineOk c.length l = false) : unlTo n c l = ([], c.length, 9) := by
  cases n with
  | zero => omega
  | succ n => unfold unlTo; rw [if_neg (by omega), if_neg hc, hb]; rfl
/-- Cutting at a byte, byte by byte. -/
def cutR (c : UInt8) : List UInt8 → List UInt8 × List UInt8 × Bool
  | [] => ([], [], false)
  | b :: l => if b = c then ([], l, true) else (b :: (cutR c l).1, (cutR c l).2.1, (cutR c l).2.2)
theorem cutL_eq (c : UInt8) : ∀ l : List UInt8, cutL l c = cutR c l
  | [] => by simp [cutL, cutR, Lib.cut, Lib.index]
  | b :: l => by
    have ih := cutL_eq c l
    have hx : Lib.index (b :: l) [c] = if b = c then 0 else if Lib.index l [c] == -1 then -1 else Lib.index l [c] + 1 := by
      show (if [c].isPrefixOf (b :: l) then (0 : Int) else _) = _
      by_cases h : b = c
      · subst h; simp [List.isPrefixOf]
      · rw [if_neg (c := b = c) h, if_neg]
        simp only [List.isPrefixOf, Bool.and_true, beq_iff_eq]
        exact fun e => h e.symm
    unfold cutR
    by_cases h : b = c
    · rw [if_pos h] at hx ⊢
      unfold cutL Lib.cut
      rw [hx]
      simp
    · rw [if_neg h] at hx ⊢
      have hg := Lib.index_ge l [c]
      rw [← ih]
      by_cases h1 : Lib.index l [c] = -1
      · rw [h1] at hx
        unfold cutL Lib.cut
        rw [hx, h1]; simp
      · have e1 : (Lib.index l [c] == -1) = false := beq_eq_false_iff_ne.2 h1
        have e2 : (Lib.index l [c] + 1).toNat = (Lib.index l [c]).toNat + 1 := by omega
        rw [e1, if_neg (by simp)] at hx
        unfold cutL Lib.cut
        rw [hx, if_pos (by omega), if_pos (by omega), e2]
        simp
theorem cutR_rest (c : UInt8) : ∀ l : List UInt8, (cutR c l).2.2 = true → (cutR c l).2.1.length < l.length ∧ l = (cutR c l).1 ++ c :: (cutR c l).2.1
  | [], h => by simp [cutR] at h
  | b :: l, h => by
    unfold cutR at h ⊢
    by_cases hb : b = c
    · rw [if_pos hb]; simp [hb]
    · rw [if_neg hb] at h ⊢
      have ih := cutR_rest c l h
      refine ⟨by simp only [List.length_cons]; omega, ?_⟩
      show b :: l = b :: ((cutR c l).1 ++ c :: (cutR c l).2.1)
      rw [← ih.2]
theorem cutL_rest {l : List UInt8} {c : UInt8} (h : (cutL l c).2.2 = true) : (cutL l c).2.1.length < l.length ∧ l = (cutL l c).1 ++ c :: (cutL l c).2.1 := by
  rw [cutL_eq] at h ⊢
  exact cutR_rest c l h
theorem cutR_at {c : UInt8} (r : List UInt8) : ∀ a : List UInt8, c ∉ a → cutR c (a ++ c :: r) = (a, r, true)
  | [], _ => by simp [cutR]
  | b :: a, h => by
    have hb : b ≠ c := fun e => h (by simp [e])
    have ih := cutR_at r a (fun e => h (List.mem_cons_of_mem _ e))
    rw [List.cons_append]
    show (if b = c then _ else _) = _
    rw [if_neg hb, ih]
theorem cutR_no {c : UInt8} : ∀ a : List UInt8, c ∉ a → cutR c a = (a, [], false)
  | [], _ => rfl
  | b :: a, h => by
    have hb : b ≠ c := fun e => h (by simp [e])
    have ih := cutR_no a (fun e => h (List.mem_cons_of_mem _ e))
    show (if b = c then _ else _) = _
    rw [if_neg hb, ih]
theorem unlTo_more {n : Nat} {c : List InsV} {l : List UInt8} (h : 0 < l.length) (hn : l.length ≤ n) (hc : c.length ≠ 8192) (hb : lineOk c.length l = true) :
    ∃ m, (cutL l 10).2.1.length ≤ m ∧ unlTo n c l = unlTo m (c ++ [(parseS c.length (cutL l 10).1).1]) (cutL l 10).2.1 := by
  have hr := hb
  unfold lineOk at hr
  simp only [Bool.and_eq_true] at hr
  have := (cutL_rest hr.1.1).1
  cases n with
  | zero => omega
  | succ n =>
    refine ⟨n, by omega, ?_⟩
    show (if _ then _ else _) = _
    rw [if_neg (by omega), if_neg hc, if_pos hb]
theorem unlEnd_bad {c : List InsV} {i : Nat} (hi : i < c.length) (hl : ∀ j, j < i → rightI (atV c j).ins c.length = true) (h : rightI (atV c i).ins c.length = false) : unlEnd c = ([], i, 9) := by
  have : (List.range c.length).find? (fun i => !rightI (atV c i).ins c.length) = some i := by
    rw [List.find?_range_eq_some]
    exact ⟨by simp [h], by simpa using hi, fun j hj => by simp [hl j hj]⟩
  unfold unlEnd; rw [this]
theorem unlEnd_ok {c : List InsV} (hl : ∀ j, j < c.length → rightI (atV c j).ins c.length = true) : unlEnd c = (c, 0, 0) := by
  have : (List.range c.length).find? (fun i => !rightI (atV c i).ins c.length) = none := by
    rw [List.find?_eq_none]
    intro x hx
    simp [hl x (by simpa using hx)]
  unfold unlEnd; rw [this]
/-- What reading a text as code comes to. -/
def UPost14 (l : List UInt8) (w : World) (e : Ending) (w' : World) : Prop :=
  ∃ (A : Option Addr) (cc : Nat), e = .returned (.tuple #[.slice A (unlS l).1.length cc, .int .i64 ((unlS l).2.1 : Int), .int .i64 (unlS l).2.2]) ∧ CodeIn w' A (unlS l).1 ∧ Below w.heap.size w w'
theorem upost_none {l : List UInt8} {w w' : World} {p : Nat} {er z : Int} (h : unlS l = ([], p, er)) (hz : z = (p : Int)) (hb : Below w.heap.size w w') : UPost14 l w (.returned (.tuple #[.slice none 0 0, .int .i64 z, .int .i64 er])) w' := by
  subst hz
  refine ⟨none, 0, ?_, ?_, hb⟩
  · rw [h]; rfl
  · rw [h]; exact fun hn => absurd hn (by simp)
theorem upost_some {l : List UInt8} {w w' : World} {k cc : Nat} {A : Option Addr} {c : List InsV} (h : unlS l = (c, 0, 0)) (hl : c.length = k) (hc : CodeIn w' A c) (hb : Below w.heap.size w w') : UPost14 l w (.returned (.tuple #[.slice A k cc, .int .i64 0, .int .i64 0])) w' := by
  subst hl
  refine ⟨A, cc, ?_, ?_, hb⟩
  · rw [h]; rfl
  · rw [h]; exact hc
end Go.Proofs.YtefijgdbnjmifaaDoor

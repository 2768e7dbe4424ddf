/- Plain: a right tree's code has a depth for each place. -/
import Derived.Test.YtjfdokoigkdciaaRgtP
namespace Go.Proofs.Ytjfdokoigkdciaa
open Go.RowKit

/-- The code c stands in C from a place on; the depths l in L. -/
def At (C : List InsV) (fr : Nat) (c : List InsV) : Prop := ∀ k, k < c.length → atV C (fr + k) = atV c k
def LAt (L : Nat → Int) (fr : Nat) (l : List Int) : Prop := ∀ k, k < l.length → L (fr + k) = l.getD k 0
theorem At.left {C : List InsV} {fr : Nat} {a b : List InsV} (h : At C fr (a ++ b)) : At C fr a := fun k hk => by
  rw [h k (by rw [List.length_append]; omega)]
  unfold atV
  simp only [List.getD, List.getElem?_append_left hk]
theorem At.right {C : List InsV} {fr : Nat} {a b : List InsV} (h : At C fr (a ++ b)) : At C (fr + a.length) b := fun k hk => by
  rw [Nat.add_assoc, h (a.length + k) (by rw [List.length_append]; omega)]
  unfold atV
  simp only [List.getD, List.getElem?_append_right (show a.length ≤ a.length + k by omega), Nat.add_sub_cancel_left]
theorem At.one {C : List InsV} {fr : Nat} {x : InsV} (h : At C fr [x]) : atV C fr = x := h 0 (by simp)
theorem LAt.left {L : Nat → Int} {fr : Nat} {a b : List Int} (h : LAt L fr (a ++ b)) : LAt L fr a := fun k hk => by
  rw [h k (by rw [List.length_append]; omega)]
  simp only [List.getD, List.getElem?_append_left hk]
theorem LAt.right {L : Nat → Int} {fr : Nat} {a b : List Int} (h : LAt L fr (a ++ b)) : LAt L (fr + a.length) b := fun k hk => by
  rw [Nat.add_assoc, h (a.length + k) (by rw [List.length_append]; omega)]
  simp only [List.getD, List.getElem?_append_right (show a.length ≤ a.length + k by omega), Nat.add_sub_cancel_left]
theorem LAt.one {L : Nat → Int} {fr : Nat} {x : Int} (h : LAt L fr [x]) : L fr = x := h 0 (by simp)
theorem At.to {C : List InsV} {fr : Nat} {c : List InsV} (h : At C fr c) (fr' : Nat) (e : fr = fr') : At C fr' c := e ▸ h
theorem LAt.to {L : Nat → Int} {fr : Nat} {l : List Int} (h : LAt L fr l) (fr' : Nat) (e : fr = fr') : LAt L fr' l := e ▸ h
def Fit (n : Nat) (L : Nat → Int) (C : List InsV) (fr m : Nat) : Prop := ∀ p, fr ≤ p → p < fr + m → PlOk n L C p
theorem Fit.append {n : Nat} {L : Nat → Int} {C : List InsV} {fr m k : Nat} (h : Fit n L C fr m) (h2 : Fit n L C (fr + m) k) : Fit n L C fr (m + k) := fun p h3 h4 => by
  by_cases h5 : p < fr + m
  · exact h p h3 h5
  · exact h2 p (by omega) (by omega)
theorem Fit.one {n : Nat} {L : Nat → Int} {C : List InsV} {fr : Nat} (h : PlOk n L C fr) : Fit n L C fr 1 := fun p h3 h4 => by
  obtain rfl : p = fr := by omega
  exact h
/-- What a tree leaves on the stack. -/
def dl (op : Nat) : Int := if exprO op then 1 else 0
/-- A piece of code that begins at depth s and ends at depth e has a depth for each place. -/
def Dp (c : List InsV) (fr : Nat) (s e : Int) : Prop := ∃ l : List Int, l.length = c.length ∧ ∀ (n : Nat) (L : Nat → Int) (C : List InsV), At C fr c → LAt L fr l → L (fr + c.length) = e → fr + c.length < n → Fit n L C fr c.length ∧ L fr = s
theorem Dp.nil {fr : Nat} {s : Int} : Dp [] fr s s := ⟨[], rfl, fun n L C _ _ h _ => ⟨fun p h1 h2 => by simp at h2; omega, h⟩⟩
theorem Dp.append {a b : List InsV} {fr : Nat} {s m e : Int} (h1 : Dp a fr s m) (h2 : Dp b (fr + a.length) m e) : Dp (a ++ b) fr s e := by
  obtain ⟨la, e1, f1⟩ := h1
  obtain ⟨lb, e2, f2⟩ := h2
  refine ⟨la ++ lb, by simp [e1, e2], fun n L C hA hL hE hn => ?_⟩
  rw [List.length_append] at hE hn ⊢
  have hL2 := hL.right
  rw [e1] at hL2
  obtain ⟨g1, g2⟩ := f2 n L C hA.right hL2 (by rw [Nat.add_assoc]; exact hE) (by omega)
  obtain ⟨g3, g4⟩ := f1 n L C hA.left hL.left g2 (by omega)
  exact ⟨g3.append g1, g4⟩
/-- One instruction that is no jump. -/
theorem Dp.one {x : InsV} {fr : Nat} {s e : Int} (hs : 0 ≤ s) (hr : ∀ n : Int, rightI x.ins n = true) (hk : aK x.op ≠ 1) (h1 : endsK x.op = true → s = takesI x.ins) (h2 : endsK x.op = false → takesI x.ins ≤ s ∧ nextI x.ins s = e) : Dp [x] fr s e := by
  refine ⟨[s], rfl, fun n L C hA hL hE hn => ?_⟩
  have ha := hA.one
  have hl := hL.one
  simp only [List.length_cons, List.length_nil, Nat.zero_add] at hE hn ⊢
  refine ⟨Fit.one ⟨?_, ?_, ?_, ?_, ?_, ?_, ?_⟩, hl⟩
  all_goals (try rw [ha])
  · exact hr _
  · rw [hl]; exact hs
  · rw [hl]; exact h1
  · rw [hl]; exact fun h => (h2 h).1
  · exact fun _ h => absurd h hk
  · intro h3 _
    rw [hE, hl]
    exact ⟨hn, (h2 h3).2.symm⟩
  · intro h3
    exact absurd (by rw [h3]; rfl) hk
theorem jmp_ok {n : Nat} {L : Nat → Int} {C : List InsV} {p op v : Nat} (h : atV C p = insA op (v : Int)) (hop : op = 1 ∨ op = 2 ∨ op = 3 ∨ op = 4 ∨ op = 53) (hv : v < n) (h0 : takesK op ≤ L p) (ht : L v = thereI (insA op (v : Int)).ins (L p))
    (hn : op ≠ 1 → p + 1 < n ∧ L (p + 1) = nextI (insA op (v : Int)).ins (L p)) (hj : op = 1 → p < v ∨ ((atV C v).op ≠ 1 ∧ (atV C v).op ≠ 5)) : PlOk n L C p := by
  have hk : aK op = 1 := by rcases hop with e | e | e | e | e <;> rw [e] <;> rfl
  have he : endsK op = false := by rcases hop with e | e | e | e | e <;> rw [e] <;> rfl
  have hi : isK op = true := by rcases hop with e | e | e | e | e <;> rw [e] <;> rfl
  have htx : textK op = 0 := by rcases hop with e | e | e | e | e <;> rw [e] <;> rfl
  have hto : (insA op (v : Int)).ins.op = op := rfl
  have hta : (insA op (v : Int)).ins.a = (v : Int) := rfl
  have htk : takesI (insA op (v : Int)).ins = takesK op := by unfold takesI; rw [hto, if_neg (by omega)]
  have hv2 : (insA op (v : Int)).a.toNat = v := by show ((v : Int)).toNat = v; omega
  refine ⟨?_, ?_, ?_, ?_, ?_, ?_, ?_⟩
  all_goals (try rw [h])
  · unfold rightI topK textOk
    rw [hto, hta, hk, hi, htx]
    have : (insA op (v : Int)).ins.int = 0 := rfl
    rw [this]
    have h2 : (insA op (v : Int)).ins.text = [] := rfl
    rw [h2]
    simp; omega
  · have := takesK_nn op; omega
  · intro e; rw [show (insA op (v : Int)).op = op from rfl, he] at e; cases e
  · intro _; rw [htk]; exact h0
  · intro _ _; rw [hv2]; exact ⟨hv, ht⟩
  · exact fun _ => hn
  · rw [hv2]; exact hj
theorem Dp.while {a b : List InsV} {fr : Nat} {s : Int} (hs : 0 ≤ s) (ha : Dp a fr s (s + 1)) (hb : Dp b (fr + a.length + 1) s s) (hd : (atV a 0).op ≠ 1 ∧ (atV a 0).op ≠ 5 ∧ 0 < a.length) :
    Dp (a ++ [insA 2 ((fr + a.length + 1 + b.length + 1 : Nat) : Int)] ++ b ++ [insA 1 ((fr : Nat) : Int)]) fr s s := by
  obtain ⟨la, e1, f1⟩ := ha
  obtain ⟨lb, e2, f2⟩ := hb
  refine ⟨la ++ [s + 1] ++ lb ++ [s], by simp [e1, e2], fun n L C hA hL hE hn => ?_⟩
  have A1 := hA.left.left.left
  have A2 := hA.left.left.right
  have A3 := hA.left.right.to (fr + a.length + 1) (by simp <;> omega)
  have A4 := hA.right.to (fr + a.length + 1 + b.length) (by simp <;> omega)
  have L1 := hL.left.left.left
  have L2 := hL.left.left.right.to (fr + a.length) (by simp <;> omega)
  have L3 := hL.left.right.to (fr + a.length + 1) (by simp <;> omega)
  have L4 := hL.right.to (fr + a.length + 1 + b.length) (by simp <;> omega)
  simp only [List.length_append, List.length_cons, List.length_nil, Nat.zero_add, ← Nat.add_assoc] at hE hn ⊢
  obtain ⟨g1, g2⟩ := f1 n L C A1 L1 L2.one (by omega)
  obtain ⟨g3, g4⟩ := f2 n L C A3 L3 L4.one (by omega)
  refine ⟨?_, g2⟩
  have P2 := jmp_ok (L := L) A2.one (by omega) (show fr + a.length + 1 + b.length + 1 < n by omega) (by rw [L2.one]; show (1 : Int) ≤ s + 1; omega) (by rw [hE, L2.one]; show s = s + 1 - 1 + 0; omega) (fun _ => ⟨by omega, by rw [g4, L2.one]; show s = s + 1 - 1 + 0; omega⟩) (fun h => by cases h)
  have P4 := jmp_ok (L := L) A4.one (by omega) (show fr < n by omega) (by rw [L4.one]; exact hs) (by rw [g2, L4.one]; show s = s - 0 + 0; omega) (fun h => absurd rfl h) (fun _ => .inr (by have := A1 0 hd.2.2; rw [Nat.add_zero] at this; rw [this]; exact ⟨hd.1, hd.2.1⟩))
  exact ((g1.append (Fit.one P2)).append (by rw [← Nat.add_assoc]; exact g3)).append (by simp only [← Nat.add_assoc]; exact Fit.one P4)
theorem Dp.ifs {a b : List InsV} {fr : Nat} {s : Int} (ha : Dp a fr s (s + 1)) (hb : Dp b (fr + a.length + 1) s s) (hs : 0 ≤ s) :
    Dp (a ++ [insA 2 ((fr + a.length + 1 + b.length : Nat) : Int)] ++ b) fr s s := by
  obtain ⟨la, e1, f1⟩ := ha
  obtain ⟨lb, e2, f2⟩ := hb
  refine ⟨la ++ [s + 1] ++ lb, by simp [e1, e2], fun n L C hA hL hE hn => ?_⟩
  have A1 := hA.left.left
  have A2 := hA.left.right
  have A3 := hA.right.to (fr + a.length + 1) (by simp <;> omega)
  have L1 := hL.left.left
  have L2 := hL.left.right.to (fr + a.length) (by simp <;> omega)
  have L3 := hL.right.to (fr + a.length + 1) (by simp <;> omega)
  simp only [List.length_append, List.length_cons, List.length_nil, Nat.zero_add, ← Nat.add_assoc] at hE hn ⊢
  obtain ⟨g1, g2⟩ := f1 n L C A1 L1 L2.one (by omega)
  obtain ⟨g3, g4⟩ := f2 n L C A3 L3 hE (by omega)
  refine ⟨?_, g2⟩
  have P2 := jmp_ok (L := L) A2.one (by omega) (show fr + a.length + 1 + b.length < n by omega) (by rw [L2.one]; show (1 : Int) ≤ s + 1; omega) (by rw [hE, L2.one]; show s = s + 1 - 1 + 0; omega) (fun _ => ⟨by omega, by rw [g4, L2.one]; show s = s + 1 - 1 + 0; omega⟩) (fun h => by cases h)
  exact (g1.append (Fit.one P2)).append (by rw [← Nat.add_assoc]; exact g3)
theorem Dp.ifelse {a b c : List InsV} {fr : Nat} {s : Int} (ha : Dp a fr s (s + 1)) (hb : Dp b (fr + a.length + 1) s s) (hc : Dp c (fr + a.length + 1 + b.length + 1) s s) (hs : 0 ≤ s) :
    Dp (a ++ [insA 2 ((fr + a.length + 1 + b.length + 1 : Nat) : Int)] ++ b ++ [insA 1 ((fr + a.length + 1 + b.length + 1 + c.length : Nat) : Int)] ++ c) fr s s := by
  obtain ⟨la, e1, f1⟩ := ha
  obtain ⟨lb, e2, f2⟩ := hb
  obtain ⟨lc, e3, f3⟩ := hc
  refine ⟨la ++ [s + 1] ++ lb ++ [s] ++ lc, by simp [e1, e2, e3], fun n L C hA hL hE hn => ?_⟩
  have A1 := hA.left.left.left.left
  have A2 := hA.left.left.left.right
  have A3 := hA.left.left.right.to (fr + a.length + 1) (by simp <;> omega)
  have A4 := hA.left.right.to (fr + a.length + 1 + b.length) (by simp <;> omega)
  have A5 := hA.right.to (fr + a.length + 1 + b.length + 1) (by simp <;> omega)
  have L1 := hL.left.left.left.left
  have L2 := hL.left.left.left.right.to (fr + a.length) (by simp <;> omega)
  have L3 := hL.left.left.right.to (fr + a.length + 1) (by simp <;> omega)
  have L4 := hL.left.right.to (fr + a.length + 1 + b.length) (by simp <;> omega)
  have L5 := hL.right.to (fr + a.length + 1 + b.length + 1) (by simp <;> omega)
  simp only [List.length_append, List.length_cons, List.length_nil, Nat.zero_add, ← Nat.add_assoc] at hE hn ⊢
  obtain ⟨g1, g2⟩ := f1 n L C A1 L1 L2.one (by omega)
  obtain ⟨g3, g4⟩ := f2 n L C A3 L3 L4.one (by omega)
  obtain ⟨g5, g6⟩ := f3 n L C A5 L5 hE (by omega)
  refine ⟨?_, g2⟩
  have P2 := jmp_ok (L := L) A2.one (by omega) (show fr + a.length + 1 + b.length + 1 < n by omega) (by rw [L2.one]; show (1 : Int) ≤ s + 1; omega) (by rw [g6, L2.one]; show s = s + 1 - 1 + 0; omega) (fun _ => ⟨by omega, by rw [g4, L2.one]; show s = s + 1 - 1 + 0; omega⟩) (fun h => by cases h)
  have P4 := jmp_ok (L := L) A4.one (by omega) (show fr + a.length + 1 + b.length + 1 + c.length < n by omega) (by rw [L4.one]; exact hs) (by rw [hE, L4.one]; show s = s - 0 + 0; omega) (fun h => absurd rfl h) (fun _ => .inl (by omega))
  exact (((g1.append (Fit.one P2)).append (by rw [← Nat.add_assoc]; exact g3)).append (by simp only [← Nat.add_assoc]; exact Fit.one P4)).append (by simp only [← Nat.add_assoc]; exact g5)
theorem Dp.oper {a b : List InsV} {fr op : Nat} {s : Int} (ho : op = 3 ∨ op = 4) (hs : 0 ≤ s) (ha : Dp a fr s (s + 1)) (hb : Dp b (fr + a.length + 1) s (s + 1)) :
    Dp (a ++ [insA op ((fr + a.length + 1 + b.length + 1 : Nat) : Int)] ++ b ++ [insO 5]) fr s (s + 1) := by
  obtain ⟨la, e1, f1⟩ := ha
  obtain ⟨lb, e2, f2⟩ := hb.append (Dp.one (x := insO 5) (e := s + 1) (by omega) (fun n => rfl) (by decide) (fun h => by cases h) (fun _ => ⟨by show (1 : Int) ≤ s + 1; omega, by show s + 1 - 1 + 1 = s + 1; omega⟩))
  rw [List.append_assoc _ b]
  refine ⟨la ++ [s + 1] ++ lb, by simp [e1, e2], fun n L C hA hL hE hn => ?_⟩
  have A1 := hA.left.left
  have A2 := hA.left.right
  have A3 := hA.right.to (fr + a.length + 1) (by simp <;> omega)
  have L1 := hL.left.left
  have L2 := hL.left.right.to (fr + a.length) (by simp <;> omega)
  have L3 := hL.right.to (fr + a.length + 1) (by simp <;> omega)
  simp only [List.length_append, List.length_cons, List.length_nil, Nat.zero_add, ← Nat.add_assoc] at hE hn f2 ⊢
  obtain ⟨g1, g2⟩ := f1 n L C A1 L1 L2.one (by omega)
  obtain ⟨g3, g4⟩ := f2 n L C A3 L3 hE (by omega)
  refine ⟨?_, g2⟩
  have P2 := jmp_ok (L := L) A2.one (by omega) (show fr + a.length + 1 + b.length + 1 < n by omega) (by rw [L2.one]; rcases ho with e | e <;> rw [e] <;> (show (1 : Int) ≤ s + 1; omega)) (by rw [hE, L2.one]; rcases ho with e | e <;> rw [e] <;> rfl) (fun _ => ⟨by omega, by rw [g4, L2.one]; rcases ho with e | e <;> rw [e] <;> (show s = s + 1 - 1 + 0; omega)⟩) (fun h => by omega)
  have := (g1.append (Fit.one P2)).append (by rw [← Nat.add_assoc]; exact g3)
  simpa only [← Nat.add_assoc] using this
theorem Dp.fork {b : List InsV} {fr : Nat} {s : Int} (hs : 0 ≤ s) (hb : Dp b (fr + 2) 0 0) :
    Dp ([insA 53 ((fr + 2 : Nat) : Int), insA 1 ((fr + 2 + b.length + 1 : Nat) : Int)] ++ b ++ [insO 28]) fr s (s + 1) := by
  obtain ⟨lb, e2, f2⟩ := hb
  refine ⟨[s, s + 1] ++ lb ++ [0], by simp [e2], fun n L C hA hL hE hn => ?_⟩
  have A0 := hA.left.left
  have A1 : atV C fr = _ := A0 0 (by simp)
  have A2 : atV C (fr + 1) = _ := A0 1 (by simp)
  have A3 := hA.left.right.to (fr + 2) (by simp)
  have A4 := hA.right.to (fr + 2 + b.length) (by simp <;> omega)
  have L0 := hL.left.left
  have L1 : L fr = s := L0 0 (by simp)
  have L2 : L (fr + 1) = s + 1 := L0 1 (by simp)
  have L3 := hL.left.right.to (fr + 2) (by simp)
  have L4 := hL.right.to (fr + 2 + b.length) (by simp <;> omega)
  simp only [List.length_append, List.length_cons, List.length_nil, Nat.zero_add, ← Nat.add_assoc] at hE hn ⊢
  obtain ⟨g3, g4⟩ := f2 n L C A3 L3 L4.one (by omega)
  refine ⟨?_, L1⟩
  have P1 := jmp_ok (L := L) A1 (by omega) (show fr + 2 < n by omega) (by rw [L1]; exact hs) (by rw [g4]; rfl) (fun _ => ⟨by omega, by rw [L2, L1]; show s + 1 = s - 0 + 1; omega⟩) (fun h => by cases h)
  have P2 := jmp_ok (L := L) A2 (by omega) (show fr + 2 + b.length + 1 < n by omega) (by rw [L2]; show (0 : Int) ≤ s + 1; omega) (by rw [show fr + 2 + b.length + 1 = fr + 1 + 1 + b.length + 1 by omega] at *; rw [hE, L2]; show s + 1 = s + 1 - 0 + 0; omega) (fun h => absurd rfl h) (fun _ => .inl (by omega))
  have P4 : PlOk n L C (fr + 2 + b.length) := by
    have ha := A4.one
    have hl := L4.one
    refine ⟨?_, ?_, ?_, ?_, ?_, ?_, ?_⟩
    all_goals (try rw [ha])
    · rfl
    · rw [hl]; decide
    · intro _; rw [hl]; rfl
    · intro h; cases h
    · intro h; cases h
    · intro h; cases h
    · intro h; cases h
  have := (((Fit.one P1).append (Fit.one P2)).append (by rw [show fr + (1 + 1) = fr + 2 by omega]; exact g3)).append (by rw [show fr + (1 + 1 + b.length) = fr + 2 + b.length by omega]; exact Fit.one P4)
  simpa only [← Nat.add_assoc] using this
end Go.Proofs.Ytjfdokoigkdciaa

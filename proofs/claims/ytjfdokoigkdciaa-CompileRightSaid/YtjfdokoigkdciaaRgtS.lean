/- Plain: a right tree's code has a depth for each place: the tree; counts of forks and ends. -/
import Derived.Test.YtjfdokoigkdciaaRgtR
namespace Go.Proofs.Ytjfdokoigkdciaa
open Go.RowKit

theorem atV_left {a b : List InsV} {k : Nat} (h : k < a.length) : atV (a ++ b) k = atV a k := by
  unfold atV
  simp only [List.getD, List.getElem?_append_left h]
/-- Begins with what costs. -/
def Hd (c : List InsV) : Prop := (atV c 0).op ≠ 1 ∧ (atV c 0).op ≠ 5 ∧ 0 < c.length
theorem Hd.app {a : List InsV} (h : Hd a) (b : List InsV) : Hd (a ++ b) := by
  unfold Hd
  rw [atV_left h.2.2, List.length_append]
  exact ⟨h.1, h.2.1, by have := h.2.2; omega⟩
theorem part_expr {i n : Int} {op : Nat} (h : partOk 4 i n op = true) : exprO op = true := h
theorem part_block {i n : Int} {op : Nat} (h : partOk 5 i n op = true) : op = 3 := by
  have : decide (op = 3) = true := h
  simpa using this
theorem part_head {n : Int} {op : Nat} (h : partOk 3 0 n op = true) : exprO op = true := by
  unfold partOk at h
  simpa using h
theorem part_tail {i : Nat} {n : Int} {op : Nat} (hi : 0 < i) (h : partOk 3 (i : Int) n op = true) : op = 3 := by
  unfold partOk at h
  simp at h
  omega
theorem part_stmt {i n : Int} {op : Nat} (h : partOk 2 i n op = true) : stmtO op = true := h
theorem stmt_no {op : Nat} (h : stmtO op = true) : exprO op = false ∧ op ≠ 1 ∧ op ≠ 2 := by
  unfold stmtO at h
  unfold exprO
  simp at h ⊢
  omega
theorem expr_no {op : Nat} (h : exprO op = true) : op ≠ 1 ∧ op ≠ 2 ∧ op ≠ 3 ∧ op ≠ 6 ∧ op ≠ 7 := by
  unfold exprO at h
  simp at h
  omega
theorem spec_no {op : Nat} (h1 : op ≠ 1) (h2 : op ≠ 2) (h3 : op ≠ 3) (h6 : op ≠ 6) (h7 : op ≠ 7) (h30 : ¬ (op = 30 ∨ op = 31)) (h53 : op ≠ 53) : spec op = false := by
  unfold spec
  simp; omega
theorem callS_dp {nf : Nat → Nat → List InsV × Nat} {ks : Nat → Nat} {n : Nat} {d : Int} {Q : Int → Prop} (hq : ∀ s, Q s → Q (s + d)) (h : ∀ i fr s, i < n → Q s → (nf (ks i) fr).2 = ks (i + 1) ∧ Dp (nf (ks i) fr).1 fr s (s + d)) :
    ∀ (r i fr : Nat) (s : Int), i + r = n → Q s → Dp (callS nf r (ks i) fr).1 fr s (s + r * d)
  | 0, i, fr, s, _, _ => by
    rw [show s + ((0 : Nat) : Int) * d = s by simp]
    exact Dp.nil
  | r + 1, i, fr, s, hn, hs => by
    obtain ⟨e, hd⟩ := h i fr s (by omega) hs
    rw [callS, e]
    have ih := callS_dp hq h r (i + 1) (fr + (nf (ks i) fr).1.length) (s + d) (by omega) (hq s hs)
    rw [show s + ((r + 1 : Nat) : Int) * d = s + d + (r : Int) * d by rw [Int.natCast_add, Int.add_mul]; omega]
    exact hd.append ih
/-- What the cases of a tree's code share. -/
structure Kd (cs : List InsV) (slot : List Int) (f : Nat) (ks : Nat → Nat) (i : Nat) : Prop where
  e : ∀ fr, (compS cs slot f (ks i) fr).2 = ks (i + 1)
  h : exprO (atV cs (ks i)).op = true → ∀ fr, Hd (compS cs slot f (ks i) fr).1
  d : ∀ fr s, 0 ≤ s → (exprO (atV cs (ks i)).op = false → s = 0) → Dp (compS cs slot f (ks i) fr).1 fr s (s + dl (atV cs (ks i)).op)
theorem Kd.expr {cs : List InsV} {slot : List Int} {f : Nat} {ks : Nat → Nat} {i : Nat} (h : Kd cs slot f ks i) (ho : exprO (atV cs (ks i)).op = true) (fr : Nat) {s : Int} (hs : 0 ≤ s) : Dp (compS cs slot f (ks i) fr).1 fr s (s + 1) := by
  have := h.d fr s hs (fun e => by rw [ho] at e; cases e)
  unfold dl at this
  rwa [if_pos ho] at this
theorem Kd.stmt {cs : List InsV} {slot : List Int} {f : Nat} {ks : Nat → Nat} {i : Nat} (h : Kd cs slot f ks i) (ho : exprO (atV cs (ks i)).op = false) (fr : Nat) : Dp (compS cs slot f (ks i) fr).1 fr 0 0 := by
  have := h.d fr 0 (by decide) (fun _ => rfl)
  unfold dl at this
  rwa [if_neg (by rw [ho]; decide), Int.add_zero] at this
theorem comp_dp (cs : List InsV) (slot : List Int) (hsl : ∀ k, k < cs.length → ((atV cs k).op = 4 ∨ (atV cs k).op = 5 ∨ (atV cs k).op = 26) → 0 ≤ slot.getD k 0 ∧ slot.getD k 0 < 100) :
    ∀ (f at_ nx : Nat) (may : Nat → Bool), Rt cs f at_ nx may → (atV cs at_).op ≠ 2 → (atV cs at_).op ≠ 1 →
      (exprO (atV cs at_).op = true → ∀ fr, Hd (compS cs slot f at_ fr).1) ∧ (∀ fr s, 0 ≤ s → (exprO (atV cs at_).op = false → s = 0) → Dp (compS cs slot f at_ fr).1 fr s (s + dl (atV cs at_).op))
  | 0, _, _, _, h, _, _ => h.elim
  | f + 1, at_, nx, may, hr, h2, h1 => by
    have hlt := hr.lt
    obtain ⟨hl, hok, ks, k0, k1, k2⟩ := hr
    obtain ⟨_, hlo, hhi⟩ := tw_form hok
    have his := tw_is hok
    have hmay := fun i (hi : i < (atV cs at_).a.toNat) => (tw_form (rt_ok (k2 i hi))).1
    have kid : ∀ i, i < (atV cs at_).a.toNat → (atV cs (ks i)).op ≠ 1 → Kd cs slot f ks i := fun i hi hn1 => by
      have hn2 := part_no (form_pk h1) (hmay i hi)
      have ih := comp_dp cs slot hsl f (ks i) (ks (i + 1)) _ (k2 i hi) hn2 hn1
      exact ⟨fun fr => (comp_ok cs slot f (ks i) (ks (i + 1)) _ (k2 i hi) hn2 fr).e, ih.1, ih.2⟩
    have hslot := hsl at_ hl
    by_cases o6 : (atV cs at_).op = 6
    · rw [o6] at hmay hlo hhi ⊢
      rw [show formS 6 = ⟨1, 2, 3, 3⟩ from rfl] at hmay hlo hhi
      simp only at hmay hlo hhi
      refine ⟨(fun h => by cases h), fun fr s hs hs0 => ?_⟩
      obtain rfl : s = 0 := hs0 rfl
      have m0 := part_head (hmay 0 (by omega))
      have m1 := part_tail (by decide) (hmay 1 (by omega))
      have K0 := kid 0 (by omega) (expr_no m0).1
      have K1 := kid 1 (by omega) (by omega)
      have D0 := K0.expr m0 fr (s := 0) (by decide)
      have E0 := K0.e fr
      rw [k0] at D0 E0
      rw [compS]
      simp only
      rw [if_neg (by omega), if_pos o6, E0]
      have D1 := K1.stmt (by rw [m1]; rfl) (fr + (compS cs slot f (at_ + 1) fr).1.length + 1)
      have E1 := K1.e (fr + (compS cs slot f (at_ + 1) fr).1.length + 1)
      show Dp _ fr 0 0
      by_cases a3 : (atV cs at_).a = 3
      · rw [if_pos a3, E1]
        have m2 := part_tail (by decide) (hmay 2 (by omega))
        have K2 := kid 2 (by omega) (by omega)
        exact Dp.ifelse D0 D1 (K2.stmt (by rw [m2]; rfl) _) (by decide)
      · rw [if_neg a3]
        exact Dp.ifs D0 D1 (by decide)
    · by_cases o7 : (atV cs at_).op = 7
      · rw [o7] at hmay hlo hhi ⊢
        rw [show formS 7 = ⟨1, 2, 2, 3⟩ from rfl] at hmay hlo hhi
        simp only at hmay hlo hhi
        refine ⟨(fun h => by cases h), fun fr s hs hs0 => ?_⟩
        obtain rfl : s = 0 := hs0 rfl
        have m0 := part_head (hmay 0 (by omega))
        have m1 := part_tail (by decide) (hmay 1 (by omega))
        have K0 := kid 0 (by omega) (expr_no m0).1
        have K1 := kid 1 (by omega) (by omega)
        have D0 := K0.expr m0 fr (s := 0) (by decide)
        have H0 := K0.h m0 fr
        have E0 := K0.e fr
        rw [k0] at D0 E0 H0
        rw [compS]
        simp only
        rw [if_neg (by omega), if_neg o6, if_pos o7, E0]
        exact Dp.while (by decide) D0 (K1.stmt (by rw [m1]; rfl) _) H0
      · by_cases o3 : (atV cs at_).op = 30 ∨ (atV cs at_).op = 31
        · have hf : formS (atV cs at_).op = ⟨1, 2, 2, 4⟩ := by rcases o3 with e | e <;> rw [e] <;> rfl
          rw [hf] at hmay hlo hhi
          simp only at hmay hlo hhi
          have m0 := part_expr (hmay 0 (by omega))
          have m1 := part_expr (hmay 1 (by omega))
          have K0 := kid 0 (by omega) (expr_no m0).1
          have K1 := kid 1 (by omega) (expr_no m1).1
          have E0 := fun fr => K0.e fr
          have H0 := fun fr => K0.h m0 fr
          have D0 := fun fr (s : Int) (hs : 0 ≤ s) => K0.expr m0 fr hs
          rw [k0] at E0 H0 D0
          have hdl : dl (atV cs at_).op = 1 := by rcases o3 with e | e <;> rw [e] <;> rfl
          rw [hdl]
          constructor
          · intro _ fr
            rw [compS]
            simp only
            rw [if_neg (by omega), if_neg o6, if_neg o7, if_pos o3]
            exact (((H0 fr).app _).app _).app _
          · intro fr s hs _
            rw [compS]
            simp only
            rw [if_neg (by omega), if_neg o6, if_neg o7, if_pos o3, E0]
            exact Dp.oper (by by_cases e : (atV cs at_).op = 31 <;> simp [e]) hs (D0 fr s hs) (K1.expr m1 _ hs)
        · by_cases o53 : (atV cs at_).op = 53
          · rw [o53] at hmay hlo hhi
            rw [show formS 53 = ⟨1, 1, 1, 5⟩ from rfl] at hmay hlo hhi
            simp only at hmay hlo hhi
            have m0 := part_block (hmay 0 (by omega))
            have K0 := kid 0 (by omega) (by omega)
            have D0 := fun fr => K0.stmt (by rw [m0]; rfl) fr
            rw [k0] at D0
            rw [show dl (atV cs at_).op = 1 by rw [o53]; rfl]
            constructor
            · intro _ fr
              rw [compS]
              simp only
              rw [if_neg (by omega), if_neg o6, if_neg o7, if_neg o3, if_pos o53]
              exact ⟨by show (53 : Nat) ≠ 1; decide, by show (53 : Nat) ≠ 5; decide, by simp⟩
            · intro fr s hs _
              rw [compS]
              simp only
              rw [if_neg (by omega), if_neg o6, if_neg o7, if_neg o3, if_pos o53]
              exact Dp.fork hs (D0 (fr + 2))
          · by_cases ob : (atV cs at_).op = 3
            · rw [ob] at hmay ⊢
              rw [show formS 3 = ⟨1, 0, 2048, 2⟩ from rfl] at hmay
              simp only at hmay
              refine ⟨(fun h => by cases h), fun fr s hs hs0 => ?_⟩
              obtain rfl : s = 0 := hs0 rfl
              have D := callS_dp (nf := compS cs slot f) (ks := ks) (n := (atV cs at_).a.toNat) (d := 0) (Q := fun s => s = 0) (fun s h => by omega) (fun i fr s hi hs => by
                have m := stmt_no (part_stmt (hmay i hi))
                have K := kid i hi m.2.1
                subst hs
                exact ⟨K.e fr, K.stmt m.1 fr⟩) (atV cs at_).a.toNat 0 fr 0 (by omega) rfl
              rw [k0, Int.mul_zero] at D
              rw [compS]
              simp only
              rw [if_neg (by omega), if_neg o6, if_neg o7, if_neg o3, if_neg o53]
              have hp : plainI (atV cs at_) (slot.getD at_ 0) = [] := by unfold plainI; rw [if_pos ob]
              rw [hp, List.append_nil]
              exact D
            · have hsp := spec_no h1 h2 ob o6 o7 o3 o53
              have T := own_t his hsp
              obtain ⟨y, hy, HY⟩ := own_i (slot := slot.getD at_ 0) hok hsp hslot
              have hkx : ∀ i, i < (atV cs at_).a.toNat → exprO (atV cs (ks i)).op = true := fun i hi => by
                have hm := hmay i hi
                rcases T.pk with e | e
                · rw [e] at hm; exact part_expr hm
                · have := T.no e
                  exfalso
                  omega
              have row : ∀ fr, (compS cs slot (f + 1) at_ fr).1 = (callS (compS cs slot f) (atV cs at_).a.toNat (at_ + 1) fr).1 ++ [y] := fun fr => by
                rw [compS]
                simp only
                rw [if_neg (by omega), if_neg o6, if_neg o7, if_neg o3, if_neg o53, hy]
              have ha0 : 0 ≤ (atV cs at_).a := by
                have : 0 ≤ (formS (atV cs at_).op).lo := by
                  unfold formS
                  generalize formN (atV cs at_).op = n
                  unfold formR
                  split <;> decide
                omega
              constructor
              · intro _ fr
                rw [row]
                rcases hm : (atV cs at_).a.toNat with _ | m
                · unfold Hd
                  show (atV ([] ++ [y]) 0).op ≠ 1 ∧ _
                  refine ⟨?_, ?_, by simp [callS]⟩
                  · show y.op ≠ 1; rw [HY.op]; exact T.n1
                  · show y.op ≠ 5; rw [HY.op]; exact T.n5
                · have K0 := kid 0 (by omega) (expr_no (hkx 0 (by omega))).1
                  have H0 := K0.h (hkx 0 (by omega)) fr
                  rw [k0] at H0
                  rw [callS]
                  exact (H0.app _).app _
              · intro fr s hs hs0
                have D := callS_dp (nf := compS cs slot f) (ks := ks) (n := (atV cs at_).a.toNat) (d := 1) (Q := fun s => 0 ≤ s) (fun s h => by omega) (fun i fr s hi hs => by
                  have K := kid i hi (expr_no (hkx i hi)).1
                  exact ⟨K.e fr, K.expr (hkx i hi) fr hs⟩) (atV cs at_).a.toNat 0 fr s (by omega) hs
                rw [k0, show ((atV cs at_).a.toNat : Int) * 1 = (atV cs at_).a by omega] at D
                rw [row]
                refine D.append (Dp.one (by omega) HY.rt (by rw [HY.op]; exact T.ak) ?_ ?_)
                · intro he
                  rw [HY.op] at he
                  obtain ⟨t1, t2, t3⟩ := T.en he
                  have t4 := T.tk t3
                  have := hs0 t2
                  rw [HY.tk]
                  omega
                · intro he
                  rw [HY.op] at he
                  refine ⟨by rw [HY.tk]; omega, ?_⟩
                  unfold nextI
                  rw [HY.tk, show y.ins.op = y.op from rfl, HY.op, T.lv he]
                  omega
end Go.Proofs.Ytjfdokoigkdciaa

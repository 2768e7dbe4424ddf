/- The kinds of pairs of values, walked in whatever order. Printed by a program. -/
import Derived.Test.YtakailalhpkfdaaKnd
namespace Go.Proofs.Ytakailalhpkfdaa
open Go.RowKit

section
variable {P : Program} {ops : Array Oper} {Q : Exit → Act → World → Prop} {K : Act → World → Prop} {a : Act} {w w' : World} {i : Nat} {o : Oper} {v : Value}
theorem wpOp_value (ho : ops[i]? = some o) (hg : Region.wanted o (yielded ops a.tmps) = true) (hr : (execOp a.eval o).run P w = .ok (.value v) w') (hk : K (a.put o.dst v) w') : wpOp P ops Q i K a w := by
  unfold wpOp
  simp only [ho, hg, if_true]
  exact .inl (by unfold Oper.wp; rw [hr]; exact hk)
theorem wpOp_skip (ho : ops[i]? = some o) (hg : Region.wanted o (yielded ops a.tmps) = true) (hr : (execOp a.eval o).run P w = .ok .skip w') (hk : K (a.put o.dst undef) w') : wpOp P ops Q i K a w := by
  unfold wpOp
  simp only [ho, hg, if_true]
  exact .inl (by unfold Oper.wp; rw [hr]; exact hk)
end
def lb (l : Array Bool) (i : Nat) : Bool := l.getD i false
theorem lb_set {l : Array Bool} {i : Nat} (hi : i < l.size) (j : Nat) : lb (l.setIfInBounds i true) j = (decide (j = i) || lb l j) := by
  unfold lb
  by_cases e : j = i
  · subst e; simp [Array.getD, hi]
  · rw [decide_eq_false e, Bool.false_or]
    by_cases hj : j < l.size
    · simp [Array.getD, hj, Ne.symm e]
    · simp [Array.getD, hj]
theorem Ents.congr {on on' : Nat → Bool} {es : Array MapEntry} (h : Ents on es) (he : ∀ j, j < 6 → on j = on' j) : Ents on' es :=
  ⟨fun e hm => by obtain ⟨j, h1, h2, h3⟩ := h.all e hm; exact ⟨j, h1, (he j h1) ▸ h2, h3⟩, fun j hj hon => h.has j hj ((he j hj).trans hon)⟩
theorem Ents.nil {on : Nat → Bool} (h : ∀ j, j < 6 → on j = false) : Ents on #[] := ⟨fun e hm => absurd hm (by simp), fun j hj hon => by rw [h j hj] at hon; cases hon⟩
/-- The slots. -/
structure KS (w0 : World) (l : Array Bool) (w : World) (s0 s1 s2 s3 s4 s5 s6 s7 s8 : Value) : Prop where
  b1 : lb l 1 = true → s2 = kK 0
  b3 : lb l 3 = true → s3 = kK 1
  b5 : lb l 5 = true → s4 = kK 2
  b7 : lb l 7 = true → s5 = kK 3
  b9 : lb l 9 = true → s6 = kK 4
  b11 : lb l 11 = true → s7 = kK 5
  b13 : lb l 13 = true → s8 = s1
  b14 : lb l 14 = true → s0 = s1
  b0 : lb l 0 = true → ∃ b es c, w0.heap.size ≤ b ∧ s1 = .map (some b) ∧ w.heap[b]? = some (.map es c) ∧ Ents (fun j => lb l (2 * j + 2)) es
structure KI (w0 : World) (l : Array Bool) (a : Act) (w : World) : Prop where
  size : l.size = 15
  low : Below w0.heap.size w0 w
  ex : ∃ s0 s1 s2 s3 s4 s5 s6 s7 s8 : Value, a = { tmps := #[s0, s1, s2, s3, s4, s5, s6, s7, s8], defers := [] } ∧ KS w0 l w s0 s1 s2 s3 s4 s5 s6 s7 s8
  clo : lb l 0 = false → (∀ j, j < 6 → lb l (2 * j + 2) = false) ∧ lb l 13 = false ∧ lb l 14 = false
theorem lb_false {l : Array Bool} {i : Nat} (h : l.getD i true = false) : lb l i = false ∧ i < l.size := by
  have hlt : i < l.size := by
    by_cases c : i < l.size
    · exact c
    · simp [Array.getD, c] at h
  refine ⟨?_, hlt⟩
  unfold lb
  simpa [Array.getD, hlt] using h
theorem lb_unlisted {l : Array Bool} {i : Nat} (h : lb l i = false) (hi : i < l.size) : l.getD i true = false := by
  unfold lb at h
  simpa [Array.getD, hi] using h
theorem KS.other {w0 w : World} {l : Array Bool} {s0 s1 s2 s3 s4 s5 s6 s7 s8 : Value} (h : KS w0 l w s0 s1 s2 s3 s4 s5 s6 s7 s8) {i : Nat} (hi : i < l.size) (h0 : i ≠ 0) (ho : ∀ j, j < 6 → 2 * j + 2 ≠ i) :
    lb (l.setIfInBounds i true) 0 = true → ∃ b es c, w0.heap.size ≤ b ∧ s1 = .map (some b) ∧ w.heap[b]? = some (.map es c) ∧ Ents (fun j => lb (l.setIfInBounds i true) (2 * j + 2)) es := fun h1 => by
  rw [lb_set hi, decide_eq_false (by omega), Bool.false_or] at h1
  obtain ⟨b, es, c, g1, g2, g3, g4⟩ := h.b0 h1
  exact ⟨b, es, c, g1, g2, g3, g4.congr fun j hj => by rw [lb_set hi, decide_eq_false (ho j hj), Bool.false_or]⟩
theorem lb_keep {l : Array Bool} {i j : Nat} {p : Prop} (hi : i < l.size) (hne : j ≠ i) (h : lb l j = true → p) : lb (l.setIfInBounds i true) j = true → p := fun h1 => by
  rw [lb_set hi, decide_eq_false hne, Bool.false_or] at h1; exact h h1
theorem clo_keep {l : Array Bool} {i : Nat} (hi : i < l.size) (h0 : lb l 0 = true) : lb (l.setIfInBounds i true) 0 = false → (∀ j, j < 6 → lb (l.setIfInBounds i true) (2 * j + 2) = false) ∧ lb (l.setIfInBounds i true) 13 = false ∧ lb (l.setIfInBounds i true) 14 = false := fun h => by
  rw [lb_set hi, h0, Bool.or_true] at h; cases h
theorem clo_odd {l : Array Bool} {i : Nat} (hi : i < l.size) (h0 : i ≠ 0) (ho : ∀ j, j < 6 → 2 * j + 2 ≠ i) (h13 : i ≠ 13) (h14 : i ≠ 14) (h : lb l 0 = false → (∀ j, j < 6 → lb l (2 * j + 2) = false) ∧ lb l 13 = false ∧ lb l 14 = false) :
    lb (l.setIfInBounds i true) 0 = false → (∀ j, j < 6 → lb (l.setIfInBounds i true) (2 * j + 2) = false) ∧ lb (l.setIfInBounds i true) 13 = false ∧ lb (l.setIfInBounds i true) 14 = false := fun h1 => by
  rw [lb_set hi, decide_eq_false (by omega), Bool.false_or] at h1
  obtain ⟨g1, g2, g3⟩ := h h1
  exact ⟨fun j hj => by rw [lb_set hi, decide_eq_false (ho j hj), Bool.false_or]; exact g1 j hj, by rw [lb_set hi, decide_eq_false (by omega), Bool.false_or]; exact g2, by rw [lb_set hi, decide_eq_false (by omega), Bool.false_or]; exact g3⟩
/-- An entry is put in. -/
theorem KS.put {w0 w : World} {l : Array Bool} {s0 s1 s2 s3 s4 s5 s6 s7 s8 : Value} (h : KS w0 l w s0 s1 s2 s3 s4 s5 s6 s7 s8) {k : Nat} (hk : k < 6) (hi : 2 * k + 2 < l.size) (h0 : lb l 0 = true) (hoff : lb l (2 * k + 2) = false) (hl : Below w0.heap.size w0 w) :
    ∃ b w', s1 = .map (some b) ∧ (Instr.mapUpdate 48 (.map (some b)) (kK k) (.int .i64 (kV k))).run Try.prog w = .ok () w' ∧ Below w0.heap.size w0 w' ∧ KS w0 (l.setIfInBounds (2 * k + 2) true) w' s0 s1 s2 s3 s4 s5 s6 s7 s8 := by
  obtain ⟨b, es, c, g1, g2, g3, g4⟩ := h.b0 h0
  have hb : b < w.heap.size := (Array.getElem?_eq_some_iff.1 g3).1
  refine ⟨b, _, g2, put_run g3 g4 hk hoff, ?_, ?_⟩
  · exact hl.trans ⟨rfl, rfl, rfl, by simp [putW], fun q hq => by simp only [putW]; rw [Array.getElem?_setIfInBounds_ne (by omega)]⟩
  · refine ⟨lb_keep hi (by omega) h.b1, lb_keep hi (by omega) h.b3, lb_keep hi (by omega) h.b5, lb_keep hi (by omega) h.b7, lb_keep hi (by omega) h.b9, lb_keep hi (by omega) h.b11, lb_keep hi (by omega) h.b13, fun h1 => ?_, fun _ => ⟨b, _, c + 1, g1, g2, by simp [putW, hb], (put_ents (c := c) g4 hk).congr fun j hj => ?_⟩⟩
    · refine h.b14 ?_
      rw [lb_set hi, decide_eq_false (by omega), Bool.false_or] at h1
      exact h1
    · rw [lb_set hi]
      congr 1
      exact decide_eq_decide.2 (by omega)
set_option maxRecDepth 100000 in
set_option maxHeartbeats 4000000 in
/-- All six kinds of pairs lie in the map. -/
theorem kinds_any (w : World) : Calls Try.prog 18 #[] w (fun e w' => ∃ b es c, e = .returned (.map (some b)) ∧ w'.heap[b]? = some (.map es c) ∧ Ents (fun _ => true) es ∧ Below w.heap.size w w') := by
  have hmm := @run_makeMap Try.prog
  go_enter Try.func18, Try.ntmps18
  go_wp2
  refine wp_region_any (by kernel_rfl) ?_
  refine wpAny_inv (KI w) ?step ?fin _ _ _ _ ?init ?cnt
  case init =>
    exact ⟨rfl, (Below.refl _ w).drew, ⟨_, _, _, _, _, _, _, _, _, rfl, ⟨(fun h => absurd h (by decide)), (fun h => absurd h (by decide)), (fun h => absurd h (by decide)), (fun h => absurd h (by decide)), (fun h => absurd h (by decide)), (fun h => absurd h (by decide)), (fun h => absurd h (by decide)), (fun h => absurd h (by decide)), (fun h => absurd h (by decide))⟩⟩, fun _ => ⟨fun j _ => by unfold lb; simp [Array.getD], by decide, by decide⟩⟩
  case cnt => decide
  case step =>
    intro l a v i hI hi
    rw [mem_ready] at hi
    obtain ⟨hun, o, ho, hd⟩ := hi
    obtain ⟨hoff, hlt⟩ := lb_false hun
    have hlt15 : i < 15 := by rw [hI.size] at hlt; exact hlt
    obtain ⟨hsz, hlow, ⟨s0, s1, s2, s3, s4, s5, s6, s7, s8, rfl, hS⟩, hclo⟩ := hI
    match i, hlt15 with
    | 0, _ =>
      simp only [List.getElem?_toArray, List.getElem?_cons_zero, Option.some.injEq] at ho
      subst ho
      refine wpOp_value (v := .map (some v.heap.size)) (w' := v.alloc (.map #[] 0)) rfl rfl (by simp [go_sem, hmm]) ?_
      obtain ⟨q1, q2, q3⟩ := hclo hoff
      refine ⟨by simpa using hsz, hlow.alloc hlow.size _, ⟨_, _, _, _, _, _, _, _, _, rfl, ⟨lb_keep hlt (by omega) hS.b1, lb_keep hlt (by omega) hS.b3, lb_keep hlt (by omega) hS.b5, lb_keep hlt (by omega) hS.b7, lb_keep hlt (by omega) hS.b9, lb_keep hlt (by omega) hS.b11, fun h => ?_, fun h => ?_, fun _ => ⟨v.heap.size, #[], 0, hlow.size, rfl, World.alloc_heap_new v _, Ents.nil fun j hj => ?_⟩⟩⟩, fun h => ?_⟩
      · rw [lb_set hlt, decide_eq_false (by omega), Bool.false_or, q2] at h; cases h
      · rw [lb_set hlt, decide_eq_false (by omega), Bool.false_or, q3] at h; cases h
      · rw [lb_set hlt, decide_eq_false (by omega), Bool.false_or]; exact q1 j hj
      · rw [lb_set hlt, decide_eq_true rfl] at h; cases h
    | 1, _ =>
      simp only [List.getElem?_toArray, List.getElem?_cons_succ, List.getElem?_cons_zero, Option.some.injEq] at ho
      subst ho
      refine wpOp_value (v := kK 0) (w' := v) rfl rfl (by first | kernel_rfl | simp [go_sem]) ?_
      exact ⟨by simpa using hsz, hlow, ⟨_, _, _, _, _, _, _, _, _, rfl, ⟨fun _ => rfl, lb_keep hlt (by omega) hS.b3, lb_keep hlt (by omega) hS.b5, lb_keep hlt (by omega) hS.b7, lb_keep hlt (by omega) hS.b9, lb_keep hlt (by omega) hS.b11, lb_keep hlt (by omega) hS.b13, lb_keep hlt (by omega) hS.b14, hS.other hlt (by omega) (by omega)⟩⟩, clo_odd hlt (by omega) (by omega) (by omega) (by omega) hclo⟩
    | 2, _ =>
      simp only [List.getElem?_toArray, List.getElem?_cons_succ, List.getElem?_cons_zero, Option.some.injEq] at ho
      subst ho
      have h0 : lb l 0 = true := hd ⟨0, .data⟩ (by simp) rfl
      have hb : lb l 1 = true := hd ⟨1, .data⟩ (by simp) rfl
      obtain ⟨mb, w', rfl, hrun, hlow', hS'⟩ := hS.put (k := 0) (by omega) hlt h0 hoff hlow
      obtain rfl := hS.b1 hb
      refine wpOp_skip (w' := w') rfl rfl ?_ ?_
      · have hr : (Instr.mapUpdate 48 (.map (some mb)) (kK 0) (.int .i64 1)).run Try.prog v = .ok () w' := hrun
        simp [go_sem, hr]
      · exact ⟨by simpa using hsz, hlow', ⟨_, _, _, _, _, _, _, _, _, rfl, hS'⟩, clo_keep hlt h0⟩
    | 3, _ =>
      simp only [List.getElem?_toArray, List.getElem?_cons_succ, List.getElem?_cons_zero, Option.some.injEq] at ho
      subst ho
      refine wpOp_value (v := kK 1) (w' := v) rfl rfl (by first | kernel_rfl | simp [go_sem]) ?_
      exact ⟨by simpa using hsz, hlow, ⟨_, _, _, _, _, _, _, _, _, rfl, ⟨lb_keep hlt (by omega) hS.b1, fun _ => rfl, lb_keep hlt (by omega) hS.b5, lb_keep hlt (by omega) hS.b7, lb_keep hlt (by omega) hS.b9, lb_keep hlt (by omega) hS.b11, lb_keep hlt (by omega) hS.b13, lb_keep hlt (by omega) hS.b14, hS.other hlt (by omega) (by omega)⟩⟩, clo_odd hlt (by omega) (by omega) (by omega) (by omega) hclo⟩
    | 4, _ =>
      simp only [List.getElem?_toArray, List.getElem?_cons_succ, List.getElem?_cons_zero, Option.some.injEq] at ho
      subst ho
      have h0 : lb l 0 = true := hd ⟨0, .data⟩ (by simp) rfl
      have hb : lb l 3 = true := hd ⟨3, .data⟩ (by simp) rfl
      obtain ⟨mb, w', rfl, hrun, hlow', hS'⟩ := hS.put (k := 1) (by omega) hlt h0 hoff hlow
      obtain rfl := hS.b3 hb
      refine wpOp_skip (w' := w') rfl rfl ?_ ?_
      · have hr : (Instr.mapUpdate 48 (.map (some mb)) (kK 1) (.int .i64 2)).run Try.prog v = .ok () w' := hrun
        simp [go_sem, hr]
      · exact ⟨by simpa using hsz, hlow', ⟨_, _, _, _, _, _, _, _, _, rfl, hS'⟩, clo_keep hlt h0⟩
    | 5, _ =>
      simp only [List.getElem?_toArray, List.getElem?_cons_succ, List.getElem?_cons_zero, Option.some.injEq] at ho
      subst ho
      refine wpOp_value (v := kK 2) (w' := v) rfl rfl (by first | kernel_rfl | simp [go_sem]) ?_
      exact ⟨by simpa using hsz, hlow, ⟨_, _, _, _, _, _, _, _, _, rfl, ⟨lb_keep hlt (by omega) hS.b1, lb_keep hlt (by omega) hS.b3, fun _ => rfl, lb_keep hlt (by omega) hS.b7, lb_keep hlt (by omega) hS.b9, lb_keep hlt (by omega) hS.b11, lb_keep hlt (by omega) hS.b13, lb_keep hlt (by omega) hS.b14, hS.other hlt (by omega) (by omega)⟩⟩, clo_odd hlt (by omega) (by omega) (by omega) (by omega) hclo⟩
    | 6, _ =>
      simp only [List.getElem?_toArray, List.getElem?_cons_succ, List.getElem?_cons_zero, Option.some.injEq] at ho
      subst ho
      have h0 : lb l 0 = true := hd ⟨0, .data⟩ (by simp) rfl
      have hb : lb l 5 = true := hd ⟨5, .data⟩ (by simp) rfl
      obtain ⟨mb, w', rfl, hrun, hlow', hS'⟩ := hS.put (k := 2) (by omega) hlt h0 hoff hlow
      obtain rfl := hS.b5 hb
      refine wpOp_skip (w' := w') rfl rfl ?_ ?_
      · have hr : (Instr.mapUpdate 48 (.map (some mb)) (kK 2) (.int .i64 2)).run Try.prog v = .ok () w' := hrun
        simp [go_sem, hr]
      · exact ⟨by simpa using hsz, hlow', ⟨_, _, _, _, _, _, _, _, _, rfl, hS'⟩, clo_keep hlt h0⟩
    | 7, _ =>
      simp only [List.getElem?_toArray, List.getElem?_cons_succ, List.getElem?_cons_zero, Option.some.injEq] at ho
      subst ho
      refine wpOp_value (v := kK 3) (w' := v) rfl rfl (by first | kernel_rfl | simp [go_sem]) ?_
      exact ⟨by simpa using hsz, hlow, ⟨_, _, _, _, _, _, _, _, _, rfl, ⟨lb_keep hlt (by omega) hS.b1, lb_keep hlt (by omega) hS.b3, lb_keep hlt (by omega) hS.b5, fun _ => rfl, lb_keep hlt (by omega) hS.b9, lb_keep hlt (by omega) hS.b11, lb_keep hlt (by omega) hS.b13, lb_keep hlt (by omega) hS.b14, hS.other hlt (by omega) (by omega)⟩⟩, clo_odd hlt (by omega) (by omega) (by omega) (by omega) hclo⟩
    | 8, _ =>
      simp only [List.getElem?_toArray, List.getElem?_cons_succ, List.getElem?_cons_zero, Option.some.injEq] at ho
      subst ho
      have h0 : lb l 0 = true := hd ⟨0, .data⟩ (by simp) rfl
      have hb : lb l 7 = true := hd ⟨7, .data⟩ (by simp) rfl
      obtain ⟨mb, w', rfl, hrun, hlow', hS'⟩ := hS.put (k := 3) (by omega) hlt h0 hoff hlow
      obtain rfl := hS.b7 hb
      refine wpOp_skip (w' := w') rfl rfl ?_ ?_
      · have hr : (Instr.mapUpdate 48 (.map (some mb)) (kK 3) (.int .i64 2)).run Try.prog v = .ok () w' := hrun
        simp [go_sem, hr]
      · exact ⟨by simpa using hsz, hlow', ⟨_, _, _, _, _, _, _, _, _, rfl, hS'⟩, clo_keep hlt h0⟩
    | 9, _ =>
      simp only [List.getElem?_toArray, List.getElem?_cons_succ, List.getElem?_cons_zero, Option.some.injEq] at ho
      subst ho
      refine wpOp_value (v := kK 4) (w' := v) rfl rfl (by first | kernel_rfl | simp [go_sem]) ?_
      exact ⟨by simpa using hsz, hlow, ⟨_, _, _, _, _, _, _, _, _, rfl, ⟨lb_keep hlt (by omega) hS.b1, lb_keep hlt (by omega) hS.b3, lb_keep hlt (by omega) hS.b5, lb_keep hlt (by omega) hS.b7, fun _ => rfl, lb_keep hlt (by omega) hS.b11, lb_keep hlt (by omega) hS.b13, lb_keep hlt (by omega) hS.b14, hS.other hlt (by omega) (by omega)⟩⟩, clo_odd hlt (by omega) (by omega) (by omega) (by omega) hclo⟩
    | 10, _ =>
      simp only [List.getElem?_toArray, List.getElem?_cons_succ, List.getElem?_cons_zero, Option.some.injEq] at ho
      subst ho
      have h0 : lb l 0 = true := hd ⟨0, .data⟩ (by simp) rfl
      have hb : lb l 9 = true := hd ⟨9, .data⟩ (by simp) rfl
      obtain ⟨mb, w', rfl, hrun, hlow', hS'⟩ := hS.put (k := 4) (by omega) hlt h0 hoff hlow
      obtain rfl := hS.b9 hb
      refine wpOp_skip (w' := w') rfl rfl ?_ ?_
      · have hr : (Instr.mapUpdate 48 (.map (some mb)) (kK 4) (.int .i64 3)).run Try.prog v = .ok () w' := hrun
        simp [go_sem, hr]
      · exact ⟨by simpa using hsz, hlow', ⟨_, _, _, _, _, _, _, _, _, rfl, hS'⟩, clo_keep hlt h0⟩
    | 11, _ =>
      simp only [List.getElem?_toArray, List.getElem?_cons_succ, List.getElem?_cons_zero, Option.some.injEq] at ho
      subst ho
      refine wpOp_value (v := kK 5) (w' := v) rfl rfl (by first | kernel_rfl | simp [go_sem]) ?_
      exact ⟨by simpa using hsz, hlow, ⟨_, _, _, _, _, _, _, _, _, rfl, ⟨lb_keep hlt (by omega) hS.b1, lb_keep hlt (by omega) hS.b3, lb_keep hlt (by omega) hS.b5, lb_keep hlt (by omega) hS.b7, lb_keep hlt (by omega) hS.b9, fun _ => rfl, lb_keep hlt (by omega) hS.b13, lb_keep hlt (by omega) hS.b14, hS.other hlt (by omega) (by omega)⟩⟩, clo_odd hlt (by omega) (by omega) (by omega) (by omega) hclo⟩
    | 12, _ =>
      simp only [List.getElem?_toArray, List.getElem?_cons_succ, List.getElem?_cons_zero, Option.some.injEq] at ho
      subst ho
      have h0 : lb l 0 = true := hd ⟨0, .data⟩ (by simp) rfl
      have hb : lb l 11 = true := hd ⟨11, .data⟩ (by simp) rfl
      obtain ⟨mb, w', rfl, hrun, hlow', hS'⟩ := hS.put (k := 5) (by omega) hlt h0 hoff hlow
      obtain rfl := hS.b11 hb
      refine wpOp_skip (w' := w') rfl rfl ?_ ?_
      · have hr : (Instr.mapUpdate 48 (.map (some mb)) (kK 5) (.int .i64 4)).run Try.prog v = .ok () w' := hrun
        simp [go_sem, hr]
      · exact ⟨by simpa using hsz, hlow', ⟨_, _, _, _, _, _, _, _, _, rfl, hS'⟩, clo_keep hlt h0⟩
    | 13, _ =>
      simp only [List.getElem?_toArray, List.getElem?_cons_succ, List.getElem?_cons_zero, Option.some.injEq] at ho
      subst ho
      have h0 : lb l 0 = true := hd ⟨0, .data⟩ (by simp) rfl
      refine wpOp_value (v := s1) (w' := v) rfl rfl (by first | kernel_rfl | simp [go_sem]) ?_
      exact ⟨by simpa using hsz, hlow, ⟨_, _, _, _, _, _, _, _, _, rfl, ⟨lb_keep hlt (by omega) hS.b1, lb_keep hlt (by omega) hS.b3, lb_keep hlt (by omega) hS.b5, lb_keep hlt (by omega) hS.b7, lb_keep hlt (by omega) hS.b9, lb_keep hlt (by omega) hS.b11, fun _ => rfl, lb_keep hlt (by omega) hS.b14, hS.other hlt (by omega) (by omega)⟩⟩, clo_keep hlt h0⟩
    | 14, _ =>
      simp only [List.getElem?_toArray, List.getElem?_cons_succ, List.getElem?_cons_zero, Option.some.injEq] at ho
      subst ho
      have h0 : lb l 0 = true := hd ⟨0, .phase⟩ (by simp) rfl
      have h13 : lb l 13 = true := hd ⟨13, .data⟩ (by simp) rfl
      refine wpOp_value (v := s8) (w' := v) rfl rfl (by first | kernel_rfl | simp [go_sem]) ?_
      exact ⟨by simpa using hsz, hlow, ⟨_, _, _, _, _, _, _, _, _, rfl, ⟨lb_keep hlt (by omega) hS.b1, lb_keep hlt (by omega) hS.b3, lb_keep hlt (by omega) hS.b5, lb_keep hlt (by omega) hS.b7, lb_keep hlt (by omega) hS.b9, lb_keep hlt (by omega) hS.b11, lb_keep hlt (by omega) hS.b13, fun _ => hS.b13 h13, hS.other hlt (by omega) (by omega)⟩⟩, clo_keep hlt h0⟩
  case fin =>
    intro l a v hI hr
    have nx : ∀ i, i ∉ Region.ready Region.Mode.any _ l := fun i h => by rw [hr] at h; cases h
    obtain ⟨hsz, hlow, ⟨s0, s1, s2, s3, s4, s5, s6, s7, s8, rfl, hS⟩, hclo⟩ := hI
    have key : ∀ i o, i < 15 → (_ : Array Oper)[i]? = some o → (∀ e ∈ o.after, Region.binds Region.Mode.any e = true → l.getD e.on false = true) → lb l i = true := fun i o hi ho hd => by
      cases h : lb l i with
      | true => rfl
      | false => exact absurd (mem_ready.2 ⟨lb_unlisted h (by rw [hsz]; exact hi), o, ho, hd⟩) (nx i)

    have l0 := key 0 _ (by omega) rfl (by intro e he _; simp at he)
    have l1 := key 1 _ (by omega) rfl (by intro e he _; simp at he)
    have l3 := key 3 _ (by omega) rfl (by intro e he _; simp at he)
    have l5 := key 5 _ (by omega) rfl (by intro e he _; simp at he)
    have l7 := key 7 _ (by omega) rfl (by intro e he _; simp at he)
    have l9 := key 9 _ (by omega) rfl (by intro e he _; simp at he)
    have l11 := key 11 _ (by omega) rfl (by intro e he _; simp at he)
    have l2 := key 2 _ (by omega) rfl (by intro e he _; simp at he; rcases he with rfl | rfl<;> first | exact l0 | exact l1)
    have l4 := key 4 _ (by omega) rfl (by intro e he _; simp at he; rcases he with rfl | rfl<;> first | exact l0 | exact l3)
    have l6 := key 6 _ (by omega) rfl (by intro e he _; simp at he; rcases he with rfl | rfl<;> first | exact l0 | exact l5)
    have l8 := key 8 _ (by omega) rfl (by intro e he _; simp at he; rcases he with rfl | rfl<;> first | exact l0 | exact l7)
    have l10 := key 10 _ (by omega) rfl (by intro e he _; simp at he; rcases he with rfl | rfl<;> first | exact l0 | exact l9)
    have l12 := key 12 _ (by omega) rfl (by intro e he _; simp at he; rcases he with rfl | rfl<;> first | exact l0 | exact l11)
    have l13 := key 13 _ (by omega) rfl (by intro e he _; simp at he; rcases he with rfl | rfl | rfl | rfl | rfl | rfl | rfl | rfl | rfl | rfl | rfl | rfl | rfl <;> first | exact l0 | exact l1 | exact l2 | exact l3 | exact l4 | exact l5 | exact l6 | exact l7 | exact l8 | exact l9 | exact l10 | exact l11 | exact l12)
    have l14 := key 14 _ (by omega) rfl (by intro e he _; simp at he; rcases he with rfl | rfl | rfl | rfl | rfl | rfl | rfl | rfl | rfl | rfl | rfl | rfl | rfl | rfl | rfl <;> first | exact l0 | exact l1 | exact l2 | exact l3 | exact l4 | exact l5 | exact l6 | exact l7 | exact l8 | exact l9 | exact l10 | exact l11 | exact l12 | exact l13)
    obtain ⟨b, es, c, g1, rfl, g3, g4⟩ := hS.b0 l0
    obtain rfl := hS.b14 l14
    have g5 : Ents (fun _ => true) es := g4.congr fun j hj => by
      match j, hj with
      | 0, _ => exact l2
      | 1, _ => exact l4
      | 2, _ => exact l6
      | 3, _ => exact l8
      | 4, _ => exact l10
      | 5, _ => exact l12
    clear nx key hr hS hclo
    go_wp2_with fail
    go_ret
    exact ⟨b, es, c, rfl, g3, g5, hlow⟩
end Go.Proofs.Ytakailalhpkfdaa

/- Going any way through code that fits, in plain Lean. -/
import Derived.Test.YtefijgdbnjmifaaLookP
namespace Go.Proofs.Ytefijgdbnjmifaa
open Go.RowKit

/-- Where k free steps lead. -/
def endS (c : List Ins) : Nat → Nat → Nat
  | 0, i => i
  | k + 1, i => if (atI c i).op = 1 then endS c k (atI c i).a.toNat else endS c k (i + 1)
theorem free_snoc (c : List Ins) : ∀ (k i : Nat), freeS c k i = true → (atI c (endS c k i)).op = 1 ∨ (atI c (endS c k i)).op = 5 →
    freeS c (k + 1) i = true ∧ endS c (k + 1) i = if (atI c (endS c k i)).op = 1 then (atI c (endS c k i)).a.toNat else endS c k i + 1 := by
  intro k
  induction k with
  | zero =>
    intro i _ h
    have h' : (atI c i).op = 1 ∨ (atI c i).op = 5 := h
    refine ⟨?_, rfl⟩
    show (if (atI c i).op = 1 then _ else if (atI c i).op = 5 then _ else false) = true
    by_cases h1 : (atI c i).op = 1
    · rw [if_pos h1]; rfl
    · rw [if_neg h1, if_pos (h'.resolve_left h1)]; rfl
  | succ k ih =>
    intro i hf h
    have hf' : (if (atI c i).op = 1 then freeS c k (atI c i).a.toNat else if (atI c i).op = 5 then freeS c k (i + 1) else false) = true := hf
    by_cases h1 : (atI c i).op = 1
    · rw [if_pos h1] at hf'
      have e1 : endS c (k + 1) i = endS c k (atI c i).a.toNat := if_pos h1
      have e2 : endS c (k + 1 + 1) i = endS c (k + 1) (atI c i).a.toNat := if_pos h1
      rw [e1] at h ⊢
      obtain ⟨a, b⟩ := ih _ hf' h
      exact ⟨(if_pos h1).trans a, e2.trans b⟩
    · rw [if_neg h1] at hf'
      by_cases h5 : (atI c i).op = 5
      · rw [if_pos h5] at hf'
        have e1 : endS c (k + 1) i = endS c k (i + 1) := if_neg h1
        have e2 : endS c (k + 1 + 1) i = endS c (k + 1) (i + 1) := if_neg h1
        rw [e1] at h ⊢
        obtain ⟨a, b⟩ := ih _ hf' h
        exact ⟨((if_neg h1).trans (if_pos h5)).trans a, e2.trans b⟩
      · rw [if_neg h5] at hf'; cases hf'
/-- Code that fits, all of it. -/
structure Fit (c : List Ins) (d : List Int) : Prop where
  right : AllR c
  len : d.length = c.length
  zero : dAt d 0 = 0
  dom : Dom d c.length
  fit : ∀ i, i < c.length → 0 ≤ dAt d i → FitAt c d i
  circ : ∀ i, i < c.length → 0 ≤ dAt d i → circS c i = false
theorem fit_of {c : List Ins} (hr : AllR c) (hn : 0 < c.length) (h : ¬ 0 ≤ wrongS c) : Fit c (fitsS c).1 := by
  obtain ⟨h1, h2, h3, h4, h5⟩ := fits_spec hr hn
  have hlt : (fitsS c).2 < 0 := by
    by_cases hh : (fitsS c).2 < 0
    · exact hh
    · exact absurd (by unfold wrongS; rw [if_neg hh]; omega) h
  refine ⟨hr, h1, h2, h3, h4 hlt, fun i hi h0 => ?_⟩
  unfold wrongS at h
  rw [if_pos hlt] at h
  unfold circAt at h
  cases hf : (List.range c.length).find? fun i => decide (0 ≤ dAt (fitsS c).1 i) && circS c i with
  | some j => rw [hf] at h; exact absurd (by simp [optI]) h
  | none =>
    rw [List.find?_range_eq_none] at hf
    have := hf i hi
    rw [decide_eq_true h0] at this
    simpa using this
/-- Where one stands: the place, how deep, the last fork's target, how many free steps behind each other. -/
structure Way (c : List Ins) (d : List Int) (p : Nat) (fork : Nat) (free : Nat) : Prop where
  lt : p < c.length
  nn : 0 ≤ dAt d p
  flt : fork < c.length
  fz : dAt d fork = 0
  from_ : ∃ s, s < c.length ∧ 0 ≤ dAt d s ∧ freeS c free s = true ∧ endS c free s = p
theorem way_start {c : List Ins} {d : List Int} (h : Fit c d) (hn : 0 < c.length) : Way c d 0 0 0 :=
  ⟨hn, by rw [h.zero]; omega, hn, h.zero, 0, hn, by rw [h.zero]; omega, rfl, rfl⟩
/-- The free steps behind the next instruction. -/
def freeN (x : Ins) (free : Nat) : Nat := if x.op = 1 ∨ x.op = 5 then free + 1 else 0
theorem way_free {c : List Ins} {d : List Int} (h : Fit c d) {p fork free : Nat} (w : Way c d p fork free) : freeN (atI c p) free ≤ c.length := by
  obtain ⟨s, hs, h0, hf, he⟩ := w.from_
  unfold freeN
  split
  · rename_i ho
    by_cases hl : free + 1 ≤ c.length
    · exact hl
    · have := (free_snoc c free s hf (by rw [he]; exact ho)).1
      have hc := h.circ s hs h0
      have : freeS c (c.length + 1) s = true := by
        have hle : ∀ (j k i : Nat), freeS c (k + j) i = true → freeS c k i = true := by
          intro j k
          induction k with
          | zero => intro i _; rfl
          | succ k ih =>
            intro i hh
            rw [show k + 1 + j = (k + j) + 1 by omega] at hh
            have hh' : (if (atI c i).op = 1 then freeS c (k + j) (atI c i).a.toNat else if (atI c i).op = 5 then freeS c (k + j) (i + 1) else false) = true := hh
            show (if (atI c i).op = 1 then freeS c k (atI c i).a.toNat else if (atI c i).op = 5 then freeS c k (i + 1) else false) = true
            by_cases h1 : (atI c i).op = 1
            · rw [if_pos h1] at hh' ⊢; exact ih _ hh'
            · rw [if_neg h1] at hh' ⊢
              by_cases h5 : (atI c i).op = 5
              · rw [if_pos h5] at hh' ⊢; exact ih _ hh'
              · rw [if_neg h5] at hh'; cases hh'
        exact hle (free - c.length) (c.length + 1) s (by rw [show c.length + 1 + (free - c.length) = free + 1 by omega]; exact this)
      unfold circS at hc
      rw [this] at hc; cases hc
  · omega
theorem free_less (c : List Ins) : ∀ (j k i : Nat), freeS c (k + j) i = true → freeS c k i = true := by
  intro j k
  induction k with
  | zero => intro i _; rfl
  | succ k ih =>
    intro i hh
    rw [show k + 1 + j = (k + j) + 1 by omega] at hh
    have hh' : (if (atI c i).op = 1 then freeS c (k + j) (atI c i).a.toNat else if (atI c i).op = 5 then freeS c (k + j) (i + 1) else false) = true := hh
    show (if (atI c i).op = 1 then freeS c k (atI c i).a.toNat else if (atI c i).op = 5 then freeS c k (i + 1) else false) = true
    by_cases h1 : (atI c i).op = 1
    · rw [if_pos h1] at hh' ⊢; exact ih _ hh'
    · rw [if_neg h1] at hh' ⊢
      by_cases h5 : (atI c i).op = 5
      · rw [if_pos h5] at hh' ⊢; exact ih _ hh'
      · rw [if_neg h5] at hh'; cases hh'
theorem way_le {c : List Ins} {d : List Int} (h : Fit c d) {p fork free : Nat} (w : Way c d p fork free) : free ≤ c.length := by
  obtain ⟨s, hs, h0, hf, _⟩ := w.from_
  by_cases hl : free ≤ c.length
  · exact hl
  · have hc := h.circ s hs h0
    have := free_less c (free - (c.length + 1)) (c.length + 1) s (by rw [show c.length + 1 + (free - (c.length + 1)) = free by omega]; exact hf)
    unfold circS at hc
    rw [this] at hc; cases hc
/-- It takes no more than there is; where none follows, just that. -/
theorem way_takes {c : List Ins} {d : List Int} (h : Fit c d) {p fork free : Nat} (w : Way c d p fork free) : takesI (atI c p) ≤ dAt d p ∧ (endsK (atI c p).op = true → dAt d p = takesI (atI c p)) := by
  have hf := h.fit p w.lt w.nn
  unfold FitAt at hf
  by_cases he : endsK (atI c p).op = true
  · rw [if_pos he] at hf
    exact ⟨by omega, fun _ => hf⟩
  · rw [if_neg he] at hf
    exact ⟨hf.1, fun h => absurd h he⟩
theorem way_again {c : List Ins} {d : List Int} (h : Fit c d) {p fork free q : Nat} (w : Way c d p fork free) (hq : q = 0 ∨ q = fork) : Way c d q fork 0 ∧ dAt d q = 0 := by
  have h0 : dAt d q = 0 ∧ q < c.length := by
    rcases hq with rfl | rfl
    · exact ⟨h.zero, Nat.lt_of_le_of_lt (Nat.zero_le _) w.lt⟩
    · exact ⟨w.fz, w.flt⟩
  exact ⟨⟨h0.2, by omega, w.flt, w.fz, q, h0.2, by omega, rfl, rfl⟩, h0.1⟩
/-- The fork's target then. -/
def forkN (x : Ins) (fork : Nat) : Nat := if x.op = 53 then x.a.toNat else fork
theorem fork_ok {c : List Ins} {d : List Int} (h : Fit c d) {p fork free : Nat} (w : Way c d p fork free) (he : ¬ endsK (atI c p).op = true) : forkN (atI c p) fork < c.length ∧ dAt d (forkN (atI c p) fork) = 0 := by
  unfold forkN
  by_cases h5 : (atI c p).op = 53
  · rw [if_pos h5]
    have hf := h.fit p w.lt w.nn
    unfold FitAt at hf
    rw [if_neg he] at hf
    obtain ⟨a, b⟩ := hf.2.1 (by rw [h5]; rfl)
    exact ⟨by rw [← h.len]; exact a, by rw [b]; unfold thereI; rw [if_pos h5]⟩
  · rw [if_neg h5]; exact ⟨w.flt, w.fz⟩
/-- On to the target. -/
theorem way_jump {c : List Ins} {d : List Int} (h : Fit c d) {p fork free : Nat} (w : Way c d p fork free) (he : ¬ endsK (atI c p).op = true) (ha : aK (atI c p).op = 1) (h5 : (atI c p).op ≠ 5 ∧ (atI c p).op ≠ 53) :
    Way c d (atI c p).a.toNat (forkN (atI c p) fork) (freeN (atI c p) free) ∧ dAt d (atI c p).a.toNat = thereI (atI c p) (dAt d p) ∧ 0 ≤ (atI c p).a := by
  have hf := h.fit p w.lt w.nn
  unfold FitAt at hf
  rw [if_neg he] at hf
  obtain ⟨h1, h2, _⟩ := hf
  obtain ⟨a, b⟩ := h2 ha
  have hr := h.right p w.lt
  have hn := next_nn hr h1
  obtain ⟨k1, k2⟩ := fork_ok h w he
  rw [h.len] at a
  refine ⟨⟨a, by rw [b]; exact hn.2.2.1, k1, k2, ?_⟩, b, (target_lt hr ha).1⟩
  unfold freeN
  split
  · rename_i ho
    obtain ⟨s, hs, hs0, hfs, hes⟩ := w.from_
    obtain ⟨q1, q2⟩ := free_snoc c free s hfs (by rw [hes]; exact ho)
    refine ⟨s, hs, hs0, q1, ?_⟩
    rw [q2, hes, if_pos (ho.resolve_right h5.1)]
  · exact ⟨_, a, by rw [b]; exact hn.2.2.1, rfl, rfl⟩
/-- On to the next place. -/
theorem way_next {c : List Ins} {d : List Int} (h : Fit c d) {p fork free : Nat} (w : Way c d p fork free) (he : ¬ endsK (atI c p).op = true) (h1 : (atI c p).op ≠ 1) :
    Way c d (p + 1) (forkN (atI c p) fork) (freeN (atI c p) free) ∧ dAt d (p + 1) = nextI (atI c p) (dAt d p) := by
  have hf := h.fit p w.lt w.nn
  unfold FitAt at hf
  rw [if_neg he] at hf
  obtain ⟨ht, _, h2⟩ := hf
  obtain ⟨a, b⟩ := h2 h1
  have hr := h.right p w.lt
  have hn := next_nn hr ht
  obtain ⟨k1, k2⟩ := fork_ok h w he
  rw [h.len] at a
  refine ⟨⟨a, by rw [b]; exact hn.1, k1, k2, ?_⟩, b⟩
  unfold freeN
  split
  · rename_i ho
    obtain ⟨s, hs, hs0, hfs, hes⟩ := w.from_
    obtain ⟨q1, q2⟩ := free_snoc c free s hfs (by rw [hes]; exact ho)
    refine ⟨s, hs, hs0, q1, ?_⟩
    rw [q2, hes, if_neg h1]
  · exact ⟨_, a, by rw [b]; exact hn.1, rfl, rfl⟩
end Go.Proofs.Ytefijgdbnjmifaa

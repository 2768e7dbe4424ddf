/- Going through code, in plain Lean: the least place that is still to be gone through first. No program in sight. Reading numbers, texts and code of bytes, in plain Lean. -/
import Derived.Test.YtjfdokoigkdciaaInstrP
namespace Go.Proofs.Ytjfdokoigkdciaa
open Go.RowKit

def zI : Ins := ⟨0, 0, 0, []⟩
def atI (c : List Ins) (k : Nat) : Ins := c.getD k zI
def dAt (d : List Int) (i : Nat) : Int := d.getD i 0
def gAt (g : List Bool) (i : Nat) : Bool := g.getD i true
/-- Is a place still to be gone through? -/
def pendB (d : List Int) (g : List Bool) (i : Nat) : Bool := decide (0 ≤ dAt d i) && !gAt g i
def leastB (d : List Int) (g : List Bool) : Option Nat := (List.range d.length).find? (pendB d g)
/-- Going through all places; -1, or where it is wrong. -/
def goS (c : List Ins) : Nat → List Int → List Bool → List Int × Int
  | 0, d, _ => (d, -1)
  | k + 1, d, g => match leastB d g with
    | none => (d, -1)
    | some p => if (throughS (atI c p) d p).2 = true then goS c k (throughS (atI c p) d p).1 (g.set p true) else ((throughS (atI c p) d p).1, (p : Int))
def cntB (g : List Bool) : Nat := g.count false

theorem least_some {d : List Int} {g : List Bool} {p : Nat} : leastB d g = some p ↔ p < d.length ∧ pendB d g p = true ∧ ∀ i, i < p → pendB d g i = false := by
  unfold leastB
  rw [List.find?_range_eq_some]
  constructor
  · rintro ⟨h1, h2, h3⟩
    exact ⟨List.mem_range.1 h2, h1, fun i hi => by simpa using h3 i hi⟩
  · rintro ⟨h1, h2, h3⟩
    exact ⟨h2, List.mem_range.2 h1, fun i hi => by simp [h3 i hi]⟩
theorem least_none {d : List Int} {g : List Bool} : leastB d g = none ↔ ∀ i, i < d.length → pendB d g i = false := by
  unfold leastB
  rw [List.find?_range_eq_none]
  constructor
  · intro h i hi; simpa using h i hi
  · intro h i hi; simp [h i hi]
theorem dAt_set (d : List Int) (q : Nat) (x : Int) (i : Nat) (h : q < d.length) : dAt (d.set q x) i = if i = q then x else dAt d i := by
  unfold dAt
  simp only [List.getD, List.getElem?_set]
  by_cases e : q = i
  · subst e; simp [h]
  · rw [if_neg e, if_neg (fun h => e h.symm)]
theorem gAt_set (g : List Bool) (q : Nat) (i : Nat) (h : q < g.length) : gAt (g.set q true) i = if i = q then true else gAt g i := by
  unfold gAt
  simp only [List.getD, List.getElem?_set]
  by_cases e : q = i
  · subst e; simp [h]
  · rw [if_neg e, if_neg (fun h => e h.symm)]
theorem cnt_set {g : List Bool} {p : Nat} (h : gAt g p = false) : cntB (g.set p true) + 1 = cntB g ∧ p < g.length := by
  have hp : p < g.length := by
    by_cases hp : p < g.length
    · exact hp
    · unfold gAt at h; simp [List.getD, List.getElem?_eq_none (by omega : g.length ≤ p)] at h
  refine ⟨?_, hp⟩
  have h2 : g[p] = false := by unfold gAt at h; simpa [List.getD, List.getElem?_eq_getElem hp] using h
  have hpos : 0 < g.count false := by
    rw [List.count_pos_iff]
    exact h2 ▸ List.getElem_mem hp
  unfold cntB
  rw [List.count_set hp, h2]
  simp
  omega
theorem pend_gone {d : List Int} {g : List Bool} {p : Nat} (h : pendB d g p = true) : gAt g p = false ∧ 0 ≤ dAt d p := by
  unfold pendB at h
  rw [Bool.and_eq_true, decide_eq_true_eq] at h
  exact ⟨by simpa using h.2, h.1⟩
theorem meet_length (d : List Int) (q : Nat) (x : Int) : (meetS d q x).1.length = d.length := by
  unfold meetS; split
  · rfl
  · split
    · simp
    · rfl
theorem through_length (x : Ins) (d : List Int) (p : Nat) : (throughS x d p).1.length = d.length := by
  unfold throughS
  simp only
  split
  · rfl
  · split
    · rfl
    · by_cases h : aK x.op = 1
      · simp only [h, if_true]
        split
        · exact meet_length _ _ _
        · split
          · exact meet_length _ _ _
          · rw [meet_length, meet_length]
      · simp only [h, if_false]
        split
        · rfl
        · split
          · rfl
          · exact meet_length _ _ _

/-- The depths then hold what they held. -/
def Ext (d d' : List Int) : Prop := d'.length = d.length ∧ ∀ i, i < d.length → 0 ≤ dAt d i → dAt d' i = dAt d i
theorem Ext.refl (d : List Int) : Ext d d := ⟨rfl, fun _ _ _ => rfl⟩
theorem Ext.trans {a b c : List Int} (h : Ext a b) (k : Ext b c) : Ext a c := ⟨k.1.trans h.1, fun i hi h0 => by
  have h1 := h.2 i hi h0
  rw [k.2 i (by rw [h.1]; exact hi) (by rw [h1]; exact h0), h1]⟩
/-- All depths are at least lo and at most hi. -/
def Dom (d : List Int) (hi : Int) : Prop := ∀ i, i < d.length → -1 ≤ dAt d i ∧ dAt d i ≤ hi
theorem meet_spec (d : List Int) (q : Nat) (x : Int) (hx : 0 ≤ x) :
    Ext d (meetS d q x).1 ∧ ((meetS d q x).2 = true → q < d.length ∧ dAt (meetS d q x).1 q = x) ∧ ∀ hi, x ≤ hi → Dom d hi → Dom (meetS d q x).1 hi := by
  by_cases h : d.length ≤ q
  · have e : meetS d q x = (d, false) := by unfold meetS; rw [if_pos h]
    rw [e]
    exact ⟨Ext.refl _, (fun h => by cases h), fun _ _ h => h⟩
  · by_cases h0 : d.getD q 0 < 0
    · have e : meetS d q x = (d.set q x, true) := by unfold meetS; rw [if_neg h, if_pos h0]
      rw [e]
      have hs := fun i => dAt_set d q x i (by omega)
      refine ⟨⟨by simp, fun i hi hi0 => ?_⟩, fun _ => ⟨by omega, by rw [hs, if_pos rfl]⟩, fun hi hh hd i hl => ?_⟩
      · show dAt (d.set q x) i = _
        rw [hs, if_neg]
        rintro rfl
        have : dAt d i < 0 := h0
        omega
      · show -1 ≤ dAt (d.set q x) i ∧ dAt (d.set q x) i ≤ hi
        rw [hs]
        split
        · omega
        · exact hd i (by simpa using hl)
    · have e : meetS d q x = (d, d.getD q 0 == x) := by unfold meetS; rw [if_neg h, if_neg h0]
      rw [e]
      exact ⟨Ext.refl _, fun h2 => ⟨by omega, (by simpa using h2 : d.getD q 0 = x)⟩, fun _ _ h => h⟩

theorem takesK_nn (op : Nat) : 0 ≤ takesK op ∧ takesK op ≤ 2 := by unfold takesK; split <;> (try split) <;> omega
theorem leaveK_01 (op : Nat) : 0 ≤ leaveK op ∧ leaveK op ≤ 1 := by unfold leaveK; split <;> omega
theorem rightI_a {x : Ins} {n : Int} (h : rightI x n = true) : 0 ≤ x.a ∧ x.a < topK x.op n := by
  simp only [rightI, Bool.and_eq_true, decide_eq_true_eq] at h
  exact ⟨h.1.1.2, h.1.2⟩
theorem takesI_nn {x : Ins} {n : Int} (h : rightI x n = true) : 0 ≤ takesI x ∧ takesI x ≤ 2048 := by
  have ha := rightI_a h
  have hk := takesK_nn x.op
  unfold takesI
  split
  · rename_i h3
    have : topK x.op n = 2049 := by unfold topK; rw [h3]; rfl
    omega
  · omega
theorem target_lt {x : Ins} {n : Int} (h : rightI x n = true) (hk : aK x.op = 1) : 0 ≤ x.a ∧ x.a < n := by
  have ha := rightI_a h
  have : topK x.op n = n := by unfold topK; rw [if_pos hk]
  omega
theorem many_takes (op : Nat) (h : aK op = 3) : takesK op = 0 ∧ endsK op = false := by
  have : op = 25 ∨ op = 50 ∨ op = 51 := by unfold aK at h; (repeat' split at h) <;> omega
  rcases this with rfl | rfl | rfl <;> decide
theorem target_ops (op : Nat) (h : aK op = 1) : op = 1 ∨ op = 2 ∨ op = 3 ∨ op = 4 ∨ op = 53 := by
  unfold aK at h; (repeat' split at h) <;> omega
theorem not_target (op : Nat) (h : aK op ≠ 1) : op ≠ 1 ∧ op ≠ 2 ∧ op ≠ 3 ∧ op ≠ 4 ∧ op ≠ 53 := by
  unfold aK at h
  split at h
  · exact absurd rfl h
  · omega
theorem ends_ops (op : Nat) (h : endsK op = true) : op = 8 ∨ op = 9 ∨ op = 28 := by
  simp only [endsK, Bool.or_eq_true, decide_eq_true_eq] at h; omega
theorem through_ends {x : Ins} {d : List Int} {p : Nat} (h : endsK x.op = true) : throughS x d p = (d, dAt d p == takesI x) := by
  unfold throughS; simp only [h, if_true]; rfl
theorem through_low {x : Ins} {d : List Int} {p : Nat} (h : ¬ endsK x.op = true) (h1 : dAt d p < takesI x) : throughS x d p = (d, false) := by
  unfold throughS; simp only [h]; rw [if_neg (by simp)]; exact if_pos h1
theorem through_next {x : Ins} {d : List Int} {p : Nat} (h : ¬ endsK x.op = true) (h1 : ¬ dAt d p < takesI x) (h2 : aK x.op ≠ 1) : throughS x d p = meetS d (p + 1) (nextI x (dAt d p)) := by
  unfold throughS; simp only [h]; rw [if_neg (by simp)]
  refine (if_neg h1).trans ?_
  rw [if_neg h2]
  simp only [Bool.not_true, Bool.false_eq_true, if_false]
  exact if_neg (not_target _ h2).1
theorem through_jump {x : Ins} {d : List Int} {p : Nat} (h1 : ¬ dAt d p < takesI x) (h2 : x.op = 1) : throughS x d p = meetS d x.a.toNat (thereI x (dAt d p)) := by
  have h : ¬ endsK x.op = true := by rw [h2]; decide
  unfold throughS; simp only [h]; rw [if_neg (by simp)]
  refine (if_neg h1).trans ?_
  have ha : aK x.op = 1 := by rw [h2]; rfl
  rw [if_pos ha, if_pos h2]
  show (if (!(meetS d x.a.toNat (thereI x (dAt d p))).2) = true then ((meetS d x.a.toNat (thereI x (dAt d p))).1, false) else ((meetS d x.a.toNat (thereI x (dAt d p))).1, true)) = _
  cases hb : (meetS d x.a.toNat (thereI x (dAt d p))).2 <;> simp [← hb]
theorem through_both {x : Ins} {d : List Int} {p : Nat} (h : ¬ endsK x.op = true) (h1 : ¬ dAt d p < takesI x) (h2 : aK x.op = 1) (h3 : x.op ≠ 1) :
    throughS x d p = if (meetS d x.a.toNat (thereI x (dAt d p))).2 = true then meetS (meetS d x.a.toNat (thereI x (dAt d p))).1 (p + 1) (nextI x (dAt d p)) else ((meetS d x.a.toNat (thereI x (dAt d p))).1, false) := by
  unfold throughS; simp only [h]; rw [if_neg (by simp)]
  refine (if_neg h1).trans ?_
  rw [if_pos h2, if_neg h3]
  show (if (!(meetS d x.a.toNat (thereI x (dAt d p))).2) = true then ((meetS d x.a.toNat (thereI x (dAt d p))).1, false) else meetS (meetS d x.a.toNat (thereI x (dAt d p))).1 (p + 1) (nextI x (dAt d p))) = _
  cases hb : (meetS d x.a.toNat (thereI x (dAt d p))).2 <;> simp
/-- Code fits at a place. -/
def FitAt (c : List Ins) (d : List Int) (i : Nat) : Prop :=
  if endsK (atI c i).op = true then dAt d i = takesI (atI c i)
  else takesI (atI c i) ≤ dAt d i ∧ (aK (atI c i).op = 1 → (atI c i).a.toNat < d.length ∧ dAt d (atI c i).a.toNat = thereI (atI c i) (dAt d i)) ∧
    ((atI c i).op ≠ 1 → i + 1 < d.length ∧ dAt d (i + 1) = nextI (atI c i) (dAt d i))
theorem next_nn {x : Ins} {n depth : Int} (h : rightI x n = true) (h1 : takesI x ≤ depth) : 0 ≤ nextI x depth ∧ nextI x depth ≤ depth + 1 ∧ 0 ≤ thereI x depth ∧ thereI x depth ≤ depth + 1 := by
  have h2 := leaveK_01 x.op
  have h3 := takesI_nn h
  have h4 : 0 ≤ nextI x depth ∧ nextI x depth ≤ depth + 1 := by unfold nextI; omega
  refine ⟨h4.1, h4.2, ?_⟩
  unfold thereI
  split
  · omega
  · split
    · omega
    · exact h4
theorem FitAt.ext {c : List Ins} {d d' : List Int} {i : Nat} {n : Int} (h : FitAt c d i) (he : Ext d d') (hi : i < d.length) (h0 : 0 ≤ dAt d i) (hr : rightI (atI c i) n = true) : FitAt c d' i := by
  have hd := he.2 i hi h0
  unfold FitAt at *
  rw [hd]
  split at h
  · rename_i hh; rw [if_pos hh]; exact h
  · rename_i hh
    rw [if_neg hh]
    obtain ⟨h1, h2, h3⟩ := h
    have hn := next_nn hr h1
    refine ⟨h1, fun ha => ?_, fun ho => ?_⟩
    · obtain ⟨a1, a2⟩ := h2 ha
      exact ⟨by rw [he.1]; exact a1, by rw [he.2 _ a1 (by rw [a2]; exact hn.2.2.1), a2]⟩
    · obtain ⟨a1, a2⟩ := h3 ho
      exact ⟨by rw [he.1]; exact a1, by rw [he.2 _ a1 (by rw [a2]; exact hn.1), a2]⟩
theorem through_spec (c : List Ins) (d : List Int) (p : Nat) {n : Int} (hp : p < d.length) (h0 : 0 ≤ dAt d p) (hr : rightI (atI c p) n = true) :
    Ext d (throughS (atI c p) d p).1 ∧ ((throughS (atI c p) d p).2 = true → FitAt c (throughS (atI c p) d p).1 p) ∧ ∀ hi, dAt d p + 1 ≤ hi → Dom d hi → Dom (throughS (atI c p) d p).1 hi := by
  have hd : ∀ d', Ext d d' → dAt d' p = dAt d p := fun d' h => h.2 p hp h0
  generalize hx : atI c p = x at *
  by_cases he : endsK x.op = true
  · have e : throughS x d p = (d, dAt d p == takesI x) := by unfold throughS; simp only [he, if_true]; rfl
    rw [e]
    refine ⟨Ext.refl _, fun h => ?_, fun _ _ h => h⟩
    unfold FitAt
    rw [hx, if_pos he]
    simpa using h
  · by_cases ht : dAt d p < takesI x
    · have e : throughS x d p = (d, false) := by unfold throughS; simp only [he]; rw [if_neg (by simp)]; exact if_pos ht
      rw [e]
      exact ⟨Ext.refl _, (fun h => by cases h), fun _ _ h => h⟩
    · have hn := next_nn (depth := dAt d p) hr (by omega)
      have e : throughS x d p = (let r := if aK x.op = 1 then meetS d x.a.toNat (thereI x (dAt d p)) else (d, true)
          if !r.2 then (r.1, false) else if x.op = 1 then (r.1, true) else meetS r.1 (p + 1) (nextI x (dAt d p))) := by
        unfold throughS; simp only [he]; rw [if_neg (by simp)]; exact if_neg ht
      obtain ⟨r, hrr⟩ : ∃ r, r = (if aK x.op = 1 then meetS d x.a.toNat (thereI x (dAt d p)) else (d, true)) := ⟨_, rfl⟩
      have R : Ext d r.1 ∧ (r.2 = true → aK x.op = 1 → x.a.toNat < d.length ∧ dAt r.1 x.a.toNat = thereI x (dAt d p)) ∧ ∀ hi, dAt d p + 1 ≤ hi → Dom d hi → Dom r.1 hi := by
        by_cases ha : aK x.op = 1
        · rw [if_pos ha] at hrr
          have m := meet_spec d x.a.toNat (thereI x (dAt d p)) hn.2.2.1
          rw [hrr]
          exact ⟨m.1, fun h _ => m.2.1 h, fun hi h => m.2.2 hi (by omega)⟩
        · rw [if_neg ha] at hrr
          rw [hrr]
          exact ⟨Ext.refl _, fun _ h => absurd h ha, fun _ _ h => h⟩
      rw [e, ← hrr]
      simp only
      obtain ⟨R1, R2, R3⟩ := R
      by_cases h2 : r.2 = true
      · rw [h2]
        simp only [Bool.not_true, Bool.false_eq_true, if_false]
        by_cases ho : x.op = 1
        · rw [if_pos ho]
          refine ⟨R1, fun _ => ?_, R3⟩
          unfold FitAt
          rw [hx, if_neg he, hd _ R1]
          exact ⟨by omega, fun ha => by rw [R1.1]; exact R2 h2 ha, fun h => absurd ho h⟩
        · rw [if_neg ho]
          have m := meet_spec r.1 (p + 1) (nextI x (dAt d p)) hn.1
          have E := R1.trans m.1
          refine ⟨E, fun h => ?_, fun hi h hD => m.2.2 hi (by omega) (R3 hi h hD)⟩
          unfold FitAt
          rw [hx, if_neg he, hd _ E]
          refine ⟨by omega, fun ha => ?_, fun _ => ?_⟩
          · obtain ⟨a1, a2⟩ := R2 h2 ha
            exact ⟨by rw [E.1]; exact a1, by rw [m.1.2 _ (by rw [R1.1]; exact a1) (by rw [a2]; exact hn.2.2.1), a2]⟩
          · obtain ⟨a1, a2⟩ := m.2.1 h
            exact ⟨by rw [m.1.1]; exact a1, a2⟩
      · have h2' : r.2 = false := by simpa using h2
        rw [h2']
        simp only [Bool.not_false, if_true]
        exact ⟨R1, (fun h => by cases h), R3⟩

/-- All code is right. -/
def AllR (c : List Ins) : Prop := ∀ i, i < c.length → rightI (atI c i) c.length = true
/-- Behind going through all: what is met fits. -/
theorem go_spec (c : List Ins) (hr : AllR c) : ∀ (k : Nat) (d : List Int) (g : List Bool), d.length = c.length → g.length = c.length → cntB g ≤ k → Dom d (c.length - k) → (k : Int) ≤ c.length →
    (∀ i, i < d.length → gAt g i = true → 0 ≤ dAt d i ∧ FitAt c d i) →
    Ext d (goS c k d g).1 ∧ Dom (goS c k d g).1 c.length ∧ ((goS c k d g).2 < 0 → ∀ i, i < d.length → 0 ≤ dAt (goS c k d g).1 i → FitAt c (goS c k d g).1 i) ∧
      (0 ≤ (goS c k d g).2 → (goS c k d g).2 < c.length) := by
  intro k
  induction k with
  | zero =>
    intro d g hd hg hk hD hkn hf
    refine ⟨Ext.refl _, fun i hi => ?_, fun _ i hi h0 => (hf i hi ?_).2, fun h => ?_⟩
    · have := hD i hi; show -1 ≤ dAt d i ∧ dAt d i ≤ _; simp at this; omega
    · have h0' : g.count false = 0 := Nat.le_zero.1 hk
      have hl : i < g.length := by omega
      unfold gAt
      rw [List.getD, List.getElem?_eq_getElem hl]
      have := List.count_eq_zero.1 h0'
      cases hgi : g[i] with
      | true => rfl
      | false => exact absurd (hgi ▸ List.getElem_mem hl) this
    · simp [goS] at h
  | succ k ih =>
    intro d g hd hg hk hD hkn hf
    cases hl : leastB d g with
    | none =>
      have e : goS c (k + 1) d g = (d, -1) := by simp only [goS, hl]
      rw [e]
      rw [least_none] at hl
      refine ⟨Ext.refl _, fun i hi => ?_, fun _ i hi h0 => (hf i hi ?_).2, fun h => by simp at h⟩
      · have := hD i hi; show -1 ≤ dAt d i ∧ dAt d i ≤ _; omega
      · have := hl i hi
        unfold pendB at this
        have h0' : 0 ≤ dAt d i := h0
        rw [decide_eq_true h0'] at this
        simpa using this
    | some p =>
      obtain ⟨hp, hpe, hlow⟩ := least_some.1 hl
      obtain ⟨hg0, h0⟩ := pend_gone hpe
      obtain ⟨hc, hpg⟩ := cnt_set hg0
      have hrp := hr p (by omega)
      obtain ⟨E, F, M⟩ := through_spec c d p (n := c.length) hp h0 hrp
      have hDp := hD p hp
      by_cases ht : (throughS (atI c p) d p).2 = true
      · have e : goS c (k + 1) d g = goS c k (throughS (atI c p) d p).1 (g.set p true) := by simp only [goS, hl]; rw [if_pos ht]
        rw [e]
        have D1 : Dom (throughS (atI c p) d p).1 (c.length - (k : Int)) := M _ (by omega) (fun i hi => by have := hD i hi; omega)
        obtain ⟨r1, r2, r3, r4⟩ := ih (throughS (atI c p) d p).1 (g.set p true) (by rw [through_length, hd]) (by simpa using hg) (by omega) D1 (by omega) (fun i hi hgi => by
          rw [through_length] at hi
          by_cases hip : i = p
          · subst hip
            exact ⟨by rw [E.2 i hp h0]; exact h0, F ht⟩
          · rw [gAt_set g p i hpg, if_neg hip] at hgi
            obtain ⟨h0i, hfi⟩ := hf i hi hgi
            exact ⟨by rw [E.2 i hi h0i]; exact h0i, hfi.ext E hi h0i (hr i (by omega))⟩)
        exact ⟨E.trans r1, r2, fun h i hi h0 => r3 h i (by rw [through_length]; exact hi) h0, r4⟩
      · have e : goS c (k + 1) d g = ((throughS (atI c p) d p).1, (p : Int)) := by simp only [goS, hl]; rw [if_neg ht]
        rw [e]
        refine ⟨E, M _ (by omega) (fun i hi => by have := hD i hi; omega), fun h => ?_, fun _ => ?_⟩
        · simp at h; omega
        · show (p : Int) < _; omega

def d0S (n : Nat) : List Int := (List.replicate n (-1)).set 0 0
def g0S (n : Nat) : List Bool := List.replicate n false
/-- The depths; -1, or where it is wrong. -/
def fitsS (c : List Ins) : List Int × Int := goS c c.length (d0S c.length) (g0S c.length)
/-- Are the next k instructions free ones? -/
def freeS (c : List Ins) : Nat → Nat → Bool
  | 0, _ => true
  | k + 1, i => if (atI c i).op = 1 then freeS c k (atI c i).a.toNat else if (atI c i).op = 5 then freeS c k (i + 1) else false
def circS (c : List Ins) (i : Nat) : Bool := freeS c (c.length + 1) i
def optI (o : Option Nat) : Int := match o with | some i => i | none => -1
def circAt (c : List Ins) (d : List Int) : Int := optI ((List.range c.length).find? fun i => decide (0 ≤ dAt d i) && circS c i)
def badAt (c : List Ins) : Option Nat := (List.range c.length).find? fun i => !rightI (atI c i) c.length
def wrongS (c : List Ins) : Int := if (fitsS c).2 < 0 then circAt c (fitsS c).1 else (fitsS c).2
def slotsTo (c : List Ins) (p : Int) : Nat → Int
  | 0 => p
  | k + 1 => if aK (atI c k).op = 2 then max (slotsTo c p k) ((atI c k).a + 1) else slotsTo c p k
def stackTo (d : List Int) : Nat → Int
  | 0 => 0
  | k + 1 => max (stackTo d k) (dAt d k)
structure Said where
  slots : Int
  stack : Int
  wrong : Int
  d : List Int
  e : Int
/-- What Check and Depths say. -/
def lookS (c : List Ins) (p : Int) : Said :=
  if p < 0 ∨ 100 < p then ⟨0, 0, 0, [], 1⟩
  else if 8192 < c.length then ⟨0, 0, 0, [], 2⟩
  else if c.length = 0 then ⟨0, 0, 0, [], 3⟩
  else match badAt c with
    | some i => ⟨0, 0, i, [], 3⟩
    | none => if 0 ≤ wrongS c then ⟨0, 0, wrongS c, [], 140⟩ else ⟨slotsTo c p c.length, stackTo (fitsS c).1 c.length, 0, (fitsS c).1, 0⟩

theorem dAt_rep (n i : Nat) (h : i < n) : dAt (List.replicate n (-1)) i = -1 := by
  unfold dAt; rw [List.getD, List.getElem?_eq_getElem (by simpa using h)]; simp
theorem dAt_d0 (n i : Nat) (h : i < n) : dAt (d0S n) i = if i = 0 then 0 else -1 := by
  unfold d0S; rw [dAt_set _ _ _ _ (by simp; omega)]
  split
  · rfl
  · exact dAt_rep n i h
theorem gAt_g0 (n i : Nat) (h : i < n) : gAt (g0S n) i = false := by
  unfold gAt g0S; rw [List.getD, List.getElem?_eq_getElem (by simpa using h)]; simp
theorem fits_spec {c : List Ins} (hr : AllR c) (hn : 0 < c.length) : (fitsS c).1.length = c.length ∧ dAt (fitsS c).1 0 = 0 ∧ Dom (fitsS c).1 c.length ∧
    ((fitsS c).2 < 0 → ∀ i, i < c.length → 0 ≤ dAt (fitsS c).1 i → FitAt c (fitsS c).1 i) ∧ (0 ≤ (fitsS c).2 → (fitsS c).2 < c.length) := by
  have hl : (d0S c.length).length = c.length := by simp [d0S]
  obtain ⟨h1, h2, h3, h4⟩ := go_spec c hr c.length (d0S c.length) (g0S c.length) hl (by simp [g0S]) (by unfold cntB; exact Nat.le_trans List.count_le_length (by simp [g0S]))
    (fun i hi => by rw [hl] at hi; rw [dAt_d0 _ _ hi]; split <;> omega) (by omega) (fun i hi hg => by rw [hl] at hi; rw [gAt_g0 _ _ hi] at hg; cases hg)
  refine ⟨h1.1.trans hl, ?_, h2, fun h i hi => h3 h i (by rw [hl]; exact hi), h4⟩
  have := h1.2 0 (by rw [hl]; exact hn) (by rw [dAt_d0 _ _ hn]; simp)
  rw [dAt_d0 _ _ hn, if_pos rfl] at this
  exact this
/-- From a place that fits a free instruction goes to a place that fits. -/
theorem free_step {c : List Ins} {d : List Int} {i : Nat} (hl : d.length = c.length) (hr : rightI (atI c i) c.length = true) (hf : FitAt c d i) :
    ((atI c i).op = 1 → 0 ≤ (atI c i).a ∧ (atI c i).a.toNat < c.length ∧ 0 ≤ dAt d (atI c i).a.toNat) ∧ ((atI c i).op = 5 → i + 1 < c.length ∧ 0 ≤ dAt d (i + 1)) := by
  unfold FitAt at hf
  constructor
  · intro h
    have he : ¬ endsK (atI c i).op = true := by rw [h]; decide
    have ha : aK (atI c i).op = 1 := by rw [h]; rfl
    rw [if_neg he] at hf
    obtain ⟨h1, h2, _⟩ := hf
    obtain ⟨h3, h4⟩ := h2 ha
    exact ⟨(target_lt hr ha).1, by omega, by rw [h4]; exact (next_nn hr h1).2.2.1⟩
  · intro h
    have he : ¬ endsK (atI c i).op = true := by rw [h]; decide
    rw [if_neg he] at hf
    obtain ⟨h1, _, h2⟩ := hf
    obtain ⟨h3, h4⟩ := h2 (by omega)
    exact ⟨by omega, by rw [h4]; exact (next_nn hr h1).1⟩
end Go.Proofs.Ytjfdokoigkdciaa
namespace Go.Proofs.Ytjfdokoigkdciaa
open Go.RowKit

/-- A byte. -/
def byt (l : List UInt8) (i : Nat) : Nat := (l.getD i 0).toNat
theorem byt_lt (l : List UInt8) (i : Nat) : byt l i < 256 := (l.getD i 0).toNat_lt
/-- Reading a number: its value, where it ends, 0; or 0, where it goes wrong, the error. -/
def numGo (l : List UInt8) : Nat → Nat → Nat → Nat × Nat × Int
  | 0, i, _ => (0, i, 3)
  | f + 1, i, n => if l.length ≤ i then (0, l.length, 4)
    else if (byt l i = 0 ∧ 0 < i) ∨ (i = 9 ∧ byt l i ≠ 1) then (0, i, 3)
    else if byt l i < 128 then (n + byt l i % 128 * 2 ^ (7 * i), i + 1, 0)
    else numGo l f (i + 1) (n + byt l i % 128 * 2 ^ (7 * i))
def numS (l : List UInt8) : Nat × Nat × Int := numGo l 10 0 0
theorem numGo_end {l : List UInt8} {f i n : Nat} (h : l.length ≤ i) : numGo l (f + 1) i n = (0, l.length, 4) := if_pos h
theorem numGo_bad {l : List UInt8} {f i n : Nat} (h : i < l.length) (hb : (byt l i = 0 ∧ 0 < i) ∨ (i = 9 ∧ byt l i ≠ 1)) : numGo l (f + 1) i n = (0, i, 3) := (if_neg (by omega)).trans (if_pos hb)
theorem numGo_last {l : List UInt8} {f i n : Nat} (h : i < l.length) (hb : ¬ ((byt l i = 0 ∧ 0 < i) ∨ (i = 9 ∧ byt l i ≠ 1))) (h1 : byt l i < 128) : numGo l (f + 1) i n = (n + byt l i % 128 * 2 ^ (7 * i), i + 1, 0) := (if_neg (by omega)).trans ((if_neg hb).trans (if_pos h1))
theorem numGo_more {l : List UInt8} {f i n : Nat} (h : i < l.length) (hb : ¬ ((byt l i = 0 ∧ 0 < i) ∨ (i = 9 ∧ byt l i ≠ 1))) (h1 : ¬ byt l i < 128) : numGo l (f + 1) i n = numGo l f (i + 1) (n + byt l i % 128 * 2 ^ (7 * i)) := (if_neg (by omega)).trans ((if_neg hb).trans (if_neg h1))
/-- In the midst of a number. -/
structure Nm (l : List UInt8) (i n : Nat) : Prop where
  le : i ≤ 9
  eq : numS l = numGo l (10 - i) i n
  lt : n < 2 ^ (7 * i)
theorem Nm.start (l : List UInt8) : Nm l 0 0 := ⟨by omega, rfl, by simp⟩
theorem pow7_succ (i : Nat) : 2 ^ (7 * (i + 1)) = 128 * 2 ^ (7 * i) := by rw [show 7 * (i + 1) = 7 * i + 7 by omega, Nat.pow_add]; omega
theorem Nm.step_lt {l : List UInt8} {i n : Nat} (h : Nm l i n) : n + byt l i % 128 * 2 ^ (7 * i) < 2 ^ (7 * (i + 1)) := by
  have h1 := h.lt
  have h2 : byt l i % 128 < 128 := Nat.mod_lt _ (by omega)
  rw [pow7_succ]
  have h3 : byt l i % 128 * 2 ^ (7 * i) ≤ 127 * 2 ^ (7 * i) := Nat.mul_le_mul_right _ (by omega)
  omega
theorem Nm.ended {l : List UInt8} {i n : Nat} (h : Nm l i n) (hi : l.length ≤ i) : numS l = (0, l.length, 4) := by
  rw [h.eq, show 10 - i = (9 - i) + 1 by have := h.le; omega, numGo_end hi]
theorem Nm.bad {l : List UInt8} {i n : Nat} (h : Nm l i n) (hi : i < l.length) (hb : (byt l i = 0 ∧ 0 < i) ∨ (i = 9 ∧ byt l i ≠ 1)) : numS l = (0, i, 3) := by
  rw [h.eq, show 10 - i = (9 - i) + 1 by have := h.le; omega, numGo_bad hi hb]
theorem Nm.last {l : List UInt8} {i n : Nat} (h : Nm l i n) (hi : i < l.length) (hb : ¬ ((byt l i = 0 ∧ 0 < i) ∨ (i = 9 ∧ byt l i ≠ 1))) (h1 : byt l i < 128) : numS l = (n + byt l i % 128 * 2 ^ (7 * i), i + 1, 0) := by
  rw [h.eq, show 10 - i = (9 - i) + 1 by have := h.le; omega, numGo_last hi hb h1]
theorem Nm.more {l : List UInt8} {i n : Nat} (h : Nm l i n) (hi : i < l.length) (hb : ¬ ((byt l i = 0 ∧ 0 < i) ∨ (i = 9 ∧ byt l i ≠ 1))) (h1 : ¬ byt l i < 128) : Nm l (i + 1) (n + byt l i % 128 * 2 ^ (7 * i)) := by
  have hle := h.le
  refine ⟨by omega, ?_, h.step_lt⟩
  rw [h.eq, show 10 - i = (9 - i) + 1 by omega, numGo_more hi hb h1, show 10 - (i + 1) = 9 - i by omega]
/-- A step's sum stays within 64 bits. -/
theorem Nm.u64 {l : List UInt8} {i n : Nat} (h : Nm l i n) (hb : ¬ ((byt l i = 0 ∧ 0 < i) ∨ (i = 9 ∧ byt l i ≠ 1))) : n + byt l i % 128 * 2 ^ (7 * i) < 2 ^ 64 ∧ byt l i % 128 * 2 ^ (7 * i) < 2 ^ 64 := by
  have hle := h.le
  have hs := h.step_lt
  by_cases h9 : i = 9
  · subst h9
    have hc : byt l 9 = 1 := by omega
    have := h.lt
    rw [hc]
    have e : 2 ^ (7 * 9) = 9223372036854775808 := by decide
    rw [e] at *
    omega
  · have : 2 ^ (7 * (i + 1)) ≤ 2 ^ 63 := Nat.pow_le_pow_right (by omega) (by omega)
    have e : (2 : Nat) ^ 63 < 2 ^ 64 := by decide
    omega
theorem Nm.or {l : List UInt8} {i n : Nat} (h : Nm l i n) (c : Nat) : n ||| c * 2 ^ (7 * i) = n + c * 2 ^ (7 * i) := by
  have := Nat.shiftLeft_add_eq_or_of_lt h.lt c
  rw [Nat.shiftLeft_eq] at this
  rw [Nat.or_comm, ← this, Nat.add_comm]
end Go.Proofs.Ytjfdokoigkdciaa

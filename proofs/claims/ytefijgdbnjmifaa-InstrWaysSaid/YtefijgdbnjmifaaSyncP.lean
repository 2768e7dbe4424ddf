/- What the heap holds while all code is gone through: the places that are still to be gone through. In plain Lean. -/
import Derived.Test.YtefijgdbnjmifaaHeapP
import Derived.Test.YtefijgdbnjmifaaLookP
namespace Go.Proofs.Ytefijgdbnjmifaa
open Go.RowKit

def cntD (d : List Int) : Nat := d.countP fun z => decide (0 ≤ z)
structure Sync (d : List Int) (g : List Bool) (nx : Int) (L : List Thing) : Prop where
  gl : g.length = d.length
  key : ∀ t ∈ L, ∃ p : Nat, p < d.length ∧ t.key = (p : Int) ∧ pendB d g p = true ∧ t.v = dAt d p
  all : ∀ p : Nat, p < d.length → pendB d g p = true → ∃ t ∈ L, t.key = (p : Int)
  nod : (L.map Thing.key).Nodup
  gone : ∀ p, p < d.length → gAt g p = true → 0 ≤ dAt d p
  num : nx = (cntD d : Int)
  len : (L.length : Int) ≤ nx
theorem cntD_le (d : List Int) : cntD d ≤ d.length := List.countP_le_length
theorem Sync.bound {d : List Int} {g : List Bool} {nx : Int} {L : List Thing} (h : Sync d g nx L) : 0 ≤ nx ∧ nx ≤ d.length ∧ L.length ≤ d.length := by
  have := cntD_le d; have := h.num; have := h.len; omega
theorem dAt_get {d : List Int} {i : Nat} (h : i < d.length) : dAt d i = d[i] := by unfold dAt; rw [List.getD, List.getElem?_eq_getElem h]; rfl
theorem sync_start (n : Nat) : Sync (List.replicate n (-1)) (g0S n) 0 [] where
  gl := by simp [g0S]
  key := fun t h => by cases h
  all := fun p hp h => by
    have := (pend_gone h).2
    rw [dAt_rep n p (by simpa using hp)] at this
    omega
  nod := List.nodup_nil
  gone := fun p hp h => by
    rw [gAt_g0 n p (by simpa using hp)] at h; cases h
  num := by
    have : cntD (List.replicate n (-1)) = 0 := by
      unfold cntD
      rw [List.countP_eq_zero]
      intro a ha
      have := List.eq_of_mem_replicate ha
      subst this
      decide
    rw [this]; rfl
  len := by simp
theorem sync_push {d : List Int} {g : List Bool} {nx : Int} {L L' : List Thing} (h : Sync d g nx L) {q : Nat} (hq : q < d.length) (hneg : dAt d q < 0) {depth : Int} (h0 : 0 ≤ depth) (hp : L'.Perm (⟨q, nx, depth⟩ :: L)) :
    Sync (d.set q depth) g (nx + 1) L' := by
  have hg : gAt g q = false := by
    cases hgq : gAt g q with
    | false => rfl
    | true => have := h.gone q hq hgq; omega
  have hD := fun i => dAt_set d q depth i hq
  have hpend : ∀ i, pendB (d.set q depth) g i = if i = q then true else pendB d g i := fun i => by
    unfold pendB
    rw [hD]
    by_cases e : i = q
    · subst e; rw [if_pos rfl, if_pos rfl, hg, decide_eq_true h0]; rfl
    · rw [if_neg e, if_neg e]
  have hold : ∀ t ∈ L, ∃ p : Nat, p < d.length ∧ t.key = (p : Int) ∧ pendB d g p = true ∧ t.v = dAt d p ∧ p ≠ q := fun t ht => by
    obtain ⟨p, h1, h2, h3, h4⟩ := h.key t ht
    refine ⟨p, h1, h2, h3, h4, fun e => ?_⟩
    subst e
    have := (pend_gone h3).2; omega
  exact {
    gl := by rw [List.length_set]; exact h.gl
    key := fun t ht => by
      rw [List.length_set]
      rcases List.mem_cons.1 (hp.mem_iff.1 ht) with e | e
      · subst e
        exact ⟨q, hq, rfl, by rw [hpend, if_pos rfl], by rw [hD, if_pos rfl]⟩
      · obtain ⟨p, h1, h2, h3, h4, h5⟩ := hold t e
        exact ⟨p, h1, h2, by rw [hpend, if_neg h5]; exact h3, by rw [hD, if_neg h5]; exact h4⟩
    all := fun p hp' hpe => by
      rw [List.length_set] at hp'
      rw [hpend] at hpe
      by_cases e : p = q
      · subst e; exact ⟨_, hp.mem_iff.2 (List.mem_cons_self ..), rfl⟩
      · rw [if_neg e] at hpe
        obtain ⟨t, h1, h2⟩ := h.all p hp' hpe
        exact ⟨t, hp.mem_iff.2 (List.mem_cons_of_mem _ h1), h2⟩
    nod := by
      rw [(hp.map Thing.key).nodup_iff, List.map_cons, List.nodup_cons]
      refine ⟨fun hm => ?_, h.nod⟩
      obtain ⟨t, h1, h2⟩ := List.mem_map.1 hm
      obtain ⟨p, _, h3, _, _, h5⟩ := hold t h1
      have h2' : t.key = (q : Int) := h2
      omega
    gone := fun p hp' hgp => by
      rw [List.length_set] at hp'
      rw [hD]
      split
      · exact h0
      · exact h.gone p hp' hgp
    num := by
      rw [h.num]
      have e : cntD (d.set q depth) = cntD d + 1 := by
        unfold cntD
        rw [List.countP_set hq]
        have hx : d[q] < 0 := by rw [← dAt_get hq]; exact hneg
        rw [decide_eq_true h0, decide_eq_false (by omega : ¬ 0 ≤ d[q])]
        simp
      rw [e]; omega
    len := by rw [hp.length_eq]; simp; exact h.len }
theorem sync_none {d : List Int} {g : List Bool} {nx : Int} (h : Sync d g nx []) : leastB d g = none := by
  rw [least_none]
  intro i hi
  cases he : pendB d g i with
  | false => rfl
  | true => obtain ⟨t, ht, _⟩ := h.all i hi he; cases ht
theorem sync_pop {d : List Int} {g : List Bool} {nx : Int} {L L' : List Thing} (h : Sync d g nx L) (h0 : 0 < L.length) (hh : IsHeap L) (hp : (atL L 0 :: L').Perm L) :
    ∃ p : Nat, leastB d g = some p ∧ (atL L 0).key = (p : Int) ∧ (atL L 0).v = dAt d p ∧ Sync d (g.set p true) nx L' := by
  have hm : atL L 0 ∈ L := by rw [atL_get _ _ h0]; exact List.getElem_mem _
  obtain ⟨p, h1, h2, h3, h4⟩ := h.key _ hm
  have hpg : p < g.length := by rw [h.gl]; exact h1
  have hn : ((atL L 0).key :: L'.map Thing.key).Nodup := by
    have := (hp.map Thing.key).nodup_iff.2 h.nod
    rwa [List.map_cons] at this
  rw [List.nodup_cons] at hn
  have hG := fun i => gAt_set g p i hpg
  have hpend : ∀ i, pendB d (g.set p true) i = if i = p then false else pendB d g i := fun i => by
    unfold pendB
    rw [hG]
    by_cases e : i = p
    · subst e; rw [if_pos rfl, if_pos rfl]; simp
    · rw [if_neg e, if_neg e]
  refine ⟨p, least_some.2 ⟨h1, h3, fun i hi => ?_⟩, h2, h4, ?_⟩
  · cases he : pendB d g i with
    | false => rfl
    | true =>
      obtain ⟨t, ht, hk⟩ := h.all i (by omega) he
      have := head_le hh t ht
      rw [leT_iff] at this
      omega
  · exact {
      gl := by rw [List.length_set]; exact h.gl
      key := fun t ht => by
        have htL : t ∈ L := hp.mem_iff.1 (List.mem_cons_of_mem _ ht)
        obtain ⟨q, a1, a2, a3, a4⟩ := h.key t htL
        have hne : q ≠ p := fun e => hn.1 (by
          rw [h2, ← e, ← a2]; exact List.mem_map.2 ⟨t, ht, rfl⟩)
        exact ⟨q, a1, a2, by rw [hpend, if_neg hne]; exact a3, a4⟩
      all := fun q hq hqe => by
        rw [hpend] at hqe
        by_cases e : q = p
        · rw [if_pos e] at hqe; cases hqe
        · rw [if_neg e] at hqe
          obtain ⟨t, ht, hk⟩ := h.all q hq hqe
          rcases List.mem_cons.1 (hp.mem_iff.2 ht) with e2 | e2
          · subst e2; omega
          · exact ⟨t, e2, hk⟩
      nod := hn.2
      gone := fun q hq hgq => by
        rw [hG] at hgq
        by_cases e : q = p
        · subst e; exact (pend_gone h3).2
        · rw [if_neg e] at hgq; exact h.gone q hq hgq
      num := h.num
      len := by
        have := hp.length_eq
        have := h.len
        simp at *
        omega }
end Go.Proofs.Ytefijgdbnjmifaa

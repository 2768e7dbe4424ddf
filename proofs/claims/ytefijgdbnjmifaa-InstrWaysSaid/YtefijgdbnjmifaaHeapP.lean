/- Heaps in plain Lean. -/
import Derived.Test.YtefijgdbnjmifaaHeapA
namespace Go.Proofs.Ytefijgdbnjmifaa
open Go.RowKit

def ltT (a b : Thing) : Bool := decide (aheadI a b < 0)
theorem ltT_iff (a b : Thing) : ltT a b = true ↔ (a.key < b.key ∨ (a.key = b.key ∧ a.num < b.num)) := by
  unfold ltT aheadI orI cmpI
  simp only [decide_eq_true_eq]
  split <;> split <;> (try split) <;> (try split) <;> omega
def leT (a b : Thing) : Prop := ltT b a = false
theorem leT_iff (a b : Thing) : leT a b ↔ (a.key < b.key ∨ (a.key = b.key ∧ a.num ≤ b.num)) := by
  have := ltT_iff b a
  unfold leT
  rw [← Bool.not_eq_true, this]; omega
theorem leT_trans {a b c : Thing} (h : leT a b) (k : leT b c) : leT a c := by rw [leT_iff] at *; omega
theorem leT_of_lt {a b : Thing} (h : ltT a b = true) : leT a b := by rw [ltT_iff] at h; rw [leT_iff]; omega
theorem leT_refl (a : Thing) : leT a a := by rw [leT_iff]; omega
theorem leT_total (a b : Thing) : leT a b ∨ leT b a := by rw [leT_iff, leT_iff]; omega
def zT : Thing := ⟨0, 0, 0⟩
/-- What stands at a place. -/
def atL (L : List Thing) (j : Nat) : Thing := L.getD j zT
theorem atL_get (L : List Thing) (j : Nat) (h : j < L.length) : atL L j = L[j] := by simp [atL, List.getD, h]
theorem atL_set (L : List Thing) (i : Nat) (x : Thing) (j : Nat) (h : i < L.length) : atL (L.set i x) j = if j = i then x else atL L j := by
  unfold atL List.getD
  by_cases e : j = i
  · subst e; simp [h]
  · rw [if_neg e, List.getElem?_set_ne (fun h => e h.symm)]
theorem atL_take (L : List Thing) (n j : Nat) (h : j < n) : atL (L.take n) j = atL L j := by
  unfold atL List.getD
  rw [List.getElem?_take_of_lt h]
def IsHeap (L : List Thing) : Prop := ∀ j, 0 < j → j < L.length → leT (atL L ((j - 1) / 2)) (atL L j)
def UpHeap (L : List Thing) (i : Nat) : Prop :=
  (∀ j, 0 < j → j < L.length → j ≠ i → leT (atL L ((j - 1) / 2)) (atL L j)) ∧ (0 < i → ∀ j, 0 < j → j < L.length → (j - 1) / 2 = i → leT (atL L ((i - 1) / 2)) (atL L j))
def DownHeap (L : List Thing) (i : Nat) : Prop :=
  (∀ j, 0 < j → j < L.length → (j - 1) / 2 ≠ i → leT (atL L ((j - 1) / 2)) (atL L j)) ∧ (0 < i → ∀ j, 0 < j → j < L.length → (j - 1) / 2 = i → leT (atL L ((i - 1) / 2)) (atL L j))
def swapL (L : List Thing) (i p : Nat) : List Thing := (L.set i (atL L p)).set p (atL L i)
theorem swapL_length (L : List Thing) (i p : Nat) : (swapL L i p).length = L.length := by simp [swapL]
theorem swapL_at (L : List Thing) (i p j : Nat) (hi : i < L.length) (hp : p < L.length) : atL (swapL L i p) j = if j = p then atL L i else if j = i then atL L p else atL L j := by
  unfold swapL
  rw [atL_set _ _ _ _ (by simpa using hp), atL_set _ _ _ _ hi]
theorem swapL_perm (L : List Thing) (i p : Nat) (hi : i < L.length) (hp : p < L.length) : (swapL L i p).Perm L := by
  unfold swapL
  rw [atL_get _ _ hi, atL_get _ _ hp]
  exact List.set_set_perm hi hp
theorem swapL_hole (M : List Thing) (i p : Nat) (x : Thing) (hi : i < M.length) (hne : p ≠ i) : swapL (M.set i x) i p = (M.set i (atL M p)).set p x := by
  unfold swapL
  rw [atL_set _ _ _ _ hi, atL_set _ _ _ _ hi, if_neg hne, if_pos rfl, List.set_set]
theorem up_step {L : List Thing} {i : Nat} (h : UpHeap L i) (hi : i < L.length) (h0 : 0 < i) (hlt : ltT (atL L i) (atL L ((i - 1) / 2)) = true) : UpHeap (swapL L i ((i - 1) / 2)) ((i - 1) / 2) := by
  have hp : (i - 1) / 2 < i := by omega
  generalize hP : (i - 1) / 2 = p at *
  have hpl : p < L.length := by omega
  refine ⟨?_, ?_⟩
  · intro j hj hjl hne
    rw [swapL_length] at hjl
    rw [swapL_at _ _ _ _ hi hpl, swapL_at _ _ _ _ hi hpl, if_neg hne]
    by_cases e1 : j = i
    · subst e1
      rw [if_pos rfl, hP, if_pos rfl]
      exact leT_of_lt hlt
    · rw [if_neg e1]
      by_cases e2 : (j - 1) / 2 = p
      · rw [if_pos e2]
        have := h.1 j hj hjl e1
        rw [e2] at this
        exact leT_trans (leT_of_lt hlt) this
      · rw [if_neg e2]
        by_cases e3 : (j - 1) / 2 = i
        · rw [if_pos e3]
          have := h.2 h0 j hj hjl e3
          rw [hP] at this; exact this
        · rw [if_neg e3]
          exact h.1 j hj hjl e1
  · intro hp0 j hj hjl he
    rw [swapL_length] at hjl
    rw [swapL_at _ _ _ _ hi hpl, swapL_at _ _ _ _ hi hpl]
    have hpp := h.1 p hp0 hpl (by omega)
    rw [if_neg (show (p - 1) / 2 ≠ p from by omega), if_neg (show (p - 1) / 2 ≠ i from by omega), if_neg (show j ≠ p from by omega)]
    by_cases e1 : j = i
    · rw [if_pos e1]; exact hpp
    · rw [if_neg e1]
      have := h.1 j hj hjl e1
      rw [he] at this
      exact leT_trans hpp this
theorem up_end {L : List Thing} {i : Nat} (h : UpHeap L i) (he : i = 0 ∨ ltT (atL L i) (atL L ((i - 1) / 2)) = false) : IsHeap L := fun j hj hjl => by
  by_cases e : j = i
  · subst e
    rcases he with he | he
    · omega
    · exact he
  · exact h.1 j hj hjl e
theorem up_of {L : List Thing} (h : IsHeap L) (i : Nat) (hi : i < L.length) : UpHeap L i :=
  ⟨fun j hj hjl _ => h j hj hjl, fun h0 j hj hjl he => leT_trans (h i h0 hi) (by have := h j hj hjl; rwa [he] at this)⟩
theorem up_push {L : List Thing} (h : IsHeap L) (x : Thing) : UpHeap (L ++ [x]) L.length := by
  have ha : ∀ j, j < L.length → atL (L ++ [x]) j = atL L j := fun j hj => by unfold atL List.getD; rw [List.getElem?_append_left hj]
  refine ⟨fun j hj hjl hne => ?_, fun h0 j hj hjl he => ?_⟩
  · simp only [List.length_append, List.length_cons, List.length_nil] at hjl
    rw [ha j (by omega), ha _ (by omega)]
    exact h j hj (by omega)
  · simp only [List.length_append, List.length_cons, List.length_nil] at hjl
    omega
theorem down_step {L : List Thing} {i k : Nat} (h : DownHeap L i) (hi : i < L.length) (hk : k < L.length) (hc : k = 2 * i + 1 ∨ k = 2 * i + 2) (hle : ltT (atL L i) (atL L k) = false)
    (hmin : ∀ j, j < L.length → (j = 2 * i + 1 ∨ j = 2 * i + 2) → leT (atL L k) (atL L j)) : DownHeap (swapL L i k) k := by
  refine ⟨?_, ?_⟩
  · intro j hj hjl hne
    rw [swapL_length] at hjl
    rw [swapL_at _ _ _ _ hi hk, swapL_at _ _ _ _ hi hk, if_neg hne]
    by_cases e1 : j = k
    · subst e1
      rw [if_pos rfl, if_pos (show (j - 1) / 2 = i from by omega)]
      exact hle
    · rw [if_neg e1]
      by_cases e2 : j = i
      · rw [if_pos e2, if_neg (show (j - 1) / 2 ≠ i from by omega)]
        have := h.2 (by omega) k (by omega) hk (by omega)
        rw [e2]; exact this
      · rw [if_neg e2]
        by_cases e3 : (j - 1) / 2 = i
        · rw [if_pos e3]
          exact hmin j hjl (by omega)
        · rw [if_neg e3]
          exact h.1 j hj hjl e3
  · intro hk0 j hj hjl he
    rw [swapL_length] at hjl
    rw [swapL_at _ _ _ _ hi hk, swapL_at _ _ _ _ hi hk]
    rw [if_neg (show (k - 1) / 2 ≠ k from by omega), if_pos (show (k - 1) / 2 = i from by omega), if_neg (show j ≠ k from by omega), if_neg (show j ≠ i from by omega)]
    have := h.1 j hj hjl (by omega)
    rwa [he] at this
theorem down_end {L : List Thing} {i : Nat} (h : DownHeap L i) (he : ∀ j, j < L.length → (j = 2 * i + 1 ∨ j = 2 * i + 2) → leT (atL L i) (atL L j)) : IsHeap L := fun j hj hjl => by
  by_cases e : (j - 1) / 2 = i
  · rw [e]; exact he j hjl (by omega)
  · exact h.1 j hj hjl e
theorem down_drop {L : List Thing} (h : IsHeap L) (y : Thing) : DownHeap (((L.take (L.length - 1)).set 0 y)) 0 := by
  refine ⟨fun j hj hjl hne => ?_, fun h0 => absurd h0 (by omega)⟩
  have hl : (L.take (L.length - 1)).length = L.length - 1 := by simp
  simp only [List.length_set, hl] at hjl
  rw [atL_set _ _ _ _ (by omega), atL_set _ _ _ _ (by omega), if_neg hne, if_neg (by omega), atL_take _ _ _ (by omega), atL_take _ _ _ (by omega)]
  exact h j hj (by omega)
/-- The first is the least. -/
theorem head_least {L : List Thing} (h : IsHeap L) : ∀ n j, j ≤ n → j < L.length → leT (atL L 0) (atL L j) := by
  intro n
  induction n with
  | zero => intro j hj _; rw [show j = 0 from by omega]; exact leT_refl _
  | succ n ih =>
    intro j hj hl
    by_cases h0 : j = 0
    · subst h0; exact leT_refl _
    · exact leT_trans (ih ((j - 1) / 2) (by omega) (by omega)) (h j (by omega) hl)
theorem head_le {L : List Thing} (h : IsHeap L) : ∀ t ∈ L, leT (atL L 0) t := fun t ht => by
  obtain ⟨j, hj, rfl⟩ := List.getElem_of_mem ht
  rw [← atL_get L j hj]
  exact head_least h j j (Nat.le_refl _) hj
/-- What is left when the first is dropped. -/
theorem drop_perm {L : List Thing} (h : 1 < L.length) : (atL L 0 :: (L.take (L.length - 1)).set 0 (atL L (L.length - 1))).Perm L := by
  match L, h with
  | a :: M, h =>
    have hM : 0 < M.length := by simpa using h
    have e : M.length - 1 + 1 = M.length := by omega
    have e1 : atL (a :: M) (M.length + 1 - 1) = M[M.length - 1] := by
      rw [atL_get _ _ (by simp)]
      simp only [Nat.add_sub_cancel]
      conv => lhs; arg 2; rw [← e]
      rfl
    simp only [List.length_cons]
    rw [e1, show M.length + 1 - 1 = (M.length - 1) + 1 from by omega, List.take_succ_cons, List.set_cons_zero]
    show (a :: M[M.length - 1] :: M.take (M.length - 1)).Perm (a :: M)
    refine List.Perm.cons _ ?_
    have e2 : M = M.take (M.length - 1) ++ [M[M.length - 1]] := by
      rw [← List.take_succ_eq_append_getElem (by omega), e, List.take_length]
    conv => rhs; rw [e2]
    exact (List.perm_append_singleton _ _).symm
end Go.Proofs.Ytefijgdbnjmifaa

/- Plain: code with a depth for each place fits. -/
import Derived.Test.YtjfdokoigkdciaaCplL
namespace Go.Proofs.Ytjfdokoigkdciaa
open Go.RowKit

/-- A place of the code fits the depths L: it is right, deep enough, and all that follows is as deep as it should be; a jump goes on, or to what costs. -/
structure PlOk (n : Nat) (L : Nat → Int) (C : List InsV) (p : Nat) : Prop where
  rt : rightI (atV C p).ins (n : Int) = true
  nn : 0 ≤ L p
  en : endsK (atV C p).op = true → L p = takesI (atV C p).ins
  tk : endsK (atV C p).op = false → takesI (atV C p).ins ≤ L p
  tg : endsK (atV C p).op = false → aK (atV C p).op = 1 → (atV C p).a.toNat < n ∧ L (atV C p).a.toNat = thereI (atV C p).ins (L p)
  nx : endsK (atV C p).op = false → (atV C p).op ≠ 1 → p + 1 < n ∧ L (p + 1) = nextI (atV C p).ins (L p)
  jp : (atV C p).op = 1 → p < (atV C p).a.toNat ∨ ((atV C (atV C p).a.toNat).op ≠ 1 ∧ (atV C (atV C p).a.toNat).op ≠ 5)
def LOk (L : Nat → Int) (d : List Int) : Prop := ∀ i, i < d.length → dAt d i = -1 ∨ dAt d i = L i
theorem meet_ok {L : Nat → Int} {d : List Int} {q : Nat} {x : Int} (h : LOk L d) (hq : q < d.length) (hx : x = L q) : (meetS d q x).2 = true ∧ LOk L (meetS d q x).1 := by
  unfold meetS
  rw [if_neg (by omega)]
  by_cases h1 : d.getD q 0 < 0
  · rw [if_pos h1]
    refine ⟨rfl, fun i hi => ?_⟩
    show dAt (d.set q x) i = -1 ∨ dAt (d.set q x) i = L i
    rw [dAt_set _ _ _ _ hq]
    by_cases e : i = q
    · rw [if_pos e, e]; exact .inr hx
    · rw [if_neg e]; exact h i (by simpa using hi)
  · rw [if_neg h1]
    refine ⟨?_, h⟩
    have e : d.getD q 0 = L q := by
      rcases h q hq with e | e
      · exact absurd (show dAt d q < 0 by omega) h1
      · exact e
    show (d.getD q 0 == x) = true
    rw [e, hx, beq_self_eq_true]
theorem through_ok {n : Nat} {L : Nat → Int} {C : List InsV} {d : List Int} {p : Nat} (hP : ∀ p, p < n → PlOk n L C p) (hd : d.length = n) (h : LOk L d) (hp : p < n) (hl : dAt d p = L p) :
    (throughS (atI (insL C) p) d p).2 = true ∧ LOk L (throughS (atI (insL C) p) d p).1 := by
  have H := hP p hp
  rw [atI_ins]
  generalize hx : atV C p = x at *
  have ho : x.ins.op = x.op := rfl
  have ha : x.ins.a = x.a := rfl
  unfold throughS
  rw [show d.getD p 0 = L p from hl]
  simp only [ho, ha]
  cases he : endsK x.op with
  | true =>
    have h1 := H.en
    rw [hx] at h1
    rw [if_pos rfl]
    exact ⟨by simp; exact h1 he, h⟩
  | false =>
    have h1 := H.tk
    have h2 := H.tg
    have h3 := H.nx
    rw [hx] at h1 h2 h3
    have h1 := h1 he
    have h2 := h2 he
    have h3 := h3 he
    rw [if_neg (by decide), if_neg (by omega)]
    by_cases hk : aK x.op = 1
    · obtain ⟨k1, k2⟩ := h2 hk
      obtain ⟨m1, m2⟩ := meet_ok (q := x.a.toNat) (x := thereI x.ins (L p)) h (by omega) k2.symm
      rw [if_pos hk, m1]
      rw [if_neg (by decide)]
      by_cases h1' : x.op = 1
      · rw [if_pos h1']; exact ⟨rfl, m2⟩
      · rw [if_neg h1']
        obtain ⟨n1, n2⟩ := h3 h1'
        exact meet_ok m2 (by rw [meet_length]; omega) n2.symm
    · rw [if_neg hk]
      simp only [Bool.not_true, Bool.false_eq_true, if_false]
      by_cases h1' : x.op = 1
      · rw [if_pos h1']; exact ⟨rfl, h⟩
      · rw [if_neg h1']
        obtain ⟨n1, n2⟩ := h3 h1'
        exact meet_ok h (by omega) n2.symm
theorem go_ok {n : Nat} {L : Nat → Int} {C : List InsV} (hP : ∀ p, p < n → PlOk n L C p) : ∀ (k : Nat) (d : List Int) (g : List Bool), d.length = n → LOk L d → (goS (insL C) k d g).2 = -1
  | 0, _, _, _, _ => rfl
  | k + 1, d, g, hd, h => by
    unfold goS
    cases hl : leastB d g with
    | none => rfl
    | some p =>
      simp only
      obtain ⟨h1, h2, _⟩ := least_some.1 hl
      have h3 := (pend_gone h2).2
      have h4 : dAt d p = L p := by rcases h p h1 with e | e <;> omega
      obtain ⟨t1, t2⟩ := through_ok hP hd h (by omega) h4
      rw [if_pos t1]
      exact go_ok hP k _ _ (by rw [through_length]; exact hd) t2
theorem free_noR {n : Nat} {L : Nat → Int} {C : List InsV} (hP : ∀ p, p < n → PlOk n L C p) : ∀ (k i : Nat), i < n → n - i < k → freeS (insL C) k i = false
  | 0, i, _, h => by omega
  | k + 1, i, hi, h => by
    have H := hP i hi
    rw [freeS, atI_ins]
    generalize hx : atV C i = x at *
    have ho : x.ins.op = x.op := rfl
    have ha : x.ins.a = x.a := rfl
    rw [ho, ha]
    by_cases h1 : x.op = 1
    · rw [if_pos h1]
      have h2 := H.tg
      have h3 := H.jp
      rw [hx] at h2 h3
      have he : endsK x.op = false := by rw [h1]; rfl
      have hk : aK x.op = 1 := by rw [h1]; rfl
      obtain ⟨k1, _⟩ := h2 he hk
      rcases h3 h1 with h4 | ⟨h4, h5⟩
      · exact free_noR hP k _ k1 (by omega)
      · obtain ⟨k', rfl⟩ : ∃ k', k = k' + 1 := ⟨k - 1, by omega⟩
        rw [freeS, atI_ins]
        have ho2 : (atV C x.a.toNat).ins.op = (atV C x.a.toNat).op := rfl
        rw [ho2, if_neg h4, if_neg h5]
    · rw [if_neg h1]
      by_cases h5 : x.op = 5
      · rw [if_pos h5]
        have h3 := H.nx
        rw [hx] at h3
        obtain ⟨n1, _⟩ := h3 (by rw [h5]; rfl) h1
        exact free_noR hP k _ n1 (by omega)
      · rw [if_neg h5]
/-- Code that fits is said to be right. -/
theorem look_ok {n : Nat} {L : Nat → Int} {C : List InsV} (hP : ∀ p, p < n → PlOk n L C p) (hC : C.length = n) (h0 : 0 < n) (hn : n ≤ 8192) (hL : L 0 = 0) {p : Int} (hp : 0 ≤ p ∧ p ≤ 100) : (lookS (insL C) p).e = 0 := by
  have hlen : (insL C).length = n := by rw [insL_length, hC]
  unfold lookS
  rw [if_neg (by omega), hlen, if_neg (by omega), if_neg (by omega)]
  have hb : badAt (insL C) = none := by
    unfold badAt
    rw [hlen, List.find?_range_eq_none]
    intro i hi
    have := (hP i hi).rt
    rw [atI_ins, this]; rfl
  rw [hb]
  simp only
  have hf : (fitsS (insL C)).2 = -1 := by
    unfold fitsS
    refine go_ok hP _ _ _ (by unfold d0S; simp [hlen]) (fun i hi => ?_)
    have hi' : i < n := by unfold d0S at hi; simpa [hlen] using hi
    rw [hlen, dAt_d0 _ _ hi']
    by_cases e : i = 0
    · rw [if_pos e, e, hL]; exact .inr rfl
    · rw [if_neg e]; exact .inl rfl
  have hw : wrongS (insL C) = -1 := by
    unfold wrongS
    rw [hf, if_pos (by decide)]
    unfold circAt
    have : ((List.range (insL C).length).find? fun i => decide (0 ≤ dAt (fitsS (insL C)).1 i) && circS (insL C) i) = none := by
      rw [hlen, List.find?_range_eq_none]
      intro i hi
      have : circS (insL C) i = false := by unfold circS; rw [hlen]; exact free_noR hP _ _ hi (by omega)
      simp [this]
    rw [this]; rfl
  rw [hw, if_neg (by decide)]
end Go.Proofs.Ytjfdokoigkdciaa

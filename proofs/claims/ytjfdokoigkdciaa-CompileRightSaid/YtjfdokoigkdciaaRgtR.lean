/- Plain: a right tree's code has a depth for each place: every kind of twig. -/
import Derived.Test.YtjfdokoigkdciaaRgtQ
namespace Go.Proofs.Ytjfdokoigkdciaa
open Go.RowKit

/-- The number of a twig's own instruction. -/
def ownN (op : Nat) : Nat := if op = 4 ∨ op = 5 then 27 else if op = 11 then 6 else op
def spec (op : Nat) : Bool := op == 1 || op == 2 || op == 3 || op == 6 || op == 7 || op == 30 || op == 31 || op == 53
/-- What is known of a twig's own instruction. -/
structure OwnT (op : Nat) : Prop where
  is : isK (ownN op) = true
  ak : aK (ownN op) ≠ 1
  n1 : ownN op ≠ 1
  n5 : ownN op ≠ 5
  n28 : ownN op ≠ 28
  n53 : ownN op ≠ 53
  tk : aK (ownN op) ≠ 3 → (formS op).lo = takesK (ownN op) ∧ (formS op).hi = takesK (ownN op)
  en : endsK (ownN op) = true → takesK (ownN op) = 1 ∧ exprO op = false ∧ aK (ownN op) ≠ 3
  lv : endsK (ownN op) = false → leaveK (ownN op) = dl op
  pk : (formS op).pk = 4 ∨ (formS op).pk = 1
  no : (formS op).pk = 1 → (formS op).hi = 0
theorem own_t {op : Nat} (hi : isO op = true) (hs : spec op = false) : OwnT op := by
  have hlt : op < 58 := by
    rcases Nat.lt_or_ge op 58 with h | h
    · exact h
    · exfalso
      have : formN op = 0 := by
        unfold formN
        repeat rw [if_neg (by omega)]
      unfold isO at hi
      rw [this] at hi
      cases hi
  have key : ∀ o : Fin 58, isO o.val = true → spec o.val = false → (isK (ownN o.val) = true ∧ aK (ownN o.val) ≠ 1 ∧ ownN o.val ≠ 1 ∧ ownN o.val ≠ 5 ∧ ownN o.val ≠ 28 ∧ ownN o.val ≠ 53 ∧
      (aK (ownN o.val) ≠ 3 → (formS o.val).lo = takesK (ownN o.val) ∧ (formS o.val).hi = takesK (ownN o.val)) ∧ (endsK (ownN o.val) = true → takesK (ownN o.val) = 1 ∧ exprO o.val = false ∧ aK (ownN o.val) ≠ 3) ∧
      (endsK (ownN o.val) = false → leaveK (ownN o.val) = dl o.val) ∧ ((formS o.val).pk = 4 ∨ (formS o.val).pk = 1) ∧ ((formS o.val).pk = 1 → (formS o.val).hi = 0)) := by decide
  obtain ⟨a1, a2, a3, a4, a5, a6, a7, a8, a9, a10, a11⟩ := key ⟨op, hlt⟩ hi hs
  exact ⟨a1, a2, a3, a4, a5, a6, a7, a8, a9, a10, a11⟩
/-- A twig's own instruction is right, and takes as many as the twig has parts. -/
structure OwnI (x : InsV) (y : InsV) : Prop where
  op : y.op = ownN x.op
  rt : ∀ n : Int, rightI y.ins n = true
  tk : takesI y.ins = x.a
theorem text_name {x : InsV} {may : Nat → Bool} (h : okTw x may = true) (ht : (formS x.op).tk = 0) : nameB x.text.data.toList = true := by
  unfold okTw at h
  simp only [Bool.and_eq_true] at h
  obtain ⟨⟨⟨⟨⟨_, h2⟩, _⟩, _⟩, _⟩, _⟩ := h
  rw [ht] at h2
  unfold twText ownS at h2
  simp only [if_true, Bool.and_eq_true] at h2
  exact h2.1
theorem text_short {x : InsV} {may : Nat → Bool} (h : okTw x may = true) (ht : (formS x.op).tk = 2) : x.text.data.toList.length < 4096 := by
  unfold okTw at h
  simp only [Bool.and_eq_true] at h
  obtain ⟨⟨⟨⟨⟨_, h2⟩, _⟩, _⟩, _⟩, _⟩ := h
  rw [ht] at h2
  unfold twText at h2
  rw [if_neg (by decide), if_neg (by decide), decide_eq_true_eq] at h2
  have : x.text.data.toList.length = x.text.size := by show _ = x.text.data.size; simp
  omega
theorem own_i {x : InsV} {may : Nat → Bool} {slot : Int} (h : okTw x may = true) (hs : spec x.op = false) (hsl : (x.op = 4 ∨ x.op = 5 ∨ x.op = 26) → 0 ≤ slot ∧ slot < 100) : ∃ y, plainI x slot = [y] ∧ OwnI x y := by
  have T := own_t (tw_is h) hs
  obtain ⟨_, hlo, hhi⟩ := tw_form h
  have hab : 0 ≤ x.a ∧ x.a ≤ 2048 := by
    have : 0 ≤ (formS x.op).lo ∧ (formS x.op).hi ≤ 2048 := by
      unfold formS
      generalize formN x.op = n
      unfold formR
      split <;> decide
    omega
  have hr0 : ∀ (o : Nat) (n : Int), isK o = true → numK o = false ∨ True → aK o = 0 → textK o = 0 → rightI (insO o).ins n = true := fun o n h1 _ h2 h3 => by
    unfold rightI topK textOk
    rw [show (insO o).ins.op = o from rfl, h1, h2, h3, show (insO o).ins.int = 0 from rfl, show (insO o).ins.a = 0 from rfl, show (insO o).ins.text = [] from rfl]
    simp
  unfold plainI
  have h3 : x.op ≠ 3 := fun e => by rw [e] at hs; cases hs
  rw [if_neg h3]
  by_cases h4 : x.op = 4 ∨ x.op = 5
  · rw [if_pos h4]
    have ho : ownN x.op = 27 := by unfold ownN; rw [if_pos h4]
    refine ⟨_, rfl, ho.symm, fun n => ?_, ?_⟩
    · have := hsl (by omega)
      unfold rightI topK textOk
      rw [show (insA 27 slot).ins.op = 27 from rfl, show (insA 27 slot).ins.int = 0 from rfl, show (insA 27 slot).ins.a = slot from rfl, show (insA 27 slot).ins.text = [] from rfl]
      simp [isK, aK, textK]; omega
    · have := T.tk (by rw [ho]; decide)
      rw [ho] at this
      show (1 : Int) = x.a
      have : takesK 27 = 1 := rfl
      omega
  · rw [if_neg h4]
    by_cases h26 : x.op = 26
    · rw [if_pos h26]
      have ho : ownN x.op = 26 := by rw [h26]; rfl
      refine ⟨_, rfl, ho.symm, fun n => ?_, ?_⟩
      · have := hsl (by omega)
        unfold rightI topK textOk
        rw [show (insA 26 slot).ins.op = 26 from rfl, show (insA 26 slot).ins.int = 0 from rfl, show (insA 26 slot).ins.a = slot from rfl, show (insA 26 slot).ins.text = [] from rfl]
        simp [isK, aK, textK]; omega
      · have := T.tk (by rw [ho]; decide)
        rw [ho] at this
        show (0 : Int) = x.a
        have : takesK 26 = 0 := rfl
        omega
    · rw [if_neg h26]
      by_cases h11 : x.op = 11
      · rw [if_pos h11]
        have ho : ownN x.op = 6 := by rw [h11]; rfl
        refine ⟨_, rfl, ho.symm, fun n => rfl, ?_⟩
        have := T.tk (by rw [ho]; decide)
        rw [ho] at this
        show (1 : Int) = x.a
        have : takesK 6 = 1 := rfl
        omega
      · rw [if_neg h11]
        have ho : ownN x.op = x.op := by unfold ownN; rw [if_neg h4, if_neg h11]
        by_cases h23 : x.op = 23
        · rw [if_pos h23]
          refine ⟨_, rfl, by rw [ho, h23], fun n => ?_, ?_⟩
          · unfold rightI topK textOk
            simp [InsV.ins, isK, numK, aK, textK]
          · have := T.tk (by rw [ho, h23]; decide)
            rw [ho, h23] at this
            show (0 : Int) = x.a
            have : takesK 23 = 0 := rfl
            rw [h23] at hlo hhi
            omega
        · rw [if_neg h23]
          by_cases h24 : x.op = 24
          · rw [if_pos h24]
            refine ⟨_, rfl, by rw [ho, h24], fun n => ?_, ?_⟩
            · have := text_short h (by rw [h24]; rfl)
              unfold rightI topK textOk
              simp [InsV.ins, isK, numK, aK, textK]
              exact decide_eq_true (by simpa using this)
            · have := T.tk (by rw [ho, h24]; decide)
              rw [ho, h24] at this
              show (0 : Int) = x.a
              have : takesK 24 = 0 := rfl
              rw [h24] at hlo hhi
              omega
          · rw [if_neg h24]
            by_cases h25 : x.op = 25
            · rw [if_pos h25]
              refine ⟨_, rfl, by rw [ho, h25]; rfl, fun n => ?_, rfl⟩
              unfold rightI topK textOk
              rw [show (insA 25 x.a).ins.op = 25 from rfl, show (insA 25 x.a).ins.int = 0 from rfl, show (insA 25 x.a).ins.a = x.a from rfl, show (insA 25 x.a).ins.text = [] from rfl]
              simp [isK, aK, textK]; omega
            · rw [if_neg h25]
              by_cases h50 : x.op = 50 ∨ x.op = 51
              · rw [if_pos h50]
                refine ⟨_, rfl, ho.symm, fun n => ?_, ?_⟩
                · have := text_name h (by rcases h50 with e | e <;> rw [e] <;> rfl)
                  unfold rightI topK textOk
                  rcases h50 with e | e <;> simp [InsV.ins, e, isK, numK, aK, textK] <;> exact ⟨⟨hab.1, by omega⟩, by simpa using this⟩
                · unfold takesI
                  rcases h50 with e | e <;> simp [InsV.ins, e, aK]
              · rw [if_neg h50]
                by_cases h56 : x.op = 56
                · rw [if_pos h56]
                  refine ⟨_, rfl, by rw [ho, h56], fun n => ?_, ?_⟩
                  · have := text_name h (by rw [h56]; rfl)
                    unfold rightI topK textOk
                    simp [InsV.ins, isK, numK, aK, textK]
                    simpa using this
                  · have := T.tk (by rw [ho, h56]; decide)
                    rw [ho, h56] at this
                    show (0 : Int) = x.a
                    have : takesK 56 = 0 := rfl
                    rw [h56] at hlo hhi
                    omega
                · rw [if_neg h56]
                  have ha0 : aK x.op = 0 := by
                    have := T.ak
                    rw [ho] at this
                    unfold aK at this ⊢
                    split at this
                    · exact absurd rfl this
                    · rename_i g
                      rw [if_neg g, if_neg (by have : x.op ≠ 27 := fun e => by have := tw_is h; rw [e] at this; cases this
                                               omega), if_neg (by omega)]
                  have ht0 : textK x.op = 0 := by unfold textK; rw [if_neg h24, if_neg (by omega)]
                  refine ⟨_, rfl, ho.symm, fun n => hr0 _ n (by have := T.is; rwa [ho] at this) (.inr trivial) ha0 ht0, ?_⟩
                  have := T.tk (by rw [ho, ha0]; decide)
                  rw [ho] at this
                  unfold takesI
                  rw [show (insO x.op).ins.op = x.op from rfl, ha0, if_neg (by decide)]
                  omega
end Go.Proofs.Ytjfdokoigkdciaa

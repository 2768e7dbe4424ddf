/- The plain law: a right tree's code has just one costly instruction for each twig that counts. -/
import Derived.Test.YtjfdokoigkdciaaCplP
namespace Go.Proofs.Ytjfdokoigkdciaa
open Go.RowKit

theorem cnt_add {cs : List InsV} {a b c : Nat} (h1 : a ≤ b) (h2 : b ≤ c) : cntS cs a c = cntS cs a b + cntS cs b c := by
  unfold cntS
  rw [← List.countP_append]
  congr 1
  rw [show c - a = (b - a) + (c - b) by omega, List.take_add, List.drop_drop, show a + (b - a) = b by omega]
theorem cnt_one {cs : List InsV} {a : Nat} (h : a < cs.length) : cntS cs a (a + 1) = if cntT (atV cs a) then 1 else 0 := by
  unfold cntS atV
  rw [show a + 1 - a = 1 by omega, List.drop_eq_getElem_cons h, List.take_succ_cons, List.take_zero, List.countP_cons, List.countP_nil, List.getD_eq_getElem?_getD, List.getElem?_eq_getElem h]
  simp
/-- What the parts of a twig may be is no parameter, but for the flow's. -/
theorem part_no {pk : Nat} {i n : Int} {op : Nat} (h0 : pk ≠ 0) (h : partOk pk i n op = true) : op ≠ 2 := by
  intro e
  subst e
  unfold partOk at h
  rw [if_neg h0] at h
  by_cases h1 : pk = 1
  · rw [if_pos h1] at h; cases h
  · rw [if_neg h1] at h
    by_cases h2 : pk = 2
    · rw [if_pos h2] at h; exact absurd h (by decide)
    · rw [if_neg h2] at h
      by_cases h3 : pk = 3
      · rw [if_pos h3] at h; simp [exprO] at h
      · rw [if_neg h3] at h
        by_cases h4 : pk = 4
        · rw [if_pos h4] at h; exact absurd h (by decide)
        · rw [if_neg h4] at h; exact absurd h (by decide)
theorem formN_one {op : Nat} (h : op ≠ 1) : formN op ≠ 1 := by
  rcases Nat.lt_or_ge op 58 with hh | hh
  · have key : ∀ o : Fin 58, o.val ≠ 1 → formN o.val ≠ 1 := by decide
    exact key ⟨op, hh⟩ h
  · unfold formN
    repeat rw [if_neg (by omega)]
    decide
theorem form_pk {op : Nat} (h : op ≠ 1) : (formS op).pk ≠ 0 := by
  have := formN_one h
  unfold formS
  generalize formN op = n at *
  unfold formR
  split <;> simp_all
theorem tw_form {x : InsV} {may : Nat → Bool} (h : okTw x may = true) : may x.op = true ∧ (formS x.op).lo ≤ x.a ∧ x.a ≤ (formS x.op).hi := by
  unfold okTw at h
  simp only [Bool.and_eq_true, decide_eq_true_eq] at h
  exact ⟨h.1.1.1.1.1.2, h.1.1.1.2, h.1.1.2⟩
theorem rt_ok {cs : List InsV} {f at_ nx : Nat} {may : Nat → Bool} (h : Rt cs f at_ nx may) : okTw (atV cs at_) may = true := by
  cases f with
  | zero => exact h.elim
  | succ f => exact h.2.1
/-- What is known of a right tree's code: where the tree ends, how long the code is, how many of it cost. -/
structure Cp (cs : List InsV) (at_ nx : Nat) (r : List InsV × Nat) : Prop where
  le : at_ ≤ nx
  e : r.2 = nx
  l : r.1.length ≤ 3 * (nx - at_)
  c : r.1.countP costI = cntS cs at_ nx
theorem callS_ok {cs : List InsV} {nf : Nat → Nat → List InsV × Nat} {ks : Nat → Nat} {n : Nat} (h : ∀ i fr, i < n → Cp cs (ks i) (ks (i + 1)) (nf (ks i) fr)) :
    ∀ (r i fr : Nat), i + r = n → Cp cs (ks i) (ks n) (callS nf r (ks i) fr)
  | 0, i, fr, hn => by
    obtain rfl : i = n := by omega
    exact ⟨Nat.le_refl _, rfl, Nat.zero_le _, by unfold callS cntS; simp⟩
  | r + 1, i, fr, hn => by
    obtain ⟨a1, a2, a3, a4⟩ := h i fr (by omega)
    have ih := callS_ok h r (i + 1) (fr + (nf (ks i) fr).1.length) (by omega)
    rw [callS, a2]
    obtain ⟨b1, b2, b3, b4⟩ := ih
    refine ⟨by omega, b2, ?_, ?_⟩
    · rw [List.length_append]; omega
    · rw [List.countP_append, a4, b4, ← cnt_add a1 b1]
theorem plain_cost {x : InsV} (slot : Int) (h1 : x.op ≠ 1) (h2 : x.op ≠ 2) (hi : isO x.op = true) : (plainI x slot).countP costI = (if cntT x then 1 else 0) ∧ (plainI x slot).length ≤ 1 := by
  have hc : cntT x = !(x.op == 3) := by unfold cntT; simp [h1, h2]
  rw [hc]
  unfold plainI
  by_cases h3 : x.op = 3
  · rw [if_pos h3, h3]; exact ⟨rfl, Nat.zero_le _⟩
  · rw [if_neg h3]
    have hx : (!(x.op == 3)) = true := by simp [h3]
    rw [hx, if_pos rfl]
    by_cases h4 : x.op = 4 ∨ x.op = 5
    · rw [if_pos h4]; exact ⟨rfl, Nat.le_refl _⟩
    · rw [if_neg h4]
      repeat' split
      all_goals (refine ⟨?_, Nat.le_refl _⟩)
      all_goals (first | rfl | skip)
      · simp only [List.countP_cons, List.countP_nil, costI]
        rename_i ho
        rcases ho with e | e <;> rw [e] <;> rfl
      · have hn : x.op ≠ 28 := fun e => by rw [e] at hi; cases hi
        simp only [List.countP_cons, List.countP_nil, costI, insO]
        have : (!(x.op == 1) && !(x.op == 5) && !(x.op == 28)) = true := by simp; omega
        simp [this]
/-- A flow's parameters take one place each. -/
theorem param_one {cs : List InsV} {f at_ nx : Nat} {may : Nat → Bool} (h : Rt cs f at_ nx may) (ho : (atV cs at_).op = 2) : nx = at_ + 1 := by
  cases f with
  | zero => exact h.elim
  | succ f =>
    obtain ⟨_, h2, ks, k0, k1, _⟩ := h
    obtain ⟨_, l, u⟩ := tw_form h2
    rw [ho, show formS 2 = ⟨0, 0, 0, 1⟩ from rfl] at l u
    simp only at l u
    rw [show (atV cs at_).a.toNat = 0 by omega] at k1
    omega
theorem tw_is {x : InsV} {may : Nat → Bool} (h : okTw x may = true) : isO x.op = true := by
  unfold okTw at h
  simp only [Bool.and_eq_true] at h
  exact h.1.1.1.1.1.1
theorem cnt_mono {cs : List InsV} {a b : Nat} (h : a < b) (hb : b ≤ cs.length) : cntS cs a b = (if cntT (atV cs a) then 1 else 0) + cntS cs (a + 1) b := by
  rw [cnt_add (a := a) (b := a + 1) (c := b) (by omega) (by omega), cnt_one (by omega)]
theorem comp_ok (cs : List InsV) (slot : List Int) : ∀ (f at_ nx : Nat) (may : Nat → Bool), Rt cs f at_ nx may → (atV cs at_).op ≠ 2 → ∀ fr, Cp cs at_ nx (compS cs slot f at_ fr)
  | 0, _, _, _, h, _, _ => h.elim
  | f + 1, at_, nx, may, hr, h2, fr => by
    have hlt := hr.lt
    obtain ⟨h1, hok, ks, k0, k1, k2⟩ := hr
    have his := tw_is hok
    obtain ⟨_, hlo, hhi⟩ := tw_form hok
    have kid : ∀ i fr, i < (atV cs at_).a.toNat → (formS (atV cs at_).op).pk ≠ 0 → Cp cs (ks i) (ks (i + 1)) (compS cs slot f (ks i) fr) := fun i fr hi hp =>
      comp_ok cs slot f (ks i) (ks (i + 1)) _ (k2 i hi) (part_no hp (tw_form (rt_ok (k2 i hi))).1) fr
    have hcnt := cnt_mono hlt.1 hlt.2
    generalize hx : atV cs at_ = x at *
    obtain ⟨op, a, int, text⟩ := x
    simp only at h2 his hlo hhi kid k1 k2
    rw [compS, hx]
    simp only
    by_cases o1 : op = 1
    · subst o1
      rw [if_pos rfl]
      rw [show formS 1 = ⟨0, 1, 2048, 0⟩ from rfl] at hlo hhi k2
      simp only at hlo hhi k2
      obtain ⟨n, hn⟩ : ∃ n : Nat, a.toNat = n + 1 := ⟨a.toNat - 1, by omega⟩
      rw [hn] at k1 k2
      have par : ∀ i, i ≤ n → ks i = at_ + 1 + i ∧ cntS cs (at_ + 1) (ks i) = 0 := fun i => by
        induction i with
        | zero => intro _; exact ⟨by rw [k0], by rw [k0]; unfold cntS; simp⟩
        | succ i ih =>
          intro hi
          obtain ⟨e1, e2⟩ := ih (by omega)
          have hk := k2 i (by omega)
          have hm := (tw_form (rt_ok hk)).1
          have hop : (atV cs (ks i)).op = 2 := by
            unfold partOk at hm
            simp only [if_true, Bool.or_eq_true, Bool.and_eq_true, decide_eq_true_eq] at hm
            omega
          have hp := param_one hk hop
          have hl := hk.lt
          refine ⟨by omega, ?_⟩
          rw [cnt_add (b := ks i) (by omega) (by omega), e2, cnt_mono hl.1 hl.2, hp]
          have : cntT (atV cs (ks i)) = false := by unfold cntT; rw [hop]; rfl
          rw [this]
          unfold cntS; simp
      obtain ⟨p1, p2⟩ := par n (Nat.le_refl _)
      have hk := k2 n (by omega)
      have hm := (tw_form (rt_ok hk)).1
      have hop : (atV cs (ks n)).op ≠ 2 := by
        unfold partOk at hm
        simp only [if_true, Bool.or_eq_true, Bool.and_eq_true, decide_eq_true_eq] at hm
        omega
      obtain ⟨b1, b2, b3, b4⟩ := comp_ok cs slot f (ks n) (ks (n + 1)) _ hk hop fr
      rw [k1] at b1 b2 b3 b4
      rw [hn, show at_ + (n + 1) = ks n by omega]
      refine ⟨by omega, b2, ?_, ?_⟩
      · rw [List.length_append]; simp only [List.length_cons, List.length_nil]; omega
      · rw [List.countP_append, b4, hcnt, cnt_add (a := at_ + 1) (b := ks n) (by omega) b1, p2]
        show cntS cs (ks n) nx + 0 = 0 + (0 + cntS cs (ks n) nx)
        omega
    · rw [if_neg o1]
      have hp := form_pk o1
      have kid' := fun i fr hi => kid i fr hi hp
      clear kid
      by_cases o6 : op = 6
      · subst o6
        rw [if_pos rfl]
        rw [show formS 6 = ⟨1, 2, 3, 3⟩ from rfl] at hlo hhi
        simp only at hlo hhi
        obtain ⟨a1, a2, a3, a4⟩ : Cp cs (at_ + 1) (ks 1) (compS cs slot f (at_ + 1) fr) := by have := kid' 0 fr (by omega); rwa [k0] at this
        obtain ⟨b1, b2, b3, b4⟩ : Cp cs (ks 1) (ks 2) (compS cs slot f (ks 1) (fr + (compS cs slot f (at_ + 1) fr).1.length + 1)) := kid' 1 (fr + (compS cs slot f (at_ + 1) fr).1.length + 1) (by omega)
        rw [a2]
        have hc : cntS cs at_ nx = 1 + (cntS cs (at_ + 1) (ks 1) + cntS cs (ks 1) nx) := by
          rw [hcnt, ← cnt_add a1 (by
            have h3 : a = 2 ∨ a = 3 := by omega
            rcases h3 with e | e
            · subst e; exact k1 ▸ b1
            · subst e
              have := (kid' 2 0 (by decide)).le
              exact Nat.le_trans b1 (k1 ▸ this))]; rfl
        by_cases a3' : a = 3
        · subst a3'
          rw [if_pos rfl, b2]
          obtain ⟨c1, c2, c3, c4⟩ : Cp cs (ks 2) (ks 3) (compS cs slot f (ks 2) (fr + (compS cs slot f (at_ + 1) fr).1.length + 1 + (compS cs slot f (ks 1) (fr + (compS cs slot f (at_ + 1) fr).1.length + 1)).1.length + 1)) := kid' 2 (fr + (compS cs slot f (at_ + 1) fr).1.length + 1 + (compS cs slot f (ks 1) (fr + (compS cs slot f (at_ + 1) fr).1.length + 1)).1.length + 1) (by decide)
          have k3 : ks 3 = nx := k1
          rw [k3] at c1 c2 c3 c4
          refine ⟨by omega, c2, ?_, ?_⟩
          · simp only [List.length_append, List.length_cons, List.length_nil]; omega
          · simp only [List.countP_append, a4, b4, c4]
            rw [hc, cnt_add b1 c1]
            show cntS cs (at_ + 1) (ks 1) + 1 + cntS cs (ks 1) (ks 2) + 0 + cntS cs (ks 2) nx = _
            omega
        · rw [if_neg a3']
          have k3 : ks 2 = nx := by rw [← k1, show a.toNat = 2 by omega]
          rw [k3] at b1 b2 b3 b4
          refine ⟨by omega, b2, ?_, ?_⟩
          · simp only [List.length_append, List.length_cons, List.length_nil]; omega
          · simp only [List.countP_append, a4, b4]
            rw [hc]
            show cntS cs (at_ + 1) (ks 1) + 1 + cntS cs (ks 1) nx = _
            omega
      · rw [if_neg o6]
        have two : a = 2 → ∀ fr, ∃ n, Cp cs (at_ + 1) n (compS cs slot f (at_ + 1) fr) ∧ ∀ fr', Cp cs n nx (compS cs slot f n fr') := fun e fr => by
          subst e
          exact ⟨ks 1, k0 ▸ kid' 0 fr (by decide), fun fr' => k1 ▸ kid' 1 fr' (by decide)⟩
        by_cases o7 : op = 7
        · subst o7
          rw [if_pos rfl]
          rw [show formS 7 = ⟨1, 2, 2, 3⟩ from rfl] at hlo hhi
          simp only at hlo hhi
          obtain ⟨n, ⟨a1, a2, a3, a4⟩, hb⟩ := two (by omega) fr
          obtain ⟨b1, b2, b3, b4⟩ := hb (fr + (compS cs slot f (at_ + 1) fr).1.length + 1)
          rw [a2]
          refine ⟨by omega, b2, ?_, ?_⟩
          · simp only [List.length_append, List.length_cons, List.length_nil]; omega
          · simp only [List.countP_append, a4, b4]
            rw [hcnt, cnt_add a1 b1]
            show cntS cs (at_ + 1) n + 1 + cntS cs n nx + 0 = 1 + _
            omega
        · rw [if_neg o7]
          by_cases o3 : op = 30 ∨ op = 31
          · rw [if_pos o3]
            have hf : formS op = ⟨1, 2, 2, 4⟩ := by rcases o3 with e | e <;> rw [e] <;> rfl
            rw [hf] at hlo hhi
            simp only at hlo hhi
            obtain ⟨n, ⟨a1, a2, a3, a4⟩, hb⟩ := two (by omega) fr
            obtain ⟨b1, b2, b3, b4⟩ := hb (fr + (compS cs slot f (at_ + 1) fr).1.length + 1)
            rw [a2]
            refine ⟨by omega, b2, ?_, ?_⟩
            · simp only [List.length_append, List.length_cons, List.length_nil]; omega
            · simp only [List.countP_append, a4, b4]
              rw [hcnt, cnt_add a1 b1]
              have e1 : cntT ⟨op, a, int, text⟩ = true := by rcases o3 with e | e <;> rw [e] <;> rfl
              have e2 : ∀ v, List.countP costI [insA (if op = 31 then 4 else 3) v] = 1 := fun v => by rcases o3 with e | e <;> rw [e] <;> rfl
              rw [e1, e2]
              show cntS cs (at_ + 1) n + 1 + cntS cs n nx + 0 = 1 + _
              omega
          · rw [if_neg o3]
            by_cases o53 : op = 53
            · subst o53
              rw [if_pos rfl]
              rw [show formS 53 = ⟨1, 1, 1, 5⟩ from rfl] at hlo hhi
              simp only at hlo hhi
              obtain rfl : a = 1 := by omega
              have k3 : ks 1 = nx := k1
              obtain ⟨b1, b2, b3, b4⟩ : Cp cs (at_ + 1) nx (compS cs slot f (at_ + 1) (fr + 2)) := by have := kid' 0 (fr + 2) (by decide); rw [k0] at this; rw [← k3]; exact this
              refine ⟨by omega, b2, ?_, ?_⟩
              · simp only [List.length_append, List.length_cons, List.length_nil]; omega
              · simp only [List.countP_append, b4]
                rw [hcnt]
                show 1 + cntS cs (at_ + 1) nx + 0 = 1 + _
                omega
            · rw [if_neg o53]
              have hcs := callS_ok (n := a.toNat) (nf := compS cs slot f) (ks := ks) kid' a.toNat 0 fr (by omega)
              obtain ⟨b1, b2, b3, b4⟩ := hcs
              rw [k0, k1] at b1 b2 b3 b4
              obtain ⟨c1, c2⟩ := plain_cost (x := ⟨op, a, int, text⟩) (slot.getD at_ 0) o1 h2 his
              refine ⟨by omega, b2, ?_, ?_⟩
              · simp only [List.length_append]; omega
              · simp only [List.countP_append, b4]
                rw [hcnt, c1]
                omega
/-- A flow's block stands behind its parameters. -/
theorem flow_block {cs : List InsV} {f at_ nx : Nat} {may : Nat → Bool} (hr : Rt cs (f + 1) at_ nx may) (ho : (atV cs at_).op = 1) : ∃ may', Rt cs f (at_ + (atV cs at_).a.toNat) nx may' ∧ (atV cs (at_ + (atV cs at_).a.toNat)).op ≠ 2 ∧ 1 ≤ (atV cs at_).a := by
  obtain ⟨h1, hok, ks, k0, k1, k2⟩ := hr
  obtain ⟨_, hlo, hhi⟩ := tw_form hok
  rw [ho] at k2
  rw [ho, show formS 1 = ⟨0, 1, 2048, 0⟩ from rfl] at hlo hhi
  simp only at hlo hhi
  obtain ⟨n, hn⟩ : ∃ n : Nat, (atV cs at_).a.toNat = n + 1 := ⟨(atV cs at_).a.toNat - 1, by omega⟩
  rw [hn] at k1 k2
  have par : ∀ i, i ≤ n → ks i = at_ + 1 + i := fun i => by
    induction i with
    | zero => intro _; exact k0
    | succ i ih =>
      intro hi
      have e1 := ih (by omega)
      have hk := k2 i (by omega)
      have hm := (tw_form (rt_ok hk)).1
      have hop : (atV cs (ks i)).op = 2 := by
        rw [show (formS 1).pk = 0 from rfl] at hm
        unfold partOk at hm
        simp only [if_true, Bool.or_eq_true, Bool.and_eq_true, decide_eq_true_eq] at hm
        omega
      have hp := param_one hk hop
      omega
  have p1 := par n (Nat.le_refl _)
  have hk := k2 n (by omega)
  have hm := (tw_form (rt_ok hk)).1
  rw [k1] at hk
  rw [hn, show at_ + (n + 1) = ks n by omega]
  refine ⟨_, hk, ?_, hlo⟩
  rw [show (formS 1).pk = 0 from rfl] at hm
  unfold partOk at hm
  simp only [if_true, Bool.or_eq_true, Bool.and_eq_true, decide_eq_true_eq] at hm
  omega
end Go.Proofs.Ytjfdokoigkdciaa

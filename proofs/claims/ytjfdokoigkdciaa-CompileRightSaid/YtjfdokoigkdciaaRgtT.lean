/- Plain: a flow's code is right code, with an end for each strand. -/
import Derived.Test.YtjfdokoigkdciaaRgtS
import Derived.Test.YtjfdokoigkdciaaSltP
namespace Go.Proofs.Ytjfdokoigkdciaa
open Go.RowKit

def cq (qo : Nat → Bool) (cs : List InsV) (at_ nx : Nat) : Nat := ((cs.drop at_).take (nx - at_)).countP fun x => qo x.op
theorem cq_add {qo : Nat → Bool} {cs : List InsV} {a b c : Nat} (h1 : a ≤ b) (h2 : b ≤ c) : cq qo cs a c = cq qo cs a b + cq qo cs b c := by
  unfold cq
  rw [← List.countP_append]
  congr 1
  rw [show c - a = (b - a) + (c - b) by omega, List.take_add, List.drop_drop, show a + (b - a) = b by omega]
theorem cq_one {qo : Nat → Bool} {cs : List InsV} {a b : Nat} (h : a < b) (hb : b ≤ cs.length) : cq qo cs a b = (if qo (atV cs a).op then 1 else 0) + cq qo cs (a + 1) b := by
  rw [cq_add (a := a) (b := a + 1) (c := b) (by omega) (by omega)]
  congr 1
  unfold cq atV
  rw [show a + 1 - a = 1 by omega, List.drop_eq_getElem_cons (by omega), List.take_succ_cons, List.take_zero, List.countP_cons, List.countP_nil, List.getD_eq_getElem?_getD, List.getElem?_eq_getElem (by omega)]
  simp
theorem cq_nil {qo : Nat → Bool} {cs : List InsV} {a : Nat} : cq qo cs a a = 0 := by unfold cq; simp
/-- A number of instructions that is one of twigs. -/
structure CntH (po qo : Nat → Bool) : Prop where
  a1 : po 1 = false
  a5 : po 5 = false
  b6 : qo 6 = po 2
  b7 : qo 7 = po 2
  b30 : qo 30 = po 3
  b31 : qo 31 = po 4
  b3 : qo 3 = false
  b53 : (if po 53 then 1 else 0) + (if po 28 then 1 else 0) = (if qo 53 then 1 else 0 : Nat)
  own : ∀ op, isO op = true → spec op = false → po (ownN op) = qo op
def cp (po : Nat → Bool) (c : List InsV) : Nat := c.countP fun x => po x.op
theorem cp_app (po : Nat → Bool) (a b : List InsV) : cp po (a ++ b) = cp po a + cp po b := by unfold cp; rw [List.countP_append]
theorem cp_one (po : Nat → Bool) (x : InsV) : cp po [x] = if po x.op then 1 else 0 := by unfold cp; rw [List.countP_cons, List.countP_nil]; simp
theorem callS_cnt {cs : List InsV} {po qo : Nat → Bool} {nf : Nat → Nat → List InsV × Nat} {ks : Nat → Nat} {n : Nat} (h : ∀ i fr, i < n → (nf (ks i) fr).2 = ks (i + 1) ∧ ks i ≤ ks (i + 1) ∧ cp po (nf (ks i) fr).1 = cq qo cs (ks i) (ks (i + 1))) :
    ∀ (r i fr : Nat), i + r = n → ks i ≤ ks n ∧ cp po (callS nf r (ks i) fr).1 = cq qo cs (ks i) (ks n)
  | 0, i, fr, hn => by
    obtain rfl : i = n := by omega
    exact ⟨Nat.le_refl _, by rw [cq_nil]; rfl⟩
  | r + 1, i, fr, hn => by
    obtain ⟨e, l, c⟩ := h i fr (by omega)
    obtain ⟨l2, c2⟩ := callS_cnt h r (i + 1) (fr + (nf (ks i) fr).1.length) (by omega)
    rw [callS, e]
    exact ⟨by omega, by rw [cp_app, c, c2, ← cq_add l l2]⟩
theorem comp_cnt {po qo : Nat → Bool} (H : CntH po qo) (cs : List InsV) (slot : List Int) : ∀ (f at_ nx : Nat) (may : Nat → Bool), Rt cs f at_ nx may → (atV cs at_).op ≠ 2 → (atV cs at_).op ≠ 1 → ∀ fr, cp po (compS cs slot f at_ fr).1 = cq qo cs at_ nx
  | 0, _, _, _, h, _, _, _ => h.elim
  | f + 1, at_, nx, may, hr, h2, h1, fr => by
    have hlt := hr.lt
    obtain ⟨hl, hok, ks, k0, k1, k2⟩ := hr
    obtain ⟨_, hlo, hhi⟩ := tw_form hok
    have his := tw_is hok
    have hmay := fun i (hi : i < (atV cs at_).a.toNat) => (tw_form (rt_ok (k2 i hi))).1
    have kid : ∀ i fr, i < (atV cs at_).a.toNat → (atV cs (ks i)).op ≠ 1 → (compS cs slot f (ks i) fr).2 = ks (i + 1) ∧ ks i ≤ ks (i + 1) ∧ cp po (compS cs slot f (ks i) fr).1 = cq qo cs (ks i) (ks (i + 1)) := fun i fr hi hn1 => by
      have hn2 := part_no (form_pk h1) (hmay i hi)
      have C := comp_ok cs slot f (ks i) (ks (i + 1)) _ (k2 i hi) hn2 fr
      exact ⟨C.e, C.le, comp_cnt H cs slot f (ks i) (ks (i + 1)) _ (k2 i hi) hn2 hn1 fr⟩
    have hq := cq_one (qo := qo) hlt.1 hlt.2
    by_cases o6 : (atV cs at_).op = 6
    · rw [o6] at hmay hlo hhi
      rw [show formS 6 = ⟨1, 2, 3, 3⟩ from rfl] at hmay hlo hhi
      simp only at hmay hlo hhi
      have m0 := part_head (hmay 0 (by omega))
      have m1 := part_tail (by decide) (hmay 1 (by omega))
      obtain ⟨e0, l0, c0⟩ := kid 0 fr (by omega) (expr_no m0).1
      rw [k0] at e0 l0 c0
      obtain ⟨e1, l1, c1⟩ := kid 1 (fr + (compS cs slot f (at_ + 1) fr).1.length + 1) (by omega) (by omega)
      rw [compS]
      simp only
      rw [if_neg (by omega), if_pos o6, e0]
      rw [Nat.zero_add] at l0 c0 e0
      rw [hq, o6, H.b6]
      by_cases a3 : (atV cs at_).a = 3
      · rw [if_pos a3, e1]
        have m2 := part_tail (by decide) (hmay 2 (by omega))
        obtain ⟨e2, l2, c2⟩ := kid 2 (fr + (compS cs slot f (at_ + 1) fr).1.length + 1 + (compS cs slot f (ks 1) (fr + (compS cs slot f (at_ + 1) fr).1.length + 1)).1.length + 1) (by omega) (by omega)
        have k3 : ks 3 = nx := by rw [← k1, a3]; rfl
        rw [show 2 + 1 = 3 from rfl, k3] at l2 c2
        rw [show 1 + 1 = 2 from rfl] at l1 c1
        rw [cp_app, cp_app, cp_app, cp_app, cp_one, cp_one, c0, c1, c2, show (insA 1 _).op = 1 from rfl, show (insA 2 _).op = 2 from rfl, H.a1, cq_add (a := at_ + 1) (b := ks 1) (c := nx) l0 (by omega), cq_add (a := ks 1) (b := ks 2) (c := nx) l1 l2]
        simp only [Bool.false_eq_true, if_false]; omega
      · rw [if_neg a3]
        have k3 : ks 2 = nx := by rw [← k1, show (atV cs at_).a.toNat = 2 by omega]
        rw [show 1 + 1 = 2 from rfl, k3] at l1 c1
        rw [cp_app, cp_app, cp_one, c0, c1, show (insA 2 _).op = 2 from rfl, cq_add (a := at_ + 1) (b := ks 1) (c := nx) l0 l1]
        omega
    · by_cases o7 : (atV cs at_).op = 7
      · rw [o7] at hmay hlo hhi
        rw [show formS 7 = ⟨1, 2, 2, 3⟩ from rfl] at hmay hlo hhi
        simp only at hmay hlo hhi
        have m0 := part_head (hmay 0 (by omega))
        have m1 := part_tail (by decide) (hmay 1 (by omega))
        obtain ⟨e0, l0, c0⟩ := kid 0 fr (by omega) (expr_no m0).1
        rw [k0] at e0 l0 c0
        obtain ⟨e1, l1, c1⟩ := kid 1 (fr + (compS cs slot f (at_ + 1) fr).1.length + 1) (by omega) (by omega)
        rw [Nat.zero_add] at l0 c0 e0
        have k3 : ks 2 = nx := by rw [← k1, show (atV cs at_).a.toNat = 2 by omega]
        rw [show 1 + 1 = 2 from rfl, k3] at l1 c1
        rw [compS]
        simp only
        rw [if_neg (by omega), if_neg o6, if_pos o7, e0, hq, o7, H.b7]
        rw [cp_app, cp_app, cp_app, cp_one, cp_one, c0, c1, show (insA 1 _).op = 1 from rfl, show (insA 2 _).op = 2 from rfl, H.a1, cq_add (a := at_ + 1) (b := ks 1) (c := nx) l0 l1]
        simp only [Bool.false_eq_true, if_false]; omega
      · by_cases o3 : (atV cs at_).op = 30 ∨ (atV cs at_).op = 31
        · have hf : formS (atV cs at_).op = ⟨1, 2, 2, 4⟩ := by rcases o3 with e | e <;> rw [e] <;> rfl
          rw [hf] at hmay hlo hhi
          simp only at hmay hlo hhi
          have m0 := part_expr (hmay 0 (by omega))
          have m1 := part_expr (hmay 1 (by omega))
          obtain ⟨e0, l0, c0⟩ := kid 0 fr (by omega) (expr_no m0).1
          rw [k0] at e0 l0 c0
          obtain ⟨e1, l1, c1⟩ := kid 1 (fr + (compS cs slot f (at_ + 1) fr).1.length + 1) (by omega) (expr_no m1).1
          rw [Nat.zero_add] at l0 c0 e0
          have k3 : ks 2 = nx := by rw [← k1, show (atV cs at_).a.toNat = 2 by omega]
          rw [show 1 + 1 = 2 from rfl, k3] at l1 c1
          rw [compS]
          simp only
          rw [if_neg (by omega), if_neg o6, if_neg o7, if_pos o3, e0, hq]
          have hpq : po (if (atV cs at_).op = 31 then 4 else 3) = qo (atV cs at_).op := by
            rcases o3 with e | e <;> rw [e]
            · exact H.b30.symm
            · exact H.b31.symm
          rw [cp_app, cp_app, cp_app, cp_one, cp_one, c0, c1, show (insO 5).op = 5 from rfl, H.a5, cq_add (a := at_ + 1) (b := ks 1) (c := nx) l0 l1]
          show _ + (if po (if (atV cs at_).op = 31 then 4 else 3) then 1 else 0) + _ + _ = _
          rw [hpq]
          simp only [Bool.false_eq_true, if_false]; omega
        · by_cases o53 : (atV cs at_).op = 53
          · rw [o53] at hmay hlo hhi
            rw [show formS 53 = ⟨1, 1, 1, 5⟩ from rfl] at hmay hlo hhi
            simp only at hmay hlo hhi
            have m0 := part_block (hmay 0 (by omega))
            obtain ⟨e0, l0, c0⟩ := kid 0 (fr + 2) (by omega) (by omega)
            have k3 : ks 1 = nx := by rw [← k1, show (atV cs at_).a.toNat = 1 by omega]
            rw [Nat.zero_add, k3, k0] at l0 c0
            rw [compS]
            simp only
            rw [if_neg (by omega), if_neg o6, if_neg o7, if_neg o3, if_pos o53, hq, o53]
            have h2' : ∀ v w : Int, cp po [insA 53 v, insA 1 w] = if po 53 then 1 else 0 := fun v w => by
              rw [show [insA 53 v, insA 1 w] = [insA 53 v] ++ [insA 1 w] from rfl, cp_app, cp_one, cp_one, show (insA 1 w).op = 1 from rfl, H.a1]
              rfl
            have h3 := H.b53
            rw [cp_app, cp_app, h2', cp_one, c0, show (insO 28).op = 28 from rfl]
            omega
          · by_cases ob : (atV cs at_).op = 3
            · rw [ob] at hmay
              rw [show formS 3 = ⟨1, 0, 2048, 2⟩ from rfl] at hmay
              simp only at hmay
              have D := callS_cnt (po := po) (qo := qo) (nf := compS cs slot f) (ks := ks) (n := (atV cs at_).a.toNat) (fun i fr hi => kid i fr hi (stmt_no (part_stmt (hmay i hi))).2.1) (atV cs at_).a.toNat 0 fr (by omega)
              rw [k0, k1] at D
              rw [compS]
              simp only
              rw [if_neg (by omega), if_neg o6, if_neg o7, if_neg o3, if_neg o53, hq, ob, H.b3]
              have hp : plainI (atV cs at_) (slot.getD at_ 0) = [] := by unfold plainI; rw [if_pos ob]
              rw [hp, List.append_nil, D.2]
              simp
            · have hsp := spec_no h1 h2 ob o6 o7 o3 o53
              have T := own_t his hsp
              have hkx : ∀ i, i < (atV cs at_).a.toNat → exprO (atV cs (ks i)).op = true := fun i hi => by
                have hm := hmay i hi
                rcases T.pk with e | e
                · rw [e] at hm; exact part_expr hm
                · have := T.no e
                  exfalso
                  omega
              have D := callS_cnt (po := po) (qo := qo) (nf := compS cs slot f) (ks := ks) (n := (atV cs at_).a.toNat) (fun i fr hi => kid i fr hi (expr_no (hkx i hi)).1) (atV cs at_).a.toNat 0 fr (by omega)
              rw [k0, k1] at D
              rw [compS]
              simp only
              rw [if_neg (by omega), if_neg o6, if_neg o7, if_neg o3, if_neg o53, hq]
              have hown : cp po (plainI (atV cs at_) (slot.getD at_ 0)) = if qo (atV cs at_).op then 1 else 0 := by
                rw [← H.own _ his hsp]
                unfold plainI ownN
                rw [if_neg ob]
                repeat' split
                all_goals (first | (rw [cp_one]; rfl) | (exfalso; omega) | skip)
                all_goals (rw [cp_one])
                all_goals simp_all [insA, insO]
              rw [cp_app, D.2, hown]
              omega
theorem forks_h : CntH (fun o => o == 53) (fun o => o == 53) :=
  ⟨rfl, rfl, rfl, rfl, rfl, rfl, rfl, rfl, fun op hi hs => by
    have T := own_t hi hs
    have : op ≠ 53 := fun e => by rw [e] at hs; cases hs
    show (ownN op == 53) = (op == 53)
    rw [beq_eq_false_iff_ne.2 T.n53, beq_eq_false_iff_ne.2 this]⟩
theorem ends_h : CntH (fun o => o == 28) (fun o => o == 53) :=
  ⟨rfl, rfl, rfl, rfl, rfl, rfl, rfl, rfl, fun op hi hs => by
    have T := own_t hi hs
    have : op ≠ 53 := fun e => by rw [e] at hs; cases hs
    show (ownN op == 28) = (op == 53)
    rw [beq_eq_false_iff_ne.2 T.n28, beq_eq_false_iff_ne.2 this]⟩
/-- Parts of a right tree are no flows. -/
theorem flows_no {cs : List InsV} : ∀ (f at_ nx : Nat) (may : Nat → Bool), Rt cs f at_ nx may → (atV cs at_).op ≠ 1 → ∀ k, at_ ≤ k → k < nx → (atV cs k).op ≠ 1
  | 0, _, _, _, h, _, _, _, _ => h.elim
  | f + 1, at_, nx, may, hr, h1, k, hk, hkn => by
    have hlt := hr.lt
    obtain ⟨hl, hok, ks, k0, k1, k2⟩ := hr
    by_cases e : k = at_
    · rw [e]; exact h1
    · have key : ∀ i, i ≤ (atV cs at_).a.toNat → ∀ k, ks 0 ≤ k → k < ks i → (atV cs k).op ≠ 1 := fun i => by
        induction i with
        | zero => intro _ k h1 h2; omega
        | succ i ih =>
          intro hi k hk1 hk2
          by_cases e : k < ks i
          · exact ih (by omega) k hk1 e
          · have hr := k2 i (by omega)
            have hm := (tw_form (rt_ok hr)).1
            refine flows_no f _ _ _ hr (fun e1 => ?_) k (by omega) hk2
            rw [e1] at hm
            have := form_pk h1
            unfold partOk at hm
            rw [if_neg this] at hm
            revert hm
            repeat' split
            all_goals simp [stmtO, exprO]
      exact key _ (Nat.le_refl _) k (by omega) (by omega)
/-- A flow's code, as compile.Compile lays it. -/
def flowC (cs : List InsV) : List InsV := (compS cs (slotS cs).1 (cs.length + 1) 0 0).1
theorem right_okc {x : InsV} {n : Int} (h : rightI x.ins n = true) : x.op < 256 ∧ x.text.size ≤ 9223372036854775807 := by
  unfold rightI at h
  simp only [Bool.and_eq_true] at h
  obtain ⟨⟨⟨⟨h1, _⟩, _⟩, _⟩, h5⟩ := h
  have hl : x.text.data.toList.length = x.text.size := by show _ = x.text.data.size; simp
  constructor
  · have : isK x.op = true := h1
    unfold isK at this
    simp at this
    omega
  · have h5 : textOk x.op x.text.data.toList = true := h5
    unfold textOk at h5
    by_cases e1 : textK x.op = 1
    · rw [if_pos e1, decide_eq_true_eq] at h5; omega
    · rw [if_neg e1] at h5
      by_cases e2 : textK x.op = 2
      · rw [if_pos e2] at h5
        rcases Nat.lt_or_ge 24 x.text.size with hh | hh
        · rw [name_big hh] at h5; cases h5
        · omega
      · rw [if_neg e2, List.isEmpty_iff] at h5
        rw [h5] at hl
        simp at hl
        omega
structure CodeR (cs : List InsV) : Prop where
  ok : (lookS (insL (flowC cs)) ((atV cs 0).a - 1)).e = 0
  len : (flowC cs).length ≤ 8192
  pos : 0 < (flowC cs).length
  forks : cp (fun o => o == 53) (flowC cs) = cp (fun o => o == 53) cs
  ends : cp (fun o => o == 28) (flowC cs) = cp (fun o => o == 53) cs + 1
  last : (atV (flowC cs) ((flowC cs).length - 1)).op = 28
  okc : OkC (flowC cs)
theorem cq_all (qo : Nat → Bool) (cs : List InsV) : cq qo cs 0 cs.length = cp qo cs := by unfold cq cp; simp
theorem cp_var {cs : List InsV} {n : Nat} (h : ∀ k, 1 ≤ k → k < n → (atV cs k).op = 2) : n - 1 ≤ cs.countP varT := by
  have key : ∀ m, m ≤ n → m - 1 ≤ (cs.take m).countP varT := fun m => by
    induction m with
    | zero => intro _; omega
    | succ m ih =>
      intro hm
      have := ih (by omega)
      rw [var_snoc]
      by_cases e : m = 0
      · omega
      · have : varT (atV cs m) = true := by unfold varT; rw [h m (by omega) (by omega)]; rfl
        rw [this]; simp only [if_true]; omega
  have h1 := key n (Nat.le_refl _)
  have h2 : (cs.take n).countP varT ≤ cs.countP varT := (List.take_sublist n cs).countP_le
  omega
/-- A flow's parameters. -/
theorem flow_params {cs : List InsV} {f at_ nx : Nat} {may : Nat → Bool} (hr : Rt cs (f + 1) at_ nx may) (ho : (atV cs at_).op = 1) : (∀ k, at_ + 1 ≤ k → k < at_ + (atV cs at_).a.toNat → (atV cs k).op = 2) ∧ 1 ≤ (atV cs at_).a ∧ ∃ may', Rt cs f (at_ + (atV cs at_).a.toNat) nx may' ∧ (atV cs (at_ + (atV cs at_).a.toNat)).op = 3 := by
  obtain ⟨h1, hok, ks, k0, k1, k2⟩ := hr
  obtain ⟨_, hlo, hhi⟩ := tw_form hok
  rw [ho] at k2
  rw [ho, show formS 1 = ⟨0, 1, 2048, 0⟩ from rfl] at hlo hhi
  simp only at hlo hhi
  obtain ⟨n, hn⟩ : ∃ n : Nat, (atV cs at_).a.toNat = n + 1 := ⟨(atV cs at_).a.toNat - 1, by omega⟩
  rw [hn] at k1 k2
  have par : ∀ i, i ≤ n → ks i = at_ + 1 + i ∧ ∀ j, j < i → (atV cs (at_ + 1 + j)).op = 2 := fun i => by
    induction i with
    | zero => intro _; exact ⟨k0, fun j hj => by omega⟩
    | succ i ih =>
      intro hi
      obtain ⟨e1, e2⟩ := ih (by omega)
      have hk := k2 i (by omega)
      have hm := (tw_form (rt_ok hk)).1
      have hop : (atV cs (ks i)).op = 2 := by
        rw [show (formS 1).pk = 0 from rfl] at hm
        unfold partOk at hm
        simp only [if_true, Bool.or_eq_true, Bool.and_eq_true, decide_eq_true_eq] at hm
        omega
      have hp := param_one hk hop
      refine ⟨by omega, fun j hj => ?_⟩
      by_cases e : j = i
      · rw [e, ← e1]; exact hop
      · exact e2 j (by omega)
  have p1 := (par n (Nat.le_refl _)).1
  have hk := k2 n (by omega)
  have hm := (tw_form (rt_ok hk)).1
  rw [k1] at hk
  refine ⟨fun k hk1 hk2 => ?_, hlo, ?_⟩
  · have := (par n (Nat.le_refl _)).2 (k - (at_ + 1)) (by omega)
    rwa [show at_ + 1 + (k - (at_ + 1)) = k by omega] at this
  · rw [hn, show at_ + (n + 1) = ks n by omega]
    refine ⟨_, hk, ?_⟩
    rw [show (formS 1).pk = 0 from rfl] at hm
    unfold partOk at hm
    simp only [if_true, Bool.or_eq_true, Bool.and_eq_true, decide_eq_true_eq] at hm
    omega
theorem flow_right {cs : List InsV} (h : (slotS cs).2.2 = 0) : CodeR cs := by
  obtain ⟨h1, h2, h3, h4, h5⟩ := slotS_ok h
  obtain ⟨t1, t2⟩ := treeS_right h1
  obtain ⟨hpar, ha, may', hb, hb3⟩ := flow_params t2 h2
  have hlt := t2.lt
  rw [Nat.zero_add] at hb hb3 hpar
  have hkb : 0 ≤ (atV cs 0).a ∧ (atV cs 0).a ≤ 2048 := by
    obtain ⟨_, hlo, hhi⟩ := tw_form (rt_ok t2)
    rw [h2, show formS 1 = ⟨0, 1, 2048, 0⟩ from rfl] at hlo hhi
    simp only at hlo hhi
    omega
  generalize hA1 : (atV cs 0).a.toNat = A1 at *
  have hblt := hb.lt
  have hnp : A1 - 1 ≤ 100 := by
    have := cp_var (cs := cs) (n := A1) (fun k hk1 hk2 => hpar k (by omega) (by omega))
    omega
  have hrow : flowC cs = (compS cs (slotS cs).1 cs.length A1 0).1 ++ [insO 28] := by
    unfold flowC
    rw [compS]
    simp only
    rw [if_pos h2, hA1, Nat.zero_add]
  obtain ⟨_, _, hbl, _⟩ := comp_ok cs (slotS cs).1 cs.length A1 cs.length _ hb (by omega) 0
  obtain ⟨l, e1, f1⟩ := (comp_dp cs (slotS cs).1 h4 cs.length A1 cs.length _ hb (by omega) (by omega)).2 0 0 (by decide) (fun _ => rfl)
  rw [show dl (atV cs A1).op = 0 by rw [hb3]; rfl] at f1
  have c1 := comp_cnt forks_h cs (slotS cs).1 cs.length A1 cs.length _ hb (by omega) (by omega) 0
  have c2 := comp_cnt ends_h cs (slotS cs).1 cs.length A1 cs.length _ hb (by omega) (by omega) 0
  generalize (compS cs (slotS cs).1 cs.length A1 0).1 = b at *
  -- the twigs ahead of the block are no forks
  have hz : ∀ m, m ≤ A1 → cq (fun o => o == 53) cs 0 m = 0 := fun m => by
    induction m with
    | zero => intro _; exact cq_nil
    | succ m ih =>
      intro hm
      rw [cq_add (b := m) (by omega) (by omega), ih (by omega), cq_one (by omega) (by omega), cq_nil]
      have : (atV cs m).op ≠ 53 := by
        by_cases e : m = 0
        · rw [e, h2]; decide
        · rw [hpar m (by omega) (by omega)]; decide
      simp [this]
  have hall : cp (fun o => o == 53) cs = cq (fun o => o == 53) cs A1 cs.length := by
    rw [← cq_all, cq_add (b := A1) (by omega) (by omega), hz A1 (Nat.le_refl _), Nat.zero_add]
  have hlen : (flowC cs).length = b.length + 1 := by rw [hrow]; simp
  have atl : atV (b ++ [insO 28]) b.length = insO 28 := by unfold atV; simp [List.getD]
  have key : (lookS (insL (flowC cs)) ((atV cs 0).a - 1)).e = 0 ∧ OkC (flowC cs) := by
    obtain ⟨L, hL⟩ : ∃ L : Nat → Int, L = fun p => (l ++ [0]).getD p 0 := ⟨_, rfl⟩
    have hA : At (flowC cs) 0 b := fun k hk => by rw [Nat.zero_add, hrow]; exact atV_left hk
    have hLA : LAt L 0 l := fun k hk => by rw [hL, Nat.zero_add]; simp only [List.getD, List.getElem?_append_left hk]
    have hLe : L (0 + b.length) = 0 + 0 := by rw [hL, Nat.zero_add, ← e1]; simp [List.getD]
    obtain ⟨g1, g2⟩ := f1 (b.length + 1) L (flowC cs) hA hLA hLe (by omega)
    have hal : atV (flowC cs) b.length = insO 28 := by rw [hrow]; exact atl
    rw [Nat.zero_add] at hLe
    have P : ∀ p, p < b.length + 1 → PlOk (b.length + 1) L (flowC cs) p := fun p hp => by
      by_cases e : p < b.length
      · exact g1 p (by omega) (by omega)
      · obtain rfl : p = b.length := by omega
        refine ⟨?_, ?_, ?_, ?_, ?_, ?_, ?_⟩
        all_goals (try rw [hal])
        · rfl
        · rw [hLe]; decide
        · intro _; rw [hLe]; rfl
        · intro h; cases h
        · intro h; cases h
        · intro h; cases h
        · intro h; cases h
    exact ⟨look_ok P hlen (by omega) (by omega) g2 ⟨by omega, by omega⟩, fun k hk => right_okc (P k (by omega)).rt⟩
  refine ⟨key.1, by omega, by omega, ?_, ?_, ?_, key.2⟩
  · rw [hrow, cp_app, c1, cp_one, hall]; rfl
  · rw [hrow, cp_app, c2, cp_one, hall]; rfl
  · rw [hlen, Nat.add_sub_cancel, hrow, atl]; rfl
end Go.Proofs.Ytjfdokoigkdciaa

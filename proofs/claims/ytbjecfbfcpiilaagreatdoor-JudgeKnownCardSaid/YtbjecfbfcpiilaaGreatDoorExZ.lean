/- The executor: regions that are not drawn. -/
import Derived.Test.YtbjecfbfcpiilaaGreatDoorExH
namespace Go.Proofs.YtbjecfbfcpiilaaGreatDoor
open Go

section
variable {H : List HookE} {P : Program} {G : Nat} {F : Nat → Option Obj} {W : World} {E : Env} {w : World}
theorem callF_ok (hH : HooksOk P G H) {ih : Run} (hih : Snd P G ih) {S S' : SW} {f : FuncId} {args : List Value} {r : SEnd} (h : callF H P G ih S f args = some (r, S')) : CallOk P G S f args r S' := by
  unfold callF at h
  split at h
  · rename_i q hq
    cases h
    exact hookE_ok H hH hq
  · split at h
    · cases h
    · rename_i fn hfn
      split at h
      · cases h
      · rename_i c hc
        exact callB_ok hih hfn hc h
theorem finE_some {st : St} {o : Oper} {v : Value} {e : SExit} {st' : St} (h : finE st o v = some (e, st')) : e = .normal ∧ st.put o.dst v = some st' := by
  unfold finE at h
  cases hp : st.put o.dst v with
  | none => rw [hp] at h; cases h
  | some s => rw [hp] at h; cases h; exact ⟨rfl, rfl⟩
theorem putPs_ok : ∀ (ps : List Tmp) (vs : List Value) (nt : Nat) (t t' : Tr Value), putPs ps vs nt t = some t' → ∀ (vs' : List Value) (a : Array Value), VL E vs vs' → TR E t a → a.size = nt →
    ps.length = vs'.length ∧ TR E t' ((ps.zip vs').foldl (fun tmps x => tmps.setIfInBounds x.1 x.2) a) ∧ ((ps.zip vs').foldl (fun tmps x => tmps.setIfInBounds x.1 x.2) a).size = nt
  | [], [], nt, t, t', h, vs', a, hv, ht, hs => by
    cases h
    have := LR.inv_nil hv
    subst this
    exact ⟨rfl, ht, hs⟩
  | [], v :: vs, nt, t, t', h, vs', a, hv, ht, hs => by cases h
  | p :: ps, [], nt, t, t', h, vs', a, hv, ht, hs => by cases h
  | p :: ps, v :: vs, nt, t, t', h, vs', a, hv, ht, hs => by
    obtain ⟨v', m, rfl, h1, h2⟩ := hv.inv_cons
    have h' : (bif Nat.blt p nt then putPs ps vs nt (t.put p (some v)) else none) = some t' := h
    by_cases hlt : Nat.blt p nt = true
    · rw [hlt, cond_true] at h'
      obtain ⟨k1, k2, k3⟩ := putPs_ok ps vs nt _ t' h' m (a.setIfInBounds p v') h2 (ht.put (by rw [hs]; exact Nat.le_of_ble_eq_true hlt) h1) (by simpa using hs)
      exact ⟨by simp [k1], k2, k3⟩
    · rw [Bool.eq_false_iff.2 hlt] at h'; cases h'
theorem jump_post {e : SExit} {j : Option Code} (hj : jumpE e = some j) {E' : Env} {x : Exit} (hx : ExitR E' e x) {l : Nat} {R : Ending → World → Prop} {a : Act} {w : World}
    (h : ∃ v w', (Instr.endRound l j).run P w = .ok v w' ∧ R (.returned v) w') : roundPost P l R x a w := by
  cases e with
  | normal => cases hj; cases x <;> first | exact hx.elim | exact h
  | ret => cases hj; cases x <;> first | exact hx.elim | exact h
  | exit i => cases hj; cases x <;> first | exact hx.elim | (cases hx; exact h)
  | goto i => cases hj; cases x <;> first | exact hx.elim | (cases hx; exact h)
  | panic v => cases hj
theorem fw_inRound (rd : Option Nat) (l : Nat) : (fw rd).inRound l = fw (some l) := rfl
theorem isReady_iff {s : LoopState} (h : isReady s = true) : s = .ready := by cases s <;> first | rfl | cases h
theorem roundE_ok {ih : Run} (hih : Snd P G ih) {S S' : SW} {l : Nat} {args : List Value} {v : Value} (h : roundE ih S l args = some (v, S')) (hs : Sat G F W E S w) {e : Ent} (he : E l = some e) {args' : Array Value}
    (hargs : VL E args args'.toList) (rd : Option Nat) (n : Nat) : ∃ f tmps as_ body, (Instr.yield e.b args').run P w = .ok (.round e.b f tmps as_ body) w ∧
      RoundIn (fw rd) n P e.b f tmps as_ body w fun x w' => ∃ E', x = .returned v ∧ Ext S.n E E' ∧ S.n ≤ S'.n ∧ Sat G F W E' S' w' ∧ VR E' v v := by
  unfold roundE at h
  split at h
  · rename_i s0 p0 tr nt ps as_ body hl
    by_cases hr0 : isReady s0 = true
    · rw [hr0, cond_true] at h
      split at h
      · cases h
      · rename_i tr' htr
        split at h
        · rename_i st1 h1
          split at h
          · rename_i s1 p1 tr1 nt1 ps1 as1 body1 hl1
            by_cases hr1 : isReady s1 = true
            · rw [hr1, cond_true] at h
              split at h
              · rename_i e2 st2 h2
                split at h
                · rename_i j s2 p2 tr2 nt2 ps2 as2 body2 hj hl2
                  cases h
                  obtain ⟨e', he', r, k1, k2, k3, k4, k5, k6, k7, k8⟩ := hs.obj _ _ hl
                  rw [he] at he'; cases he'
                  have hps : r.params.toList = ps := k4
                  obtain ⟨q1, q2, q3⟩ := putPs_ok ps args nt tr tr' htr args'.toList r.tmps hargs k8 k7
                  have hfold : (r.params.zip args').foldl (fun tmps (x : Tmp × Value) => tmps.setIfInBounds x.1 x.2) r.tmps = (ps.zip args'.toList).foldl (fun tmps x => tmps.setIfInBounds x.1 x.2) r.tmps := by
                    rw [← Array.foldl_toList, Array.toList_zip, hps]
                  refine ⟨_, _, _, _, run_yield k1 (by rw [← Array.length_toList, ← Array.length_toList (xs := r.params), hps, q1]), ?_⟩
                  refine roundIn_of_wpIn trivial ?_
                  rw [k5, k6]
                  have key1 := hih _ _ _ _ h1 F W E { tmps := (r.params.zip args').foldl (fun tmps (x : Tmp × Value) => tmps.setIfInBounds x.1 x.2) r.tmps, defers := [] } w (some e.b) n
                    ⟨hs, by rw [hfold]; exact q2, by rw [hfold]; exact q3, LR.nil, rfl⟩
                  refine wpIn_mono key1 ?_
                  rintro x1 a1 w1 ⟨E1, hE1, hn1, hst1, hx1⟩
                  cases x1 <;> first | exact hx1.elim | skip
                  obtain ⟨e1, he1, r1, m1, m2, m3, m4, m5, m6, m7, m8⟩ := hst1.sat.obj _ _ hl1
                  have hel : E1 l = some e := hs.le hE1 _ _ he
                  rw [hel] at he1; cases he1
                  refine ⟨_, run_beginRound m1 (m2.trans (isReady_iff hr1)), ?_⟩
                  have hs1 := hst1.sat.turn hl1 hel (.loop .busy p1 tr1 nt1 ps1 as1 body1) (w' := w1.putObj e.b (.loop { r1 with state := .busy })) (fun k hk => World.putObj_heap_other hk) (by simp) rfl rfl rfl
                    ⟨_, World.putObj_heap_same (Array.getElem?_eq_some_iff.1 m1).1, rfl, m3, m4, m5, m6, m7, m8⟩
                  have key2 := hih _ _ _ _ h2 F W E1 a1 _ (some e.b) n ⟨hs1, hst1.tr, hst1.nt, hst1.ds, hst1.rd⟩
                  refine wpIn_mono key2 ?_
                  rintro x2 a2 w2 ⟨E2, hE2, hn2, hst2, hx2⟩
                  rw [SW.set_n] at hE2 hn2
                  obtain ⟨e2', he2, r2, y1, y2, y3, y4, y5, y6, y7, y8⟩ := hst2.sat.obj _ _ hl2
                  have hel2 : E2 l = some e := hE2.le hst1.sat.new _ _ hel
                  rw [hel2] at he2; cases he2
                  refine jump_post hj hx2 ⟨_, _, run_endRound j y1, E2, rfl, hE1.trans hE2 hn1, ?_, ?_, .bool _⟩
                  · rw [SW.set_n]; exact Nat.le_trans hn1 hn2
                  · refine hst2.sat.turn hl2 hel2 _ (fun k hk => World.putObj_heap_other hk) (by simp) rfl rfl rfl ⟨_, World.putObj_heap_same (Array.getElem?_eq_some_iff.1 y1).1, ?_, rfl, y4, y5, y6, y7, y8⟩
                    cases j <;> rfl
                · cases h
              · cases h
            · rw [Bool.eq_false_iff.2 hr1] at h; cases h
          · cases h
        · cases h
    · rw [Bool.eq_false_iff.2 hr0] at h; cases h
  · cases h
theorem semAt_ok {st : St} {rd : Option Nat} {o : Oper} (hrd : st.rd = rd.isSome) (hd : st.rd = true → isDefer o.op = false) (ρ : Operand → Value) : o.semAt (fw rd).round ρ = execOp ρ o := by
  cases rd with
  | none => rfl
  | some l =>
    refine Oper.semAt_eq _ _ _ fun c hc => ?_
    have := hd (by rw [hrd]; rfl)
    rw [hc] at this
    cases this
theorem operE_split {ih : Run} {ops : Array Oper} {st : St} {o : Oper} {r : SExit × St} (h : operE H P G ih ops st o = some r) : operE1 H P G ih ops st o = some r ∧ (st.rd = true → isDefer o.op = false) := by
  unfold operE at h
  cases hr : st.rd with
  | false => rw [hr] at h; exact ⟨h, fun hh => by cases hh⟩
  | true =>
    rw [hr] at h
    cases hd : isDefer o.op with
    | false => rw [hd] at h; exact ⟨h, fun _ => rfl⟩
    | true => rw [hd] at h; cases h
noncomputable def putT (tr : Tr Value) (d : Option Tmp) (v : Value) : Tr Value :=
  match d with
  | none => tr
  | some d => tr.put d (some v)
structure PutR (st st' : St) (d : Option Tmp) (v : Value) : Prop where
  S : st'.S = st.S
  tr : st'.tr = putT st.tr d v
  nt : st'.nt = st.nt
  ds : st'.ds = st.ds
  rd : st'.rd = st.rd
  lt : ∀ t, d = some t → t < st.nt
theorem put_some {st st' : St} {d : Option Tmp} {v : Value} (hp : st.put d v = some st') : PutR st st' d v := by
  obtain ⟨S, tr, nt, ds, r⟩ := st
  unfold St.put at hp
  cases d with
  | none => cases hp; exact ⟨rfl, rfl, rfl, rfl, rfl, fun _ h => by cases h⟩
  | some d =>
    simp only at hp
    by_cases hlt : Nat.blt d nt = true
    · rw [hlt, cond_true, seqV_eq, Tr.putK_eq] at hp
      cases hp
      exact ⟨rfl, rfl, rfl, rfl, rfl, fun t h => by cases h; exact Nat.le_of_ble_eq_true hlt⟩
    · rw [Bool.eq_false_iff.2 hlt] at hp; cases hp
/-- What an operation does. -/
def OperOk (P : Program) (G : Nat) (F : Nat → Option Obj) (W : World) (E : Env) (rd : Option Nat) (n : Nat) (st : St) (ops : Array Oper) (o : Oper) (e : SExit) (st' : St) (a : Act) (w : World) : Prop :=
  ∀ (K : Act → World → Prop) (Q : Exit → Act → World → Prop),
    (e = .normal → ∀ (E' : Env) (a2 : Act) (w' : World) (v v' : Value), Ext st.S.n E E' → st.S.n ≤ st'.S.n → Sat G F W E' st'.S w' → a2.tmps = a.tmps → LR (DR E') st'.ds a2.defers → VR E' v v' → st'.tr = putT st.tr o.dst v → st'.nt = st.nt → st'.rd = st.rd →
      (∀ t, o.dst = some t → t < st.nt) → K (a2.put o.dst v') w') →
    (∀ v, e = .panic v → ∀ E' w' v', Ext st.S.n E E' → st.S.n ≤ st'.S.n → Sat G F W E' st'.S w' → st' = ⟨st'.S, st.tr, st.nt, st.ds, st.rd⟩ → VR E' v v' → Q (.panic [{ v := v', recovered := false }]) a w') →
    (if Region.wanted o (yielded ops a.tmps) = true then o.wpIn (fw rd) n P a w K Q else (∀ f, o.about P w a.eval = some f → (fw rd).fn f) ∧ K (a.put o.dst undef) w)
theorem operE_ok2 (hH : HooksOk P G H) {ih : Run} (hih : Snd P G ih) {ops : Array Oper} {st : St} {o : Oper} {e : SExit} {st' : St} (h : operE H P G ih ops st o = some (e, st')) {a : Act} {rd : Option Nat} (n : Nat)
    (hs : Sat G F W E st.S w) (hρ : ∀ x ∈ opL o.op, okX G x = true → VR E (evS st.tr x) (a.eval x)) (hwt : Region.wanted o (yielded ops a.tmps) = wantS ops st.tr o) (hds : LR (DR E) st.ds a.defers) (hrd : st.rd = rd.isSome) :
    OperOk P G F W E rd n st ops o e st' a w := by
  intro K Q hK hQ
  obtain ⟨h, hd⟩ := operE_split h
  rw [hwt]
  have hdm : ∀ {E' : Env}, Ext st.S.n E E' → LR (DR E') st.ds a.defers := fun hE => hds.mono fun _ _ hd => hd.mono (hs.le hE)
  unfold operE1 at h
  cases hw : wantS ops st.tr o with
  | false =>
    rw [hw] at h
    rw [if_neg (by simp)]
    obtain ⟨rfl, hp⟩ := finE_some h
    have q := put_some hp
    exact ⟨fun _ _ => trivial, hK rfl E a _ undef _ (Ext.refl _ _) (by rw [q.S]; exact Nat.le_refl _) (by rw [q.S]; exact hs) rfl (by rw [q.ds]; exact hds) VR.undef q.tr q.nt q.rd q.lt⟩
  | true =>
    rw [hw] at h
    rw [if_pos rfl]
    refine ⟨fun _ _ => trivial, ?_⟩
    rw [semAt_ok hrd hd]
    cases hx : stepS P G st.S st.tr o with
    | none => rw [hx] at h; cases h
    | some p =>
      obtain ⟨x, S'⟩ := p
      rw [hx] at h
      have hok := stepS_ok2 hs hρ hx
      cases x with
      | val v =>
        obtain ⟨v', w', E', hr, hE, hn, hs, hv⟩ := hok
        rw [hr]
        obtain ⟨rfl, hp⟩ := finE_some h
        have q := put_some hp
        exact hK rfl E' a _ v _ hE (by rw [q.S]; exact hn) (by rw [q.S]; exact hs) rfl (by rw [q.ds]; exact hdm hE) hv q.tr q.nt q.rd q.lt
      | skip =>
        obtain ⟨w', E', hr, hE, hn, hs⟩ := hok
        rw [hr]
        obtain ⟨rfl, hp⟩ := finE_some h
        have q := put_some hp
        exact hK rfl E' a _ undef _ hE (by rw [q.S]; exact hn) (by rw [q.S]; exact hs) rfl (by rw [q.ds]; exact hdm hE) VR.undef q.tr q.nt q.rd q.lt
      | enter f args =>
        obtain ⟨args', hr, hargs, rfl⟩ := hok
        rw [hr]
        have h' : (Option.rec none (fun p => onEnd p.1 p.2 st o) (callF H P G ih st.S f args) : Option (SExit × St)) = some (e, st') := h
        cases hc : callF H P G ih st.S f args with
        | none => rw [hc] at h'; cases h'
        | some q =>
          obtain ⟨r, S1⟩ := q
          rw [hc] at h'
          have hcall := callF_ok hH hih hc F W E w args' (n - 1) hs hargs
          rw [Oper.uponIn_enter]
          refine ⟨fw_depth _ _, CallsIn.mono (show CallsIn (fw rd) (n - 1) P f args' w _ from hcall) ?_⟩
          rintro x w' ⟨E', hE, hn, hs, hx⟩
          cases r with
          | ret v =>
            cases x <;> first | exact hx.elim | skip
            obtain ⟨rfl, hp⟩ := finE_some (show finE _ o v = some (e, st') from h')
            have q := put_some hp
            exact hK rfl E' a _ v _ hE (by rw [q.S]; exact hn) (by rw [q.S]; exact hs) rfl (by rw [q.ds]; exact hdm hE) hx q.tr q.nt q.rd q.lt
          | panic v =>
            cases x <;> first | exact hx.elim | skip
            cases (show some (SExit.panic v, (⟨S1, st.tr, st.nt, st.ds, st.rd⟩ : St)) = some (e, st') from h')
            obtain ⟨v', rfl, hv⟩ := hx
            exact hQ v rfl E' _ v' hE hn hs rfl hv
      | round l args =>
        obtain ⟨e1, args', he1, hr, hargs, rfl⟩ := hok
        have h' : (Option.rec none (fun p => finE ⟨p.2, st.tr, st.nt, st.ds, st.rd⟩ o p.1) (roundE ih st.S l args) : Option (SExit × St)) = some (e, st') := h
        cases hc : roundE ih st.S l args with
        | none => rw [hc] at h'; cases h'
        | some q =>
          obtain ⟨v, S1⟩ := q
          rw [hc] at h'
          obtain ⟨f, tmps, as_, body, k1, k2⟩ := roundE_ok hih hc hs he1 hargs rd (n - 1)
          rw [hr, k1, Oper.uponIn_round]
          refine ⟨fw_depth _ _, k2.mono ?_⟩
          rintro x w' ⟨E', rfl, hE, hn, hs, hv⟩
          obtain ⟨rfl, hp⟩ := finE_some h'
          have q := put_some hp
          exact hK rfl E' a _ v _ hE (by rw [q.S]; exact hn) (by rw [q.S]; exact hs) rfl (by rw [q.ds]; exact hdm hE) hv q.tr q.nt q.rd q.lt
      | defer d =>
        obtain ⟨d', hr, hdr, rfl⟩ := hok
        rw [hr, Oper.uponIn_defer]
        have h' : (bif st.rd then none else finE ⟨st.S, st.tr, st.nt, d :: st.ds, st.rd⟩ o undef) = some (e, st') := h
        cases hrd : st.rd with
        | true => rw [hrd] at h'; cases h'
        | false =>
          rw [hrd, cond_false] at h'
          obtain ⟨rfl, hp⟩ := finE_some h'
          have q := put_some hp
          exact hK rfl E { a with defers := d' :: a.defers } _ undef _ (Ext.refl _ _) (by rw [q.S]; exact Nat.le_refl _) (by rw [q.S]; exact hs) rfl (by rw [q.ds]; exact LR.cons hdr hds) VR.undef q.tr q.nt (q.rd.trans hrd.symm) q.lt
      | recover => cases h
      | panic v =>
        obtain ⟨v', hr, hv, rfl⟩ := hok
        rw [hr, Oper.uponIn_panic]
        cases (show some (SExit.panic v, (⟨st.S, st.tr, st.nt, st.ds, st.rd⟩ : St)) = some (e, st') from h)
        exact hQ v rfl E _ v' (Ext.refl _ _) (Nat.le_refl _) hs rfl hv
theorem TR.putT {E : Env} {tr : Tr Value} {t : Act} (h : TR E tr t.tmps) {d : Option Tmp} (hd : ∀ k, d = some k → k < t.tmps.size) {v v' : Value} (hv : VR E v v') : TR E (putT tr d v) (t.put d v').tmps := by
  cases d with
  | none => exact h
  | some d => exact h.put (hd d rfl) hv
theorem put_size (t : Act) (d : Option Tmp) (v : Value) : (t.put d v).tmps.size = t.tmps.size := by cases d <;> simp [Act.put]
theorem put_defers (t : Act) (d : Option Tmp) (v : Value) : (t.put d v).defers = t.defers := by cases d <;> rfl
theorem operE_ok (hH : HooksOk P G H) {ih : Run} (hih : Snd P G ih) {ops : Array Oper} {st : St} {o : Oper} {e : SExit} {st' : St} (h : operE H P G ih ops st o = some (e, st')) {a : Act} {rd : Option Nat} (n : Nat) (hst : StR G F W E rd st a w) :
    ∀ (K : Act → World → Prop) (Q : Exit → Act → World → Prop),
    (e = .normal → ∀ E' a' w', Ext st.S.n E E' → st.S.n ≤ st'.S.n → StR G F W E' rd st' a' w' → K a' w') →
    (∀ v, e = .panic v → ∀ E' a' w' v', Ext st.S.n E E' → st.S.n ≤ st'.S.n → StR G F W E' rd st' a' w' → VR E' v v' → Q (.panic [{ v := v', recovered := false }]) a' w') →
    (if Region.wanted o (yielded ops a.tmps) = true then o.wpIn (fw rd) n P a w K Q else (∀ f, o.about P w a.eval = some f → (fw rd).fn f) ∧ K (a.put o.dst undef) w) := fun K Q hK hQ => by
  refine operE_ok2 hH hih h n hst.sat (fun x hx hok => ev_ok hst.sat hst.tr hok) (wantS_ok hst.tr o) hst.ds hst.rd K Q (fun he E' a2 w' v v' hE hn hs ht hd hv h1 h2 h3 h4 => ?_) (fun v he E' w' v' hE hn hs h1 hv => ?_)
  · refine hK he E' _ w' hE hn ⟨hs, ?_, ?_, ?_, ?_⟩
    · rw [h1]
      exact TR.putT (by rw [ht]; exact hst.tr.mono (hst.sat.le hE)) (fun k hk => by rw [ht, hst.nt]; exact h4 k hk) hv
    · rw [put_size, ht, h2, hst.nt]
    · rw [put_defers]; exact hd
    · rw [h3, hst.rd]
  · exact hQ v he E' a w' v' hE hn (by rw [h1]; exact hst.move hE hs) hv
theorem PostC.ext {rd : Option Nat} {n0 n1 : Nat} {E1 : Env} (hE : Ext n0 E E1) (hn : n0 ≤ n1) {e : SExit} {st' : St} {x : Exit} {a : Act} {w : World} (h : PostC G F W E1 rd n1 e st' x a w) : PostC G F W E rd n0 e st' x a w := by
  obtain ⟨E', h1, h2, h3, h4⟩ := h
  exact ⟨E', hE.trans h1 hn, Nat.le_trans hn h2, h3, h4⟩
theorem wpOpsIn_mono {F : Fence} {n : Nat} {ops : Array Oper} {Q Q' : Exit → Act → World → Prop} (hq : ∀ e a w, Q e a w → Q' e a w) (l : List Nat) : ∀ (a : Act) (w : World), wpOpsIn F n P ops Q l a w → wpOpsIn F n P ops Q' l a w := by
  have hlet : LetsOut Q → LetsOut Q' := fun ⟨a, w, h⟩ => ⟨a, w, hq _ _ _ h⟩
  induction l with
  | nil => exact fun a w h => hq _ _ _ h
  | cons i l hi =>
    intro a w h
    unfold wpOpsIn at h ⊢
    cases ho : ops[i]? with
    | none => rw [ho] at h; exact hi _ _ h
    | some o =>
      rw [ho] at h
      simp only at h ⊢
      split
      · rename_i hw
        rw [if_pos hw] at h
        refine ⟨h.1, ?_⟩
        have h := h.2
        generalize (o.semAt F.round a.eval).run P w = r at h ⊢
        cases r with
        | ok x w' =>
          cases x <;> simp only [Oper.uponIn] at h ⊢ <;> first
            | exact hi _ _ h
            | exact h.elim
            | exact ⟨h.1, h.2.mono fun x w'' hx => by cases x <;> first | exact hi _ _ hx | exact hq _ _ _ hx | exact hlet hx⟩
            | exact ⟨h.1, h.2.mono fun _ _ hx => hi _ _ hx⟩
        | halt x w' =>
          cases x <;> simp only [Oper.uponIn] at h ⊢ <;> first
            | exact hq _ _ _ h
            | exact h.elim
      · rename_i hw
        rw [if_neg hw] at h
        exact ⟨h.1, hi _ _ h.2⟩
theorem opsE_ok (hH : HooksOk P G H) {ih : Run} (hih : Snd P G ih) {ops : Array Oper} : ∀ (os : List Oper) (l : List Nat), l.map (ops[·]?) = os.map some → ∀ (st : St) (e : SExit) (st' : St), opsE H P G ih ops os st = some (e, st') →
    ∀ (E : Env) (a : Act) (w : World) (rd : Option Nat) (n : Nat), StR G F W E rd st a w → wpOpsIn (fw rd) n P ops (PostC G F W E rd st.S.n e st') l a w := by
  intro os
  induction os with
  | nil =>
    intro l hl st e st' h E a w rd n hst
    cases l with
    | nil => cases h; exact ⟨E, Ext.refl _ _, Nat.le_refl _, hst, trivial⟩
    | cons i l => cases hl
  | cons o os hi =>
    intro l hl st e st' h E a w rd n hst
    cases l with
    | nil => cases hl
    | cons i l =>
      simp only [List.map_cons, List.cons.injEq] at hl
      have h' : (Option.rec none (fun p => onward (fun st => opsE H P G ih ops os st) p.1 p.2) (operE H P G ih ops st o) : Option (SExit × St)) = some (e, st') := h
      cases hx : operE H P G ih ops st o with
      | none => rw [hx] at h'; cases h'
      | some p =>
        obtain ⟨e1, st1⟩ := p
        rw [hx] at h'
        unfold wpOpsIn
        rw [hl.1]
        simp only
        refine operE_ok hH hih hx n hst _ _ (fun he E' a' w' hE hn hs => ?_) (fun v he E' a' w' v' hE hn hs hv => ?_)
        · subst he
          exact wpOpsIn_mono (fun _ _ _ hq => hq.ext hE hn) _ _ _ (hi l hl.2 st1 e st' h' E' a' w' rd n hs)
        · subst he
          cases h'
          exact ⟨E', hE, hn, hs, v', rfl, hv⟩
end
end Go.Proofs.YtbjecfbfcpiilaaGreatDoor

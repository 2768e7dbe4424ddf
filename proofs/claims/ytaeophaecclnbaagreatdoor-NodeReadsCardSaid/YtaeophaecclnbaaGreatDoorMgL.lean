/- The executor: frames, results. The executor: deferred calls, calls. The executor: calls that are known. The executor: regions that are not drawn. -/
import Derived.Test.YtaeophaecclnbaaGreatDoorMgK
import Derived.RangeFuncLeaves
import Derived.RangeFuncRecord
import Derived.RangeFuncCalls
import Derived.OrdersIn
import Derived.RecoverIn
namespace Go.Proofs.YtaeophaecclnbaaGreatDoor
open Go

def fw (rd : Option Nat) : Fence := { Fence.wide with round := rd }
theorem fw_fn (rd : Option Nat) (f : FuncId) : (fw rd).fn f := trivial
theorem fw_depth (rd : Option Nat) (n : Nat) : (fw rd).depth.isSome = true → 1 ≤ n := fun h => by cases h
structure StR (G : Nat) (F : Nat → Option Obj) (W : World) (E : Env) (rd : Option Nat) (st : St) (a : Act) (w : World) : Prop where
  sat : Sat G F W E st.S w
  tr : TR E st.tr a.tmps
  nt : a.tmps.size = st.nt
  ds : LR (DR E) st.ds a.defers
  rd : st.rd = rd.isSome
def ExitR (E : Env) : SExit → Exit → Prop
  | .normal, .normal => True
  | .exit i, .exit j => i = j
  | .goto i, .goto j => i = j
  | .ret, .ret => True
  | .panic v, .panic ch => ∃ v', ch = [{ v := v', recovered := false }] ∧ VR E v v'
  | _, _ => False
def PostC (G : Nat) (F : Nat → Option Obj) (W : World) (E : Env) (rd : Option Nat) (n0 : Nat) (e : SExit) (st' : St) : Exit → Act → World → Prop :=
  fun x a w => ∃ E', Ext n0 E E' ∧ n0 ≤ st'.S.n ∧ StR G F W E' rd st' a w ∧ ExitR E' e x
def Snd (P : Program) (G : Nat) (ih : Run) : Prop :=
  ∀ st c e st', ih st c = some (e, st') → ∀ F W E a w rd n, StR G F W E rd st a w → c.wpIn (fw rd) n P (PostC G F W E rd st.S.n e st') a w
def EndR (E : Env) : SEnd → Ending → Prop
  | .ret v, .returned v' => VR E v v'
  | .panic v, .panicked ch => ∃ v', ch = [{ v := v', recovered := false }] ∧ VR E v v'
  | _, _ => False
def CallOk (P : Program) (G : Nat) (S : SW) (f : FuncId) (args : List Value) (r : SEnd) (S' : SW) : Prop :=
  ∀ F W E w (args' : Array Value) n, Sat G F W E S w → VL E args args'.toList → CallsIn Fence.wide n P f args' w fun e w' => ∃ E', Ext S.n E E' ∧ S.n ≤ S'.n ∧ Sat G F W E' S' w' ∧ EndR E' r e
section
variable {P : Program} {G : Nat} {F : Nat → Option Obj} {W : World} {E : Env} {w : World}
theorem Sat.le {S : SW} (h : Sat G F W E S w) {E' : Env} (hE : Ext S.n E E') : E.le E' := hE.le h.new
/-- The temporaries, one of them turned. -/
theorem TR.put {tr : Tr Value} {t : Array Value} (h : TR E tr t) {d : Nat} (hd : d < t.size) {v v' : Value} (hv : VR E v v') : TR E (tr.put d (some v)) (t.setIfInBounds d v') := fun k => by
  have hk := h k
  rw [evS_tmp] at hk ⊢
  rw [Tr.get_put]
  by_cases hkd : k = d
  · subst hkd
    simpa [hd] using hv
  · rw [if_neg hkd]
    simp only [Array.getD_eq_getD_getElem?] at hk ⊢
    rw [Array.getElem?_setIfInBounds_ne (Ne.symm hkd)]
    exact hk
theorem put_ok {rd : Option Nat} {st st' : St} {a : Act} (h : StR G F W E rd st a w) {d : Option Tmp} {v v' : Value} (hv : VR E v v') (hp : st.put d v = some st') : StR G F W E rd st' (a.put d v') w ∧ st'.S = st.S := by
  obtain ⟨S, tr, nt, ds, r⟩ := st
  unfold St.put at hp
  cases d with
  | none => cases hp; exact ⟨h, rfl⟩
  | some d =>
    simp only at hp
    by_cases hlt : Nat.blt d nt = true
    · rw [hlt, cond_true, seqV_eq, Tr.putK_eq] at hp
      cases hp
      have hlt' : d < nt := Nat.le_of_ble_eq_true hlt
      exact ⟨⟨h.sat, h.tr.put (by rw [h.nt]; exact hlt') hv, by simp [Act.put, h.nt], h.ds, h.rd⟩, rfl⟩
    · rw [Bool.eq_false_iff.2 hlt] at hp; cases hp
theorem StR.move {rd : Option Nat} {st : St} {a : Act} (h : StR G F W E rd st a w) {E' : Env} {S' : SW} {w' : World} (hE : Ext st.S.n E E') (hs : Sat G F W E' S' w') : StR G F W E' rd ⟨S', st.tr, st.nt, st.ds, st.rd⟩ a w' :=
  ⟨hs, h.tr.mono (h.sat.le hE), h.nt, h.ds.mono fun _ _ hd => hd.mono (h.sat.le hE), h.rd⟩
theorem fromG_get : ∀ (l : List Value) (i : Nat) (t : Tr Value) (j : Nat), (fromG l i t).get j = if i ≤ j ∧ j < i + l.length then l[j - i]? else t.get j
  | [], i, t, j => by
    show t.get j = _
    rw [if_neg (by simp)]
  | v :: l, i, t, j => by
    show (seqV v fun v => t.putK i (some v) fun t => fromG l (i + 1) t).get j = _
    rw [seqV_eq, Tr.putK_eq, fromG_get l (i + 1) _ j, Tr.get_put]
    simp only [List.length_cons]
    by_cases h1 : i + 1 ≤ j ∧ j < i + 1 + l.length
    · rw [if_pos h1, if_pos (by omega), show j - i = (j - (i + 1)) + 1 by omega]
      simp
    · rw [if_neg h1]
      by_cases h2 : j = i
      · subst h2
        rw [if_pos rfl, if_pos (by omega)]
        simp
      · rw [if_neg h2, if_neg (by omega)]
theorem fromL_ok {l : List Value} {a : Array Value} (h : VL E l a.toList) (k : Nat) : TR E (fromL l) (a ++ Array.replicate k undef) := fun t => by
  rw [evS_tmp]
  unfold fromL
  rw [fromG_get]
  have hs : l.length = a.size := h.1.trans Array.length_toList
  by_cases ht : t < l.length
  · have ht' : t < a.size := Nat.lt_of_lt_of_eq ht hs
    rw [if_pos ⟨Nat.zero_le _, (Nat.zero_add l.length).symm ▸ ht⟩, Nat.sub_zero, List.getElem?_eq_getElem ht, Option.getD_some]
    obtain ⟨y, hy, hr⟩ := h.get (List.getElem?_eq_getElem ht)
    simp only [Array.getD_eq_getD_getElem?]
    rw [Array.getElem?_append_left ht']
    rw [Array.getElem?_toList] at hy
    rw [hy]
    exact hr
  · have ht' : ¬ t < a.size := fun h => ht (Nat.lt_of_lt_of_eq h hs.symm)
    rw [if_neg fun h => ht (Nat.zero_add l.length ▸ h.2)]
    simp only [Array.getD_eq_getD_getElem?]
    rw [Array.getElem?_append_right (Nat.le_of_not_lt ht')]
    have : ((Array.replicate k undef)[t - a.size]?).getD undef = undef := by
      rw [Array.getElem?_replicate]
      split <;> rfl
    rw [this]
    exact VR.undef
def resOne (t : Array Value) (r : ResultVar) : Sem Value :=
  match r with
  | .tmp k => pure (t.getD k undef)
  | .cell a ty => do loadVar ty (← asAddr (t.getD a undef))
theorem results_eq (fn : Func) (t : Array Value) : results fn t = (do
    let vs ← fn.results.mapM (resOne t)
    pure (if h : vs.size = 1 then vs[0] else .tuple vs)) := rfl
theorem results_ok {S : SW} (h : Sat G F W E S w) {tr : Tr Value} {t : Array Value} (ht : TR E tr t) {fn : Func} {l : List Value} (hl : resS P S tr fn.results.toList = some l) :
    ∃ v', (results fn t).run P w = .ok v' w ∧ VR E (resV l) v' := by
  have key : ∀ (rs : List ResultVar) (l : List Value), resS P S tr rs = some l → ∃ l', (rs.mapM (resOne t)).run P w = .ok l' w ∧ VL E l l' := by
    intro rs
    induction rs with
    | nil => intro l hl; cases hl; exact ⟨[], by simp, LR.nil⟩
    | cons r rs ih =>
      intro l hl
      cases r with
      | tmp k =>
        unfold resS at hl
        split at hl
        · rename_i r hr
          cases hl
          obtain ⟨l', h1, h2⟩ := ih r hr
          refine ⟨t.getD k undef :: l', ?_, LR.cons (ht k) h2⟩
          simp only [List.mapM_cons, Sem.run_bind, resOne, Sem.run_pure, Result.andThen_ok, h1]
        · cases hl
      | cell a ty =>
        unfold resS at hl
        split at hl
        · rename_i ad ha
          split at hl
          · rename_i v r hv hr
            cases hl
            obtain ⟨l', h1, h2⟩ := ih r hr
            have hta := ht a
            rw [ha] at hta
            generalize hx : t.getD a undef = x at hta
            cases hta with | ptr hA =>
            obtain ⟨v', q1, q2⟩ := h.loadVar (P := P) hA hv
            refine ⟨v' :: l', ?_, LR.cons q2 h2⟩
            simp only [List.mapM_cons, Sem.run_bind, resOne, hx, asAddr, Sem.run_pure, Result.andThen_ok, q1, h1]
          · cases hl
        · cases hl
  obtain ⟨l', h1, h2⟩ := key _ _ hl
  have hrun : (results fn t).run P w = .ok (if h : l'.toArray.size = 1 then l'.toArray[0] else .tuple l'.toArray) w := by
    rw [results_eq, Sem.run_bind, Array.mapM_eq_mapM_toList, Sem.run_map, h1]
    rfl
  refine ⟨_, hrun, ?_⟩
  have hlen := h2.1
  unfold resV
  split
  · rename_i v
    obtain ⟨v', m, rfl, q1, q2⟩ := h2.inv_cons
    have := LR.inv_nil q2
    subst this
    simpa using q1
  · rename_i l0 hno
    have hne : ¬ (l'.toArray.size = 1) := fun hc => by
      simp at hc
      match l, hlen with
      | [v], _ => exact hno v rfl
      | [], hh => rw [hc] at hh; cases hh
      | _ :: _ :: _, hh => rw [hc] at hh; simp at hh
    rw [dif_neg hne]
    exact .tuple' (by simpa using h2)
end
end Go.Proofs.YtaeophaecclnbaaGreatDoor
namespace Go.Proofs.YtaeophaecclnbaaGreatDoor
open Go

def UR (E : Env) : Option (Value × Bool) → FrameMode → Prop
  | none, .returning => True
  | some (v, b), .panicking ch => ∃ v', ch = [{ v := v', recovered := b }] ∧ VR E v v'
  | _, _ => False
theorem UR.run {E : Env} {u : Option (Value × Bool)} {m : FrameMode} (h : UR E u m) : m ≠ .run := fun hm => by
  subst hm
  cases u <;> exact h
theorem UR.mono {E E' : Env} {u : Option (Value × Bool)} {m : FrameMode} (h : UR E u m) (hE : E.le E') : UR E' u m := by
  cases u with
  | none => cases m <;> exact h
  | some p => cases m with
    | panicking ch => obtain ⟨v', h1, h2⟩ := h; exact ⟨v', h1, h2.mono hE⟩
    | run => exact h
    | returning => exact h
section
variable {P : Program} {G : Nat} {F : Nat → Option Obj} {W : World}
theorem takeDfr_ok {E : Env} {S : SW} {w : World} (h : Sat G F W E S w) {r : Nat} (hr : S.h.get r = some .dfr) {e : Ent} (he : E r = some e) :
    (Instr.takeDeferred e.b).run P w = .ok [] (w.putObj e.b (.deferred none)) ∧ Sat G F W E (S.del r) (w.putObj e.b (.deferred none)) := by
  obtain ⟨e', he', ho⟩ := h.obj _ _ hr
  rw [he] at he'; cases he'
  have ho' : w.heap[e.b]? = some (.deferred (some [])) := ho
  refine ⟨run_takeDeferred ho', h.step e.b r (Env.le.refl E) (fun i hi => h.new i (by rw [SW.del_n] at hi; exact hi)) (fun k hk _ => World.putObj_heap_other hk) (by simp) (fun i o hi hio => ?_) (fun o hio => ?_) (h.own _ _ _ hr he) rfl rfl rfl⟩
  · rw [SW.del_get, if_neg hi] at hio
    exact ⟨hio, fun e' he' hb => hi (h.inj i r o _ e' e hio hr he' he hb)⟩
  · rw [SW.del_get, if_pos rfl] at hio
    cases hio
theorem wpOpsSIn_mono {F : Fence} {n : Nat} {ops : Array Oper} {Q Q' : Exit → Act → List Frame → World → Prop} (hq : ∀ e a cs w, Q e a cs w → Q' e a cs w) : ∀ (l : List Nat) (a : Act) (cs : List Frame) (w : World), wpOpsSIn F n P ops Q l a cs w → wpOpsSIn F n P ops Q' l a cs w
  | [], _, _, _, h => hq _ _ _ _ h
  | i :: l, a, cs, w, h => by
    have hi : ∀ a cs w, wpOpsSIn F n P ops Q l a cs w → wpOpsSIn F n P ops Q' l a cs w := wpOpsSIn_mono hq l
    unfold wpOpsSIn at h ⊢
    cases ho : ops[i]? with
    | none => rw [ho] at h; exact hi _ _ _ h
    | some o =>
      rw [ho] at h
      simp only at h ⊢
      refine ⟨h.1, ?_⟩
      have h := h.2
      split
      · rename_i hw
        rw [if_pos hw] at h
        split at h <;> first | exact h.elim | exact hi _ _ _ h | exact hq _ _ _ _ h | skip
        split at h <;> exact hi _ _ _ h
      · rename_i hw
        rw [if_neg hw] at h
        exact hi _ _ _ h
theorem yieldS_ok {ops : Array Oper} {E : Env} {tr : Tr Value} {t : Array Value} (ht : TR E tr t) (j : Nat) : yielded ops t j = yieldS ops tr j := by
  unfold yielded yieldS
  cases ops[j]? with
  | none => rfl
  | some o =>
    simp only [Option.bind_some]
    cases o.dst with
    | none => rfl
    | some d =>
      have hd := ht d
      simp only [Option.bind_some]
      rw [Array.getD_eq_getD_getElem?] at hd
      cases hx : t[d]? with
      | none =>
        rw [hx] at hd
        generalize evS tr (.tmp d) = x at hd
        simp only
        have hu : (none : Option Value).getD undef = .tuple #[] := rfl
        rw [hu] at hd
        cases hd
        rfl
      | some y =>
        rw [hx] at hd
        simp only [Option.getD_some] at hd ⊢
        generalize evS tr (.tmp d) = x at hd
        cases hd <;> rfl
theorem wantS_ok {ops : Array Oper} {E : Env} {tr : Tr Value} {t : Array Value} (ht : TR E tr t) (o : Oper) : Region.wanted o (yielded ops t) = wantS ops tr o := by
  unfold Region.wanted wantS
  cases o.guard with
  | none => rfl
  | some p =>
    obtain ⟨j, want⟩ := p
    simp only
    rw [yieldS_ok ht j]
    cases yieldS ops tr j with
    | none => rfl
    | some b => cases b <;> cases want <;> rfl
def PostS (G : Nat) (F : Nat → Option Obj) (W : World) (E : Env) (n0 : Nat) (c0 : Frame) (cs : List Frame) (e : SExit) (st' : St) (u' : Option (Value × Bool)) : Exit → Act → List Frame → World → Prop :=
  fun x a cs' w => ∃ E' m', cs' = { c0 with mode := m' } :: cs ∧ Ext n0 E E' ∧ n0 ≤ st'.S.n ∧ StR G F W E' none st' a w ∧ ExitR E' e x ∧ UR E' u' m'
theorem PostS.ext {n0 n1 : Nat} {E E1 : Env} (hE : Ext n0 E E1) (hn : n0 ≤ n1) {c0 : Frame} {m : FrameMode} {cs : List Frame} {e : SExit} {st' : St} {u' : Option (Value × Bool)} {x : Exit} {a : Act} {cs' : List Frame} {w : World}
    (h : PostS G F W E1 n1 { c0 with mode := m } cs e st' u' x a cs' w) : PostS G F W E n0 c0 cs e st' u' x a cs' w := by
  obtain ⟨E', m', h1, h2, h3, h4, h5, h6⟩ := h
  exact ⟨E', m', h1, hE.trans h2 hn, Nat.le_trans hn h3, h4, h5, h6⟩
/-- A value put behind an operation: the frame. -/
theorem StR.val {E E' : Env} {rd : Option Nat} {st st' : St} {a : Act} {w w' : World} (h : StR G F W E rd st a w) {S' : SW} (hE : Ext st.S.n E E') (hs : Sat G F W E' S' w') {d : Option Tmp} {v v' : Value} (hv : VR E' v v')
    (hp : (⟨S', st.tr, st.nt, st.ds, st.rd⟩ : St).put d v = some st') : StR G F W E' rd st' (a.put d v') w' ∧ st'.S = S' := put_ok (h.move hE hs) hv hp
theorem opsR_ok {ops : Array Oper} : ∀ (os : List Oper) (l : List Nat), l.map (ops[·]?) = os.map some → ∀ (st : St) (u : Option (Value × Bool)) (st' : St) (u' : Option (Value × Bool)), opsR P G ops os st u = some (st', u') →
    ∀ (E : Env) (a : Act) (w : World) (n : Nat) (c0 : Frame) (cs : List Frame), StR G F W E none st a w → UR E u c0.mode → wpOpsSIn Fence.wide n P ops (PostS G F W E st.S.n c0 cs .normal st' u') l a (c0 :: cs) w := by
  intro os
  induction os with
  | nil =>
    intro l hl st u st' u' h E a w n c0 cs hst hu
    cases l with
    | nil => cases h; exact ⟨E, c0.mode, rfl, Ext.refl _ _, Nat.le_refl _, hst, trivial, hu⟩
    | cons i l => cases hl
  | cons o os hi =>
    intro l hl st u st' u' h E a w n c0 cs hst hu
    cases l with
    | nil => cases hl
    | cons i l =>
      simp only [List.map_cons, List.cons.injEq] at hl
      unfold opsR at h
      split at h
      · rename_i st1 u1 h1
        unfold wpOpsSIn
        rw [hl.1]
        simp only
        refine ⟨fun _ _ => trivial, ?_⟩
        have hgo : ∀ (E1 : Env) (a1 : Act) (w1 : World) (m1 : FrameMode), Ext st.S.n E E1 → st.S.n ≤ st1.S.n → StR G F W E1 none st1 a1 w1 → UR E1 u1 m1 →
            wpOpsSIn Fence.wide n P ops (PostS G F W E st.S.n c0 cs .normal st' u') l a1 ({ c0 with mode := m1 } :: cs) w1 := fun E1 a1 w1 m1 hE hn hst1 hu1 =>
          wpOpsSIn_mono (fun _ _ _ _ hq => PostS.ext hE hn hq) _ _ _ _ (hi l hl.2 st1 u1 st' u' h E1 a1 w1 n { c0 with mode := m1 } cs hst1 hu1)
        rw [wantS_ok hst.tr o]
        unfold operR at h1
        split at h1
        · rename_i hw
          rw [hw, if_neg (by simp)]
          split at h1
          · rename_i st2 h2
            cases h1
            obtain ⟨hs2, hS⟩ := put_ok hst VR.undef h2
            exact hgo E _ w c0.mode (Ext.refl _ _) (by rw [hS]; exact Nat.le_refl _) hs2 hu
          · cases h1
        · rename_i hw
          rw [hw, if_pos rfl]
          split at h1
          · rename_i v S1 hx
            obtain ⟨v', w', E', hr, hE, hn, hs, hv⟩ := stepS_ok hst.sat hst.tr hx
            rw [hr]
            simp only
            split at h1
            · rename_i st2 h2
              cases h1
              obtain ⟨hs2, hS⟩ := hst.val hE hs hv h2
              exact hgo E' _ w' c0.mode hE (by rw [hS]; exact hn) hs2 (hu.mono (hst.sat.le hE))
            · cases h1
          · rename_i S1 hx
            obtain ⟨w', E', hr, hE, hn, hs⟩ := stepS_ok hst.sat hst.tr hx
            rw [hr]
            simp only
            split at h1
            · rename_i st2 h2
              cases h1
              obtain ⟨hs2, hS⟩ := hst.val hE hs VR.undef h2
              exact hgo E' _ w' c0.mode hE (by rw [hS]; exact hn) hs2 (hu.mono (hst.sat.le hE))
            · cases h1
          · rename_i S1 hx
            obtain ⟨hr, rfl⟩ := stepS_ok hst.sat hst.tr hx
            rw [hr]
            simp only
            split at h1
            · rename_i v
              split at h1
              · rename_i st2 h2
                cases h1
                obtain ⟨m, hm⟩ : ∃ m, c0.mode = m := ⟨_, rfl⟩
                rw [hm] at hu
                cases m with
                | run => exact hu.elim
                | returning => exact hu.elim
                | panicking ch =>
                  obtain ⟨v', rfl, hv⟩ := hu
                  have hrec : recoverD (c0 :: cs) = some (v', { c0 with mode := .panicking [{ v := v', recovered := true }] } :: cs) := by
                    simp [recoverD, hm]
                  rw [hrec]
                  obtain ⟨hs2, hS⟩ := hst.val (Ext.refl _ _) hst.sat hv h2
                  exact hgo E _ w _ (Ext.refl _ _) (by rw [hS]; exact Nat.le_refl _) hs2 ⟨v', rfl, hv⟩
              · cases h1
            · rename_i hno
              split at h1
              · rename_i st2 h2
                cases h1
                have hrec : recoverD (c0 :: cs) = none := by
                  obtain ⟨m, hm⟩ : ∃ m, c0.mode = m := ⟨_, rfl⟩
                  rw [hm] at hu
                  cases u with
                  | none => cases m with
                    | returning => simp [recoverD, hm]
                    | run => exact hu.elim
                    | panicking ch => exact hu.elim
                  | some q =>
                    obtain ⟨v, b⟩ := q
                    cases m with
                    | returning => exact hu.elim
                    | run => exact hu.elim
                    | panicking ch =>
                      obtain ⟨v', rfl, hv⟩ := hu
                      cases b with
                      | false => exact absurd rfl (hno v)
                      | true => simp [recoverD, hm]
                rw [hrec]
                obtain ⟨hs2, hS⟩ := hst.val (Ext.refl _ _) hst.sat .nilIface h2
                exact hgo E _ w c0.mode (Ext.refl _ _) (by rw [hS]; exact Nat.le_refl _) hs2 hu
              · cases h1
          · cases h1
      · cases h
theorem range_ops (ops : Array Oper) : (List.range ops.size).map (ops[·]?) = ops.toList.map some := by
  apply List.ext_getElem?
  intro i
  simp only [List.getElem?_map]
  by_cases hi : i < ops.size
  · rw [List.getElem?_range hi]
    simp [hi]
  · rw [List.getElem?_eq_none (by simp; omega), List.getElem?_eq_none (by simp; omega)]
    rfl
theorem wpSIn_mono {F : Fence} {n : Nat} {c : Code} {Q Q' : Exit → Act → List Frame → World → Prop} {a : Act} {cs : List Frame} {w : World} (h : c.wpSIn F n P Q a cs w) (hq : ∀ e a cs w, Q e a cs w → Q' e a cs w) : c.wpSIn F n P Q' a cs w :=
  fun b k hb hr hF hroom => let ⟨e, a', cs', w', l, q, r⟩ := h b k hb hr hF hroom; ⟨e, a', cs', w', l, hq _ _ _ _ q, r⟩
theorem codeR_ok {ih : Run} (hih : Snd P G ih) : ∀ (c : Code) (st : St) (u : Option (Value × Bool)) (e : SExit) (st' : St) (u' : Option (Value × Bool)), codeR P G ih c st u = some (e, st', u') →
    ∀ (E : Env) (a : Act) (w : World) (n : Nat) (c0 : Frame) (cs : List Frame), StR G F W E none st a w → UR E u c0.mode → c.wpSIn Fence.wide n P (PostS G F W E st.S.n c0 cs e st' u') a (c0 :: cs) w := by
  have hplain : ∀ (c : Code) (st : St) (u : Option (Value × Bool)) (e : SExit) (st' : St) (u' : Option (Value × Bool)), (match ih st c with | some (e, st') => some (e, st', u) | none => none) = some (e, st', u') →
      ∀ (E : Env) (a : Act) (w : World) (n : Nat) (c0 : Frame) (cs : List Frame), StR G F W E none st a w → UR E u c0.mode → c.wpSIn Fence.wide n P (PostS G F W E st.S.n c0 cs e st' u') a (c0 :: cs) w := by
    intro c st u e st' u' h E a w n c0 cs hst hu
    split at h
    · rename_i e1 st1 h1
      cases h
      refine wpSIn_of_wpIn rfl (wpIn_mono (hih _ _ _ _ h1 F W E a w none n hst) ?_)
      rintro x a' w' ⟨E', h1, h2, h3, h4⟩
      exact ⟨E', c0.mode, rfl, h1, h2, h3, h4, hu.mono (hst.sat.le h1)⟩
    · cases h
  intro c
  induction c with
  | seq x y hx hy =>
    intro st u e st' u' h E a w n c0 cs hst hu
    unfold codeR at h
    split at h
    · rename_i st1 u1 h1
      refine wpSIn_seq (wpSIn_mono (hx _ _ _ _ _ h1 E a w n c0 cs hst hu) ?_)
      rintro x1 a1 cs1 w1 ⟨E1, m1, rfl, h3, h4, h5, h6, h7⟩
      cases x1 <;> first | exact h6.elim | skip
      exact wpSIn_mono (hy _ _ _ _ _ h E1 a1 w1 n { c0 with mode := m1 } cs h5 h7) fun _ _ _ _ hq => PostS.ext h3 h4 hq
    · rename_i hno
      refine wpSIn_seq (wpSIn_mono (hx _ _ _ _ _ h E a w n c0 cs hst hu) ?_)
      intro x1 a1 cs1 w1 hq
      have hq' := hq
      obtain ⟨E1, m1, rfl, h3, h4, h5, h6, h7⟩ := hq
      cases x1 with
      | normal =>
        cases e with
        | normal => exact absurd h (hno _ _)
        | _ => exact h6.elim
      | _ => exact hq'
  | region id ops d =>
    intro st u e st' u' h
    unfold codeR at h
    by_cases hb : (!d && ops.toList.any isRecover) = true
    · rw [hb, cond_true] at h
      split at h
      · rename_i st1 u1 h1
        cases h
        intro E a w n c0 cs hst hu
        have hd : d = false := by cases d <;> simp_all
        subst hd
        exact wpSIn_region (opsR_ok _ _ (range_ops ops) _ _ _ _ h1 E a w n c0 cs hst hu)
      · cases h
    · rw [Bool.eq_false_iff.2 hb, cond_false] at h
      exact hplain _ _ _ _ _ _ h
  | _ =>
    intro st u e st' u' h
    unfold codeR at h
    exact hplain _ _ _ _ _ _ h
theorem settle_ok {E : Env} {u : Option (Value × Bool)} {m : FrameMode} (h : UR E u m) : UR E (settleS u) (settle m) := by
  cases u with
  | none => cases m with
    | returning => trivial
    | run => exact h.elim
    | panicking ch => exact h.elim
  | some p =>
    obtain ⟨v, b⟩ := p
    cases m with
    | returning => exact h.elim
    | run => exact h.elim
    | panicking ch =>
      obtain ⟨v', rfl, hv⟩ := h
      cases b with
      | true => exact trivial
      | false => exact ⟨v', rfl, hv⟩
theorem deferFn_ok {ih : Run} (hih : Snd P G ih) {f : FuncId} {args : List Value} {S S' : SW} {u u' : Option (Value × Bool)} (h : deferFn P G ih f args S u = some (S', u')) {E : Env} {w : World} {args' : Array Value} {m : FrameMode} (n : Nat)
    (hs : Sat G F W E S w) (hargs : VL E args args'.toList) (hu : UR E u m) :
    (callFunc f args').run P w = .ok (.enter f args') w ∧ CallsDIn Fence.wide n P f args' m w fun e m' w' => ∃ E', (∃ v, e = .returned v) ∧ Ext S.n E E' ∧ S.n ≤ S'.n ∧ Sat G F W E' S' w' ∧ UR E' u' (settle m') := by
  unfold deferFn at h
  split at h
  · rename_i x fn hx hfn
    obtain ⟨_, hcall⟩ := enter_ok hx
    refine ⟨hcall args' w, ?_⟩
    split at h
    · cases h
    · rename_i c hc
      split at h
      · rename_i e st u1 hrun
        refine callsDIn_of_wpSIn hfn hc trivial fun c0 cs hm => ?_
        have hsz : (args' ++ Array.replicate (fn.ntmps - args'.size) undef).size = Nat.max fn.ntmps args.length := by
          have h1 : args.length = args'.size := hargs.1.trans Array.length_toList
          show _ = max fn.ntmps args.length
          rw [Nat.max_def]
          split <;> simp <;> omega
        refine wpSIn_mono (codeR_ok hih c _ _ _ _ _ hrun E { tmps := args' ++ Array.replicate (fn.ntmps - args'.size) undef, defers := [] } w n c0 cs ⟨hs, fromL_ok hargs _, hsz, LR.nil, rfl⟩ (hm ▸ hu)) ?_
        rintro x1 a1 cs1 w1 ⟨E1, m1, rfl, h3, h4, h5, h6, h7⟩
        have hdone : endR P fn .normal st u1 = some (S', u') → a1.defers = [] ∧ ∃ m', ({ c0 with mode := m1 } :: cs : List Frame) = { c0 with mode := m' } :: cs ∧ ∃ v, (results fn a1.tmps).run P w1 = .ok v w1 ∧
            ∃ E', (∃ v', Ending.returned v = .returned v') ∧ Ext S.n E E' ∧ S.n ≤ S'.n ∧ Sat G F W E' S' w1 ∧ UR E' u' (settle m') := fun he => by
          unfold endR at he
          simp only at he
          split at he
          · rename_i l hds hl
            cases he
            have hd := h5.ds
            rw [hds] at hd
            obtain ⟨v', hr, _⟩ := results_ok h5.sat h5.tr hl
            exact ⟨LR.inv_nil hd, m1, rfl, v', hr, E1, ⟨v', rfl⟩, h3, h4, h5.sat, settle_ok h7⟩
          · cases he
        cases e with
        | normal => cases x1 <;> first | exact hdone h | exact h6.elim
        | ret => cases x1 <;> first | exact hdone h | exact h6.elim
        | exit i => cases h
        | goto l => cases h
        | panic v => cases h
      · cases h
  · cases h
theorem defersE_ok {ih : Run} (hih : Snd P G ih) {n0 : Nat} {E0 : Env} {fn : Func} {tr : Tr Value} {r : SEnd} {S' : SW} : ∀ (ds : List Deferred) (S : SW) (u : Option (Value × Bool)) (p : SW × Option (Value × Bool)), defersE P G ih ds S u = some p → endE P fn tr p = some (r, S') →
    ∀ (E : Env) (w : World) (ds' : List Deferred) (mode : FrameMode) (tmps : Array Value) (n : Nat), Ext n0 E0 E → n0 ≤ S.n → Sat G F W E S w → LR (DR E) ds ds' → UR E u mode → TR E tr tmps →
      LeavesInM Fence.wide n P fn tmps (fun e w' => ∃ E', Ext n0 E0 E' ∧ n0 ≤ S'.n ∧ Sat G F W E' S' w' ∧ EndR E' r e) ds' mode w := by
  intro ds
  induction ds with
  | nil =>
    intro S u p hp hend E w ds' mode tmps n hE hn hs hds hu ht
    cases hp
    have := LR.inv_nil hds
    subst this
    cases u with
    | none =>
      cases mode with
      | returning =>
        unfold endE at hend
        split at hend
        · rename_i S0 heq
          cases heq
          split at hend
          · rename_i l hl
            cases hend
            obtain ⟨v', h1, h2⟩ := results_ok hs ht hl
            exact ⟨v', h1, E, hE, hn, hs, h2⟩
          · cases hend
        · rename_i heq; cases heq
        · rename_i heq; cases heq
      | run => exact hu.elim
      | panicking ch => exact hu.elim
    | some q =>
      obtain ⟨v, b⟩ := q
      cases mode with
      | returning => exact hu.elim
      | run => exact hu.elim
      | panicking ch =>
        obtain ⟨v', rfl, hv⟩ := hu
        cases b with
        | true => cases hend
        | false =>
          cases hend
          exact ⟨E, hE, hn, hs, v', rfl, hv⟩
  | cons d ds hi =>
    intro S u p hp hend E w ds' mode tmps n hE hn hs hds hu ht
    obtain ⟨d', m, rfl, hd, hds0⟩ := hds.inv_cons
    clear hds
    have hds := hds0
    clear hds0
    cases hd with
    | fn hc ha =>
      rename_i f cap cap' args args'
      unfold defersE at hp
      simp only at hp
      split at hp
      · rename_i S1 u1 h1
        have hargs : VL E (args.toList ++ cap.toList) (args' ++ cap').toList := by
          rw [Array.toList_append]
          exact ha.append hc
        obtain ⟨h2, h3⟩ := deferFn_ok hih h1 (n - 1) hs hargs hu
        refine ⟨hu.run, .inr ⟨(fun hh => by cases hh), .func f, cap', f, _, rfl, h2, fun _ _ => trivial, ?_⟩⟩
        refine h3.mono ?_
        rintro e m' w' ⟨E', ⟨v, rfl⟩, k1, k2, k3, k4⟩
        exact hi _ _ _ hp hend E' w' m _ tmps n (hE.trans k1 hn) (Nat.le_trans hn k2) k3 (hds.mono fun _ _ hd => hd.mono (hs.le k1)) k4 (ht.mono (hs.le k1))
      · cases hp
    | mark he =>
      rename_i r0 e
      unfold defersE at hp
      simp only at hp
      split at hp
      · rename_i hr
        obtain ⟨h1, h2⟩ := takeDfr_ok (P := P) hs hr he
        exact ⟨hu.run, .inl ⟨_, _, rfl, h1, hi _ _ _ hp hend E _ m mode tmps n hE (by rw [SW.del_n]; exact hn) h2 hds hu ht⟩⟩
      · cases hp
theorem callB_ok {ih : Run} (hi : Snd P G ih) {S S' : SW} {f : FuncId} {fn : Func} {c : Code} {args : List Value} {r : SEnd} (hf : P.funcs[f]? = some fn) (hb : fn.body = some c)
    (h : callB P G ih S fn c args = some (r, S')) : CallOk P G S f args r S' := by
  intro F W E w args' n hs hargs
  refine callsIn_of_wp_marks hf hb trivial ?_
  unfold callB at h
  split at h
  · cases h
  rename_i e st hrun
  split at h
  · cases h
  rename_i st1 u hout
  split at h
  · cases h
  rename_i p hdef
  have hsz : (args' ++ Array.replicate (fn.ntmps - args'.size) undef).size = Nat.max fn.ntmps args.length := by
    have h1 : args.length = args'.size := hargs.1.trans Array.length_toList
    show _ = max fn.ntmps args.length
    rw [Nat.max_def]
    split <;> simp <;> omega
  have key := hi _ _ _ _ hrun F W E { tmps := args' ++ Array.replicate (fn.ntmps - args'.size) undef, defers := [] } w none n ⟨hs, fromL_ok hargs _, hsz, LR.nil, rfl⟩
  refine wpIn_mono key ?_
  rintro e' a' w' ⟨E', hE, hn, hst, hx⟩
  have hdone : ∀ u' mode, outE e st = some (st, u') → UR E' u' mode → LeavesInM Fence.wide n P fn a'.tmps (fun e w' => ∃ E', Ext S.n E E' ∧ S.n ≤ S'.n ∧ Sat G F W E' S' w' ∧ EndR E' r e) a'.defers mode w' := fun u' mode ho hu => by
    rw [ho] at hout
    cases hout
    exact defersE_ok hi _ _ _ _ hdef h E' w' _ _ _ _ hE hn hst.sat hst.ds hu hst.tr
  cases e with
  | normal => cases e' <;> first | exact hdone none _ rfl trivial | exact hx.elim
  | ret => cases e' <;> first | exact hdone none _ rfl trivial | exact hx.elim
  | exit i => cases hout
  | goto i => cases hout
  | panic v => cases e' <;> first | exact hx.elim | exact hdone (some (v, false)) _ rfl hx
end
end Go.Proofs.YtaeophaecclnbaaGreatDoor
namespace Go.Proofs.YtaeophaecclnbaaGreatDoor
open Go

theorem listEq_ok {α : Type} {p : α → α → Bool} (hp : ∀ x y, p x y = true → x = y) : ∀ l m : List α, listEq p l m = true → l = m
  | [], [], _ => rfl
  | [], y :: m, h => by cases h
  | x :: l, [], h => by cases h
  | x :: l, y :: m, h => by
    have h' : (Bool.rec false (listEq p l m) (p x y) : Bool) = true := h
    cases hx : p x y with
    | false => rw [hx] at h'; cases h'
    | true => rw [hx] at h'; rw [hp x y hx, listEq_ok hp l m h']
theorem arr_of_list {α : Type} {a b : Array α} (h : a.toList = b.toList) : a = b := Array.toList_inj.1 h
theorem addrEq_ok {a b : Addr} (h : addrEq a b = true) : a = b := by
  obtain ⟨x, y, z⟩ := a
  obtain ⟨x', y', z'⟩ := b
  unfold addrEq at h
  simp only [Bool.and_eq_true] at h
  obtain ⟨⟨h1, h2⟩, h3⟩ := h
  have e1 := Nat.eq_of_beq_eq_true h1
  have e2 := Nat.eq_of_beq_eq_true h2
  subst e1; subst e2
  cases z <;> cases z' <;> first | rfl | cases h3 | skip
  have := Nat.eq_of_beq_eq_true (show Nat.beq _ _ = true from h3)
  subst this; rfl
theorem optAddrEq_ok {a b : Option Addr} (h : optAddrEq a b = true) : a = b := by
  cases a <;> cases b <;> first | rfl | cases h | skip
  rw [addrEq_ok h]
theorem fkEq_ok {a b : FloatKind} (h : fkEq a b = true) : a = b := by cases a <;> cases b <;> first | rfl | cases h
theorem valEq_ok : ∀ (n : Nat) (v w : Value), valEq n v w = true → v = w
  | 0, _, _, h => by cases h
  | n + 1, v, w, h => by
    have ih := valEq_ok n
    have h' : valEq1 (valEq n) v w = true := h
    unfold valEq1 at h'
    split at h' <;> first | cases h' | skip
    · rw [eq_of_beq h']
    · simp only [Bool.and_eq_true] at h'
      rw [kindEq_iff.1 h'.1, intEq_iff.1 h'.2]
    · simp only [Bool.and_eq_true] at h'
      rw [fkEq_ok h'.1, Nat.eq_of_beq_eq_true h'.2]
    · simp only [Bool.and_eq_true] at h'
      rw [fkEq_ok h'.1.1, Nat.eq_of_beq_eq_true h'.1.2, Nat.eq_of_beq_eq_true h'.2]
    · rename_i a b
      have := arr_of_list (listEq_ok (fun x y hxy => UInt8.toNat_inj.1 (Nat.eq_of_beq_eq_true hxy)) _ _ h')
      obtain ⟨a⟩ := a
      obtain ⟨b⟩ := b
      simp only at this
      rw [this]
    · rw [optAddrEq_ok h']
    · simp only [Bool.and_eq_true] at h'
      rw [optAddrEq_ok h'.1.1, Nat.eq_of_beq_eq_true h'.1.2, Nat.eq_of_beq_eq_true h'.2]
    · rename_i a b
      cases a <;> cases b <;> first | rfl | cases h' | skip
      rw [Nat.eq_of_beq_eq_true (show Nat.beq _ _ = true from h')]
    · rename_i f a b g c d
      simp only [Bool.and_eq_true] at h'
      rw [arr_of_list (listEq_ok ih _ _ h'.1.2), arr_of_list (listEq_ok ih _ _ h'.2)]
      have hf := h'.1.1
      unfold fnEq at hf
      split at hf
      · rw [Nat.eq_of_beq_eq_true hf]
      · cases hf
    · rfl
    · simp only [Bool.and_eq_true] at h'
      rw [Nat.eq_of_beq_eq_true h'.1, ih _ _ h'.2]
    · rfl
    · rw [arr_of_list (listEq_ok ih _ _ h')]
    · rw [arr_of_list (listEq_ok ih _ _ h')]
theorem objEq_ok {a b : SObj} (h : objEq a b = true) : a = b := by
  unfold objEq at h
  split at h
  · rename_i cs t x ds u y
    simp only [Bool.and_eq_true] at h
    rw [listEq_ok (valEq_ok PD) _ _ h.1.1, Nat.eq_of_beq_eq_true h.1.2, eq_of_beq h.2]
  · rename_i es c fs d
    rw [Bool.and_eq_true] at h
    have hm : ∀ x y : MapEntry, (valEq PD x.key y.key && valEq PD x.val y.val && Nat.beq x.born y.born) = true → x = y := fun x y hxy => by
      simp only [Bool.and_eq_true] at hxy
      obtain ⟨k, v, n⟩ := x
      obtain ⟨k', v', n'⟩ := y
      simp only at hxy
      rw [valEq_ok _ _ _ hxy.1.1, valEq_ok _ _ _ hxy.1.2, Nat.eq_of_beq_eq_true hxy.2]
    rw [listEq_ok hm _ _ h.1, Nat.eq_of_beq_eq_true h.2]
  · cases h
theorem hasObj_ok {S : SW} {p : Nat × SObj} (h : hasObj S p = true) : S.h.get p.1 = some p.2 := by
  unfold hasObj at h
  split at h
  · rename_i o ho
    rw [ho, objEq_ok h]
  · cases h
theorem putAll_cons (p : Nat × SObj) (l : List (Nat × SObj)) (t : Tr SObj) : putAll (p :: l) t = (putAll l t).put p.1 (some p.2) := by
  show (putAll l t).putK p.1 (some p.2) (fun h => h) = _
  rw [Tr.putK_eq]
theorem delAll_cons (p : Nat × SObj) (l : List (Nat × SObj)) (t : Tr SObj) : delAll (p :: l) t = (delAll l t).put p.1 none := by
  show (delAll l t).putK p.1 none (fun h => h) = _
  rw [Tr.putK_eq]
/-- What is put is there, or what was. -/
theorem putAll_get {t : Tr SObj} {i : Nat} {o : SObj} : ∀ l : List (Nat × SObj), (putAll l t).get i = some o → (putAll l .leaf).get i = some o ∨ ((putAll l .leaf).get i = none ∧ t.get i = some o)
  | [], h => .inr ⟨rfl, h⟩
  | p :: l, h => by
    rw [putAll_cons, Tr.get_put] at h ⊢
    by_cases hi : i = p.1
    · rw [if_pos hi] at h ⊢
      exact .inl h
    · rw [if_neg hi] at h ⊢
      exact putAll_get l h
theorem putAll_mem {i : Nat} {o : SObj} : ∀ l : List (Nat × SObj), (putAll l .leaf).get i = some o → (i, o) ∈ l
  | [], h => by cases h
  | p :: l, h => by
    rw [putAll_cons, Tr.get_put] at h
    by_cases hi : i = p.1
    · rw [if_pos hi] at h
      cases h
      subst hi
      exact List.mem_cons_self
    · rw [if_neg hi] at h
      exact List.mem_cons_of_mem _ (putAll_mem l h)
theorem putAll_none {i : Nat} : ∀ l : List (Nat × SObj), (putAll l .leaf).get i = none → ∀ o, (i, o) ∉ l
  | [], _, _, hm => by cases hm
  | p :: l, h, o, hm => by
    rw [putAll_cons, Tr.get_put] at h
    by_cases hi : i = p.1
    · rw [if_pos hi] at h; cases h
    · rw [if_neg hi] at h
      rcases List.mem_cons.1 hm with rfl | hm
      · exact hi rfl
      · exact putAll_none l h o hm
theorem delAll_get {t : Tr SObj} {i : Nat} {o : SObj} : ∀ l : List (Nat × SObj), (delAll l t).get i = some o → t.get i = some o ∧ ∀ x, (i, x) ∉ l
  | [], h => ⟨h, fun _ hm => by cases hm⟩
  | p :: l, h => by
    rw [delAll_cons, Tr.get_put] at h
    by_cases hi : i = p.1
    · rw [if_pos hi] at h; cases h
    · rw [if_neg hi] at h
      obtain ⟨h1, h2⟩ := delAll_get l h
      refine ⟨h1, fun x hm => ?_⟩
      rcases List.mem_cons.1 hm with rfl | hm
      · exact hi rfl
      · exact h2 x hm
def HookOk (P : Program) (G : Nat) (h : HookE) : Prop := CallOk P G ⟨h.n, putAll h.pre .leaf⟩ h.f h.args (.ret h.ret) ⟨h.m, putAll h.post .leaf⟩
def HooksOk (P : Program) (G : Nat) (H : List HookE) : Prop := ∀ h ∈ H, HookOk P G h
theorem HooksOk.cons {P : Program} {G : Nat} {x : HookE} {H : List HookE} (h : HookOk P G x) (t : HooksOk P G H) : HooksOk P G (x :: H) := fun y hy => by
  rcases List.mem_cons.1 hy with rfl | hy
  · exact h
  · exact t y hy
theorem HooksOk.nil {P : Program} {G : Nat} : HooksOk P G [] := fun _ h => by cases h
section
variable {P : Program} {G : Nat}
theorem Sat.sub {F : Nat → Option Obj} {W : World} {E : Env} {S S2 : SW} {w : World} (h : Sat G F W E S w) (hn : S2.n = S.n) (hs : ∀ i o, S2.h.get i = some o → S.h.get i = some o) : Sat G F W E S2 w :=
  ⟨fun i hi => h.new i (hn ▸ hi), h.glob, fun i o hi => h.obj i o (hs i o hi), fun i j o o' e e' hi hj => h.inj i j o o' e e' (hs i o hi) (hs j o' hj), fun i o e hi => h.own i o e (hs i o hi), h.far, h.size, h.os, h.tape, h.output⟩
/-- A call that is known, beside other things. -/
theorem hook_frame {h : HookE} (hk : HookOk P G h) {S : SW} (hn : h.n = S.n) (hpre : ∀ p ∈ h.pre, S.h.get p.1 = some p.2) : CallOk P G S h.f h.args (.ret h.ret) ⟨h.m, putAll h.post (delAll h.pre S.h)⟩ := by
  intro F W E w args' n hs hargs
  have hsub : ∀ i o, (putAll h.pre .leaf).get i = some o → S.h.get i = some o := fun i o hi => hpre _ (putAll_mem _ hi)
  let Q : Nat → Prop := fun b => ∃ i o e, S.h.get i = some o ∧ (∀ x, (i, x) ∉ h.pre) ∧ E i = some e ∧ e.b = b
  have hsat : Sat G (fun b => open Classical in if Q b then w.heap[b]? else F b) W E ⟨h.n, putAll h.pre .leaf⟩ w := by
    have h0 := hs.sub (S2 := ⟨h.n, putAll h.pre .leaf⟩) hn hsub
    refine ⟨h0.new, h0.glob, h0.obj, h0.inj, fun i o e hi he => ?_, fun k o hk => ?_, h0.size, h0.os, h0.tape, h0.output⟩
    · have hnot : ¬ Q e.b := fun ⟨j, o', e', hj, hjn, he', hb⟩ => by
        have := hs.inj j i o' o e' e hj (hsub i o hi) he' he hb
        subst this
        exact hjn o (putAll_mem _ hi)
      simp only [if_neg hnot]
      exact hs.own i o e (hsub i o hi) he
    · by_cases hq : Q k
      · simp only [if_pos hq] at hk
        exact hk
      · simp only [if_neg hq] at hk
        exact hs.far k o hk
  refine (hk _ W E w args' n hsat hargs).mono ?_
  rintro e w' ⟨E', hE, hm, hs', he⟩
  have hle := hs.le (hn ▸ hE)
  refine ⟨E', hn ▸ hE, hn ▸ hm, ?_, he⟩
  have hkeep : ∀ i o, (delAll h.pre S.h).get i = some o → ∃ e, E i = some e ∧ E' i = some e ∧ ObjR E' w' e o ∧ Q e.b := fun i o hi => by
    obtain ⟨h1, h2⟩ := delAll_get _ hi
    obtain ⟨e, he, ho⟩ := hs.obj i o h1
    have hq : Q e.b := ⟨i, o, e, h1, h2, he, rfl⟩
    refine ⟨e, he, hle _ _ he, ho.mono hle ?_, hq⟩
    have hlt := ho.lt
    rw [hs'.far e.b (w.heap[e.b]) (by simp only [if_pos hq]; exact Array.getElem?_eq_getElem hlt), Array.getElem?_eq_getElem hlt]
  have hcase : ∀ i o, (putAll h.post (delAll h.pre S.h)).get i = some o → ((putAll h.post .leaf).get i = some o ∧ ∃ e, E' i = some e ∧ ObjR E' w' e o ∧ ¬ Q e.b) ∨ ((delAll h.pre S.h).get i = some o) := fun i o hi => by
    rcases putAll_get _ hi with h1 | ⟨_, h1⟩
    · obtain ⟨e, he, ho⟩ := hs'.obj i o h1
      refine .inl ⟨h1, e, he, ho, fun hq => ?_⟩
      have := hs'.own i o e h1 he
      simp only [if_pos hq] at this
      rw [Array.getElem?_eq_none_iff] at this
      obtain ⟨j, o', e', hj, _, he', hb⟩ := hq
      obtain ⟨e'', he'', ho'⟩ := hs.obj j o' hj
      rw [he'] at he''; cases he''
      have := ho'.lt
      omega
    · exact .inr h1
  refine ⟨hs'.new, hs'.glob, fun i o hi => ?_, fun i j o o' e1 e2 hi hj h1 h2 hb => ?_, fun i o e1 hi h1 => ?_, fun k o hk => ?_, hs'.size, hs'.os, hs'.tape, hs'.output⟩
  · rcases hcase i o hi with ⟨_, e, he, ho, _⟩ | hi'
    · exact ⟨e, he, ho⟩
    · obtain ⟨e, _, he, ho, _⟩ := hkeep i o hi'
      exact ⟨e, he, ho⟩
  · rcases hcase i o hi with ⟨hi', f1, k1, _, q1⟩ | hi'
    · rcases hcase j o' hj with ⟨hj', f2, k2, _, q2⟩ | hj'
      · exact hs'.inj i j o o' e1 e2 hi' hj' h1 h2 hb
      · obtain ⟨f2, _, k2, _, q2⟩ := hkeep j o' hj'
        rw [k1] at h1; cases h1
        rw [k2] at h2; cases h2
        exact absurd (hb ▸ q2) q1
    · obtain ⟨f1, k0, k1, _, q1⟩ := hkeep i o hi'
      rw [k1] at h1; cases h1
      rcases hcase j o' hj with ⟨hj', f2, k2, _, q2⟩ | hj'
      · rw [k2] at h2; cases h2
        exact absurd (hb ▸ q1) q2
      · obtain ⟨f2, k3, k2, _, q2⟩ := hkeep j o' hj'
        rw [k2] at h2; cases h2
        exact hs.inj i j o o' _ _ (delAll_get _ hi').1 (delAll_get _ hj').1 k0 k3 hb
  · rcases hcase i o hi with ⟨hi', f1, k1, _, q1⟩ | hi'
    · have := hs'.own i o e1 hi' h1
      rw [k1] at h1; cases h1
      simp only [if_neg q1] at this
      exact this
    · obtain ⟨f1, k0, k1, _, _⟩ := hkeep i o hi'
      rw [k1] at h1; cases h1
      exact hs.own i o _ (delAll_get _ hi').1 k0
  · refine hs'.far k o ?_
    by_cases hq : Q k
    · simp only [if_pos hq]
      exact hs.far k o hk
    · simp only [if_neg hq]
      exact hk
theorem hookE_ok {f : FuncId} {args : List Value} {S S' : SW} {r : SEnd} : ∀ H : List HookE, HooksOk P G H → hookE H f args S = some (r, S') → CallOk P G S f args r S'
  | [], _, h => by cases h
  | x :: H, hH, h => by
    have h' : (bif Nat.beq x.f f && Nat.beq x.n S.n then
      bif listEq (valEq PD) args x.args && allL (hasObj S) x.pre then some (SEnd.ret x.ret, (⟨x.m, putAll x.post (delAll x.pre S.h)⟩ : SW)) else hookE H f args S else hookE H f args S) = some (r, S') := h
    have hrest : hookE H f args S = some (r, S') → CallOk P G S f args r S' := hookE_ok H (fun y hy => hH y (List.mem_cons_of_mem _ hy))
    cases h1 : Nat.beq x.f f && Nat.beq x.n S.n with
    | false => rw [h1, cond_false] at h'; exact hrest h'
    | true =>
      rw [h1, cond_true] at h'
      cases h2 : listEq (valEq PD) args x.args && allL (hasObj S) x.pre with
      | false => rw [h2, cond_false] at h'; exact hrest h'
      | true =>
        rw [h2, cond_true] at h'
        cases h'
        rw [Bool.and_eq_true] at h1 h2
        have e1 := Nat.eq_of_beq_eq_true h1.1
        have e2 := Nat.eq_of_beq_eq_true h1.2
        have e3 := listEq_ok (valEq_ok PD) _ _ h2.1
        subst e1 e3
        exact hook_frame (hH x List.mem_cons_self) e2 fun p hp => hasObj_ok ((allL_iff _ _).1 h2.2 p hp)
/-- Is the entry what the call answers? -/
noncomputable def hookTest (h : HookE) : Option (SEnd × SW) → Bool
  | some (.ret v, S') => valEq PD v h.ret && Nat.beq S'.n h.m && allL (hasObj S') h.post
  | _ => false
theorem hook_of {h : HookE} {r : Option (SEnd × SW)} (ht : hookTest h r = true) (hc : ∀ e S', r = some (e, S') → CallOk P G ⟨h.n, putAll h.pre .leaf⟩ h.f h.args e S') : HookOk P G h := by
  unfold hookTest at ht
  split at ht
  · rename_i v S'
    simp only [Bool.and_eq_true] at ht
    have e1 := valEq_ok _ _ _ ht.1.1
    have e2 := Nat.eq_of_beq_eq_true ht.1.2
    subst e1
    intro F W E w args' n hs hargs
    refine (hc _ _ rfl F W E w args' n hs hargs).mono ?_
    rintro e w' ⟨E', h1, h2, h3, h4⟩
    exact ⟨E', h1, by rw [← e2]; exact h2, h3.sub e2.symm fun i o hi => hasObj_ok ((allL_iff _ _).1 ht.2 (i, o) (putAll_mem _ hi)), h4⟩
  · cases ht
end
end Go.Proofs.YtaeophaecclnbaaGreatDoor
namespace Go.Proofs.YtaeophaecclnbaaGreatDoor
open Go

section
variable {H : List HookE} {P : Program} {G : Nat} {F : Nat → Option Obj} {W : World} {E : Env} {w : World}
theorem callF_ok (hH : HooksOk P G H) {ih : Run} (hih : Snd P G ih) {S S' : SW} {f : FuncId} {args : List Value} {r : SEnd} (h : callF H P G ih S f args = some (r, S')) : CallOk P G S f args r S' := by
  unfold callF at h
  split at h
  · rename_i q hq
    cases h
    exact hookE_ok H hH hq
  · split at h
    · cases h
    · rename_i fn hfn
      split at h
      · cases h
      · rename_i c hc
        exact callB_ok hih hfn hc h
theorem finE_some {st : St} {o : Oper} {v : Value} {e : SExit} {st' : St} (h : finE st o v = some (e, st')) : e = .normal ∧ st.put o.dst v = some st' := by
  unfold finE at h
  cases hp : st.put o.dst v with
  | none => rw [hp] at h; cases h
  | some s => rw [hp] at h; cases h; exact ⟨rfl, rfl⟩
theorem putPs_ok : ∀ (ps : List Tmp) (vs : List Value) (nt : Nat) (t t' : Tr Value), putPs ps vs nt t = some t' → ∀ (vs' : List Value) (a : Array Value), VL E vs vs' → TR E t a → a.size = nt →
    ps.length = vs'.length ∧ TR E t' ((ps.zip vs').foldl (fun tmps x => tmps.setIfInBounds x.1 x.2) a) ∧ ((ps.zip vs').foldl (fun tmps x => tmps.setIfInBounds x.1 x.2) a).size = nt
  | [], [], nt, t, t', h, vs', a, hv, ht, hs => by
    cases h
    have := LR.inv_nil hv
    subst this
    exact ⟨rfl, ht, hs⟩
  | [], v :: vs, nt, t, t', h, vs', a, hv, ht, hs => by cases h
  | p :: ps, [], nt, t, t', h, vs', a, hv, ht, hs => by cases h
  | p :: ps, v :: vs, nt, t, t', h, vs', a, hv, ht, hs => by
    obtain ⟨v', m, rfl, h1, h2⟩ := hv.inv_cons
    have h' : (bif Nat.blt p nt then putPs ps vs nt (t.put p (some v)) else none) = some t' := h
    by_cases hlt : Nat.blt p nt = true
    · rw [hlt, cond_true] at h'
      obtain ⟨k1, k2, k3⟩ := putPs_ok ps vs nt _ t' h' m (a.setIfInBounds p v') h2 (ht.put (by rw [hs]; exact Nat.le_of_ble_eq_true hlt) h1) (by simpa using hs)
      exact ⟨by simp [k1], k2, k3⟩
    · rw [Bool.eq_false_iff.2 hlt] at h'; cases h'
theorem jump_post {e : SExit} {j : Option Code} (hj : jumpE e = some j) {E' : Env} {x : Exit} (hx : ExitR E' e x) {l : Nat} {R : Ending → World → Prop} {a : Act} {w : World}
    (h : ∃ v w', (Instr.endRound l j).run P w = .ok v w' ∧ R (.returned v) w') : roundPost P l R x a w := by
  cases e with
  | normal => cases hj; cases x <;> first | exact hx.elim | exact h
  | ret => cases hj; cases x <;> first | exact hx.elim | exact h
  | exit i => cases hj; cases x <;> first | exact hx.elim | (cases hx; exact h)
  | goto i => cases hj; cases x <;> first | exact hx.elim | (cases hx; exact h)
  | panic v => cases hj
theorem fw_inRound (rd : Option Nat) (l : Nat) : (fw rd).inRound l = fw (some l) := rfl
theorem isReady_iff {s : LoopState} (h : isReady s = true) : s = .ready := by cases s <;> first | rfl | cases h
theorem roundE_ok {ih : Run} (hih : Snd P G ih) {S S' : SW} {l : Nat} {args : List Value} {v : Value} (h : roundE ih S l args = some (v, S')) (hs : Sat G F W E S w) {e : Ent} (he : E l = some e) {args' : Array Value}
    (hargs : VL E args args'.toList) (rd : Option Nat) (n : Nat) : ∃ f tmps as_ body, (Instr.yield e.b args').run P w = .ok (.round e.b f tmps as_ body) w ∧
      RoundIn (fw rd) n P e.b f tmps as_ body w fun x w' => ∃ E', x = .returned v ∧ Ext S.n E E' ∧ S.n ≤ S'.n ∧ Sat G F W E' S' w' ∧ VR E' v v := by
  unfold roundE at h
  split at h
  · rename_i s0 p0 tr nt ps as_ body hl
    by_cases hr0 : isReady s0 = true
    · rw [hr0, cond_true] at h
      split at h
      · cases h
      · rename_i tr' htr
        split at h
        · rename_i st1 h1
          split at h
          · rename_i s1 p1 tr1 nt1 ps1 as1 body1 hl1
            by_cases hr1 : isReady s1 = true
            · rw [hr1, cond_true] at h
              split at h
              · rename_i e2 st2 h2
                split at h
                · rename_i j s2 p2 tr2 nt2 ps2 as2 body2 hj hl2
                  cases h
                  obtain ⟨e', he', r, k1, k2, k3, k4, k5, k6, k7, k8⟩ := hs.obj _ _ hl
                  rw [he] at he'; cases he'
                  have hps : r.params.toList = ps := k4
                  obtain ⟨q1, q2, q3⟩ := putPs_ok ps args nt tr tr' htr args'.toList r.tmps hargs k8 k7
                  have hfold : (r.params.zip args').foldl (fun tmps (x : Tmp × Value) => tmps.setIfInBounds x.1 x.2) r.tmps = (ps.zip args'.toList).foldl (fun tmps x => tmps.setIfInBounds x.1 x.2) r.tmps := by
                    rw [← Array.foldl_toList, Array.toList_zip, hps]
                  refine ⟨_, _, _, _, run_yield k1 (by rw [← Array.length_toList, ← Array.length_toList (xs := r.params), hps, q1]), ?_⟩
                  refine roundIn_of_wpIn trivial ?_
                  rw [k5, k6]
                  have key1 := hih _ _ _ _ h1 F W E { tmps := (r.params.zip args').foldl (fun tmps (x : Tmp × Value) => tmps.setIfInBounds x.1 x.2) r.tmps, defers := [] } w (some e.b) n
                    ⟨hs, by rw [hfold]; exact q2, by rw [hfold]; exact q3, LR.nil, rfl⟩
                  refine wpIn_mono key1 ?_
                  rintro x1 a1 w1 ⟨E1, hE1, hn1, hst1, hx1⟩
                  cases x1 <;> first | exact hx1.elim | skip
                  obtain ⟨e1, he1, r1, m1, m2, m3, m4, m5, m6, m7, m8⟩ := hst1.sat.obj _ _ hl1
                  have hel : E1 l = some e := hs.le hE1 _ _ he
                  rw [hel] at he1; cases he1
                  refine ⟨_, run_beginRound m1 (m2.trans (isReady_iff hr1)), ?_⟩
                  have hs1 := hst1.sat.turn hl1 hel (.loop .busy p1 tr1 nt1 ps1 as1 body1) (w' := w1.putObj e.b (.loop { r1 with state := .busy })) (fun k hk => World.putObj_heap_other hk) (by simp) rfl rfl rfl
                    ⟨_, World.putObj_heap_same (Array.getElem?_eq_some_iff.1 m1).1, rfl, m3, m4, m5, m6, m7, m8⟩
                  have key2 := hih _ _ _ _ h2 F W E1 a1 _ (some e.b) n ⟨hs1, hst1.tr, hst1.nt, hst1.ds, hst1.rd⟩
                  refine wpIn_mono key2 ?_
                  rintro x2 a2 w2 ⟨E2, hE2, hn2, hst2, hx2⟩
                  rw [SW.set_n] at hE2 hn2
                  obtain ⟨e2', he2, r2, y1, y2, y3, y4, y5, y6, y7, y8⟩ := hst2.sat.obj _ _ hl2
                  have hel2 : E2 l = some e := hE2.le hst1.sat.new _ _ hel
                  rw [hel2] at he2; cases he2
                  refine jump_post hj hx2 ⟨_, _, run_endRound j y1, E2, rfl, hE1.trans hE2 hn1, ?_, ?_, .bool _⟩
                  · rw [SW.set_n]; exact Nat.le_trans hn1 hn2
                  · refine hst2.sat.turn hl2 hel2 _ (fun k hk => World.putObj_heap_other hk) (by simp) rfl rfl rfl ⟨_, World.putObj_heap_same (Array.getElem?_eq_some_iff.1 y1).1, ?_, rfl, y4, y5, y6, y7, y8⟩
                    cases j <;> rfl
                · cases h
              · cases h
            · rw [Bool.eq_false_iff.2 hr1] at h; cases h
          · cases h
        · cases h
    · rw [Bool.eq_false_iff.2 hr0] at h; cases h
  · cases h
theorem semAt_ok {st : St} {rd : Option Nat} {o : Oper} (hrd : st.rd = rd.isSome) (hd : st.rd = true → isDefer o.op = false) (ρ : Operand → Value) : o.semAt (fw rd).round ρ = execOp ρ o := by
  cases rd with
  | none => rfl
  | some l =>
    refine Oper.semAt_eq _ _ _ fun c hc => ?_
    have := hd (by rw [hrd]; rfl)
    rw [hc] at this
    cases this
theorem operE_split {ih : Run} {ops : Array Oper} {st : St} {o : Oper} {r : SExit × St} (h : operE H P G ih ops st o = some r) : operE1 H P G ih ops st o = some r ∧ (st.rd = true → isDefer o.op = false) := by
  unfold operE at h
  cases hr : st.rd with
  | false => rw [hr] at h; exact ⟨h, fun hh => by cases hh⟩
  | true =>
    rw [hr] at h
    cases hd : isDefer o.op with
    | false => rw [hd] at h; exact ⟨h, fun _ => rfl⟩
    | true => rw [hd] at h; cases h
noncomputable def putT (tr : Tr Value) (d : Option Tmp) (v : Value) : Tr Value :=
  match d with
  | none => tr
  | some d => tr.put d (some v)
structure PutR (st st' : St) (d : Option Tmp) (v : Value) : Prop where
  S : st'.S = st.S
  tr : st'.tr = putT st.tr d v
  nt : st'.nt = st.nt
  ds : st'.ds = st.ds
  rd : st'.rd = st.rd
  lt : ∀ t, d = some t → t < st.nt
theorem put_some {st st' : St} {d : Option Tmp} {v : Value} (hp : st.put d v = some st') : PutR st st' d v := by
  obtain ⟨S, tr, nt, ds, r⟩ := st
  unfold St.put at hp
  cases d with
  | none => cases hp; exact ⟨rfl, rfl, rfl, rfl, rfl, fun _ h => by cases h⟩
  | some d =>
    simp only at hp
    by_cases hlt : Nat.blt d nt = true
    · rw [hlt, cond_true, seqV_eq, Tr.putK_eq] at hp
      cases hp
      exact ⟨rfl, rfl, rfl, rfl, rfl, fun t h => by cases h; exact Nat.le_of_ble_eq_true hlt⟩
    · rw [Bool.eq_false_iff.2 hlt] at hp; cases hp
/-- What an operation does. -/
def OperOk (P : Program) (G : Nat) (F : Nat → Option Obj) (W : World) (E : Env) (rd : Option Nat) (n : Nat) (st : St) (ops : Array Oper) (o : Oper) (e : SExit) (st' : St) (a : Act) (w : World) : Prop :=
  ∀ (K : Act → World → Prop) (Q : Exit → Act → World → Prop),
    (e = .normal → ∀ (E' : Env) (a2 : Act) (w' : World) (v v' : Value), Ext st.S.n E E' → st.S.n ≤ st'.S.n → Sat G F W E' st'.S w' → a2.tmps = a.tmps → LR (DR E') st'.ds a2.defers → VR E' v v' → st'.tr = putT st.tr o.dst v → st'.nt = st.nt → st'.rd = st.rd →
      (∀ t, o.dst = some t → t < st.nt) → K (a2.put o.dst v') w') →
    (∀ v, e = .panic v → ∀ E' w' v', Ext st.S.n E E' → st.S.n ≤ st'.S.n → Sat G F W E' st'.S w' → st' = ⟨st'.S, st.tr, st.nt, st.ds, st.rd⟩ → VR E' v v' → Q (.panic [{ v := v', recovered := false }]) a w') →
    (if Region.wanted o (yielded ops a.tmps) = true then o.wpIn (fw rd) n P a w K Q else (∀ f, o.about P w a.eval = some f → (fw rd).fn f) ∧ K (a.put o.dst undef) w)
theorem operE_ok2 (hH : HooksOk P G H) {ih : Run} (hih : Snd P G ih) {ops : Array Oper} {st : St} {o : Oper} {e : SExit} {st' : St} (h : operE H P G ih ops st o = some (e, st')) {a : Act} {rd : Option Nat} (n : Nat)
    (hs : Sat G F W E st.S w) (hρ : ∀ x ∈ opL o.op, okX G x = true → VR E (evS st.tr x) (a.eval x)) (hwt : Region.wanted o (yielded ops a.tmps) = wantS ops st.tr o) (hds : LR (DR E) st.ds a.defers) (hrd : st.rd = rd.isSome) :
    OperOk P G F W E rd n st ops o e st' a w := by
  intro K Q hK hQ
  obtain ⟨h, hd⟩ := operE_split h
  rw [hwt]
  have hdm : ∀ {E' : Env}, Ext st.S.n E E' → LR (DR E') st.ds a.defers := fun hE => hds.mono fun _ _ hd => hd.mono (hs.le hE)
  unfold operE1 at h
  cases hw : wantS ops st.tr o with
  | false =>
    rw [hw] at h
    rw [if_neg (by simp)]
    obtain ⟨rfl, hp⟩ := finE_some h
    have q := put_some hp
    exact ⟨fun _ _ => trivial, hK rfl E a _ undef _ (Ext.refl _ _) (by rw [q.S]; exact Nat.le_refl _) (by rw [q.S]; exact hs) rfl (by rw [q.ds]; exact hds) VR.undef q.tr q.nt q.rd q.lt⟩
  | true =>
    rw [hw] at h
    rw [if_pos rfl]
    refine ⟨fun _ _ => trivial, ?_⟩
    rw [semAt_ok hrd hd]
    cases hx : stepS P G st.S st.tr o with
    | none => rw [hx] at h; cases h
    | some p =>
      obtain ⟨x, S'⟩ := p
      rw [hx] at h
      have hok := stepS_ok2 hs hρ hx
      cases x with
      | val v =>
        obtain ⟨v', w', E', hr, hE, hn, hs, hv⟩ := hok
        rw [hr]
        obtain ⟨rfl, hp⟩ := finE_some h
        have q := put_some hp
        exact hK rfl E' a _ v _ hE (by rw [q.S]; exact hn) (by rw [q.S]; exact hs) rfl (by rw [q.ds]; exact hdm hE) hv q.tr q.nt q.rd q.lt
      | skip =>
        obtain ⟨w', E', hr, hE, hn, hs⟩ := hok
        rw [hr]
        obtain ⟨rfl, hp⟩ := finE_some h
        have q := put_some hp
        exact hK rfl E' a _ undef _ hE (by rw [q.S]; exact hn) (by rw [q.S]; exact hs) rfl (by rw [q.ds]; exact hdm hE) VR.undef q.tr q.nt q.rd q.lt
      | enter f args =>
        obtain ⟨args', hr, hargs, rfl⟩ := hok
        rw [hr]
        have h' : (Option.rec none (fun p => onEnd p.1 p.2 st o) (callF H P G ih st.S f args) : Option (SExit × St)) = some (e, st') := h
        cases hc : callF H P G ih st.S f args with
        | none => rw [hc] at h'; cases h'
        | some q =>
          obtain ⟨r, S1⟩ := q
          rw [hc] at h'
          have hcall := callF_ok hH hih hc F W E w args' (n - 1) hs hargs
          rw [Oper.uponIn_enter]
          refine ⟨fw_depth _ _, CallsIn.mono (show CallsIn (fw rd) (n - 1) P f args' w _ from hcall) ?_⟩
          rintro x w' ⟨E', hE, hn, hs, hx⟩
          cases r with
          | ret v =>
            cases x <;> first | exact hx.elim | skip
            obtain ⟨rfl, hp⟩ := finE_some (show finE _ o v = some (e, st') from h')
            have q := put_some hp
            exact hK rfl E' a _ v _ hE (by rw [q.S]; exact hn) (by rw [q.S]; exact hs) rfl (by rw [q.ds]; exact hdm hE) hx q.tr q.nt q.rd q.lt
          | panic v =>
            cases x <;> first | exact hx.elim | skip
            cases (show some (SExit.panic v, (⟨S1, st.tr, st.nt, st.ds, st.rd⟩ : St)) = some (e, st') from h')
            obtain ⟨v', rfl, hv⟩ := hx
            exact hQ v rfl E' _ v' hE hn hs rfl hv
      | round l args =>
        obtain ⟨e1, args', he1, hr, hargs, rfl⟩ := hok
        have h' : (Option.rec none (fun p => finE ⟨p.2, st.tr, st.nt, st.ds, st.rd⟩ o p.1) (roundE ih st.S l args) : Option (SExit × St)) = some (e, st') := h
        cases hc : roundE ih st.S l args with
        | none => rw [hc] at h'; cases h'
        | some q =>
          obtain ⟨v, S1⟩ := q
          rw [hc] at h'
          obtain ⟨f, tmps, as_, body, k1, k2⟩ := roundE_ok hih hc hs he1 hargs rd (n - 1)
          rw [hr, k1, Oper.uponIn_round]
          refine ⟨fw_depth _ _, k2.mono ?_⟩
          rintro x w' ⟨E', rfl, hE, hn, hs, hv⟩
          obtain ⟨rfl, hp⟩ := finE_some h'
          have q := put_some hp
          exact hK rfl E' a _ v _ hE (by rw [q.S]; exact hn) (by rw [q.S]; exact hs) rfl (by rw [q.ds]; exact hdm hE) hv q.tr q.nt q.rd q.lt
      | defer d =>
        obtain ⟨d', hr, hdr, rfl⟩ := hok
        rw [hr, Oper.uponIn_defer]
        have h' : (bif st.rd then none else finE ⟨st.S, st.tr, st.nt, d :: st.ds, st.rd⟩ o undef) = some (e, st') := h
        cases hrd : st.rd with
        | true => rw [hrd] at h'; cases h'
        | false =>
          rw [hrd, cond_false] at h'
          obtain ⟨rfl, hp⟩ := finE_some h'
          have q := put_some hp
          exact hK rfl E { a with defers := d' :: a.defers } _ undef _ (Ext.refl _ _) (by rw [q.S]; exact Nat.le_refl _) (by rw [q.S]; exact hs) rfl (by rw [q.ds]; exact LR.cons hdr hds) VR.undef q.tr q.nt (q.rd.trans hrd.symm) q.lt
      | recover => cases h
      | panic v =>
        obtain ⟨v', hr, hv, rfl⟩ := hok
        rw [hr, Oper.uponIn_panic]
        cases (show some (SExit.panic v, (⟨st.S, st.tr, st.nt, st.ds, st.rd⟩ : St)) = some (e, st') from h)
        exact hQ v rfl E _ v' (Ext.refl _ _) (Nat.le_refl _) hs rfl hv
theorem TR.putT {E : Env} {tr : Tr Value} {t : Act} (h : TR E tr t.tmps) {d : Option Tmp} (hd : ∀ k, d = some k → k < t.tmps.size) {v v' : Value} (hv : VR E v v') : TR E (putT tr d v) (t.put d v').tmps := by
  cases d with
  | none => exact h
  | some d => exact h.put (hd d rfl) hv
theorem put_size (t : Act) (d : Option Tmp) (v : Value) : (t.put d v).tmps.size = t.tmps.size := by cases d <;> simp [Act.put]
theorem put_defers (t : Act) (d : Option Tmp) (v : Value) : (t.put d v).defers = t.defers := by cases d <;> rfl
theorem operE_ok (hH : HooksOk P G H) {ih : Run} (hih : Snd P G ih) {ops : Array Oper} {st : St} {o : Oper} {e : SExit} {st' : St} (h : operE H P G ih ops st o = some (e, st')) {a : Act} {rd : Option Nat} (n : Nat) (hst : StR G F W E rd st a w) :
    ∀ (K : Act → World → Prop) (Q : Exit → Act → World → Prop),
    (e = .normal → ∀ E' a' w', Ext st.S.n E E' → st.S.n ≤ st'.S.n → StR G F W E' rd st' a' w' → K a' w') →
    (∀ v, e = .panic v → ∀ E' a' w' v', Ext st.S.n E E' → st.S.n ≤ st'.S.n → StR G F W E' rd st' a' w' → VR E' v v' → Q (.panic [{ v := v', recovered := false }]) a' w') →
    (if Region.wanted o (yielded ops a.tmps) = true then o.wpIn (fw rd) n P a w K Q else (∀ f, o.about P w a.eval = some f → (fw rd).fn f) ∧ K (a.put o.dst undef) w) := fun K Q hK hQ => by
  refine operE_ok2 hH hih h n hst.sat (fun x hx hok => ev_ok hst.sat hst.tr hok) (wantS_ok hst.tr o) hst.ds hst.rd K Q (fun he E' a2 w' v v' hE hn hs ht hd hv h1 h2 h3 h4 => ?_) (fun v he E' w' v' hE hn hs h1 hv => ?_)
  · refine hK he E' _ w' hE hn ⟨hs, ?_, ?_, ?_, ?_⟩
    · rw [h1]
      exact TR.putT (by rw [ht]; exact hst.tr.mono (hst.sat.le hE)) (fun k hk => by rw [ht, hst.nt]; exact h4 k hk) hv
    · rw [put_size, ht, h2, hst.nt]
    · rw [put_defers]; exact hd
    · rw [h3, hst.rd]
  · exact hQ v he E' a w' v' hE hn (by rw [h1]; exact hst.move hE hs) hv
theorem PostC.ext {rd : Option Nat} {n0 n1 : Nat} {E1 : Env} (hE : Ext n0 E E1) (hn : n0 ≤ n1) {e : SExit} {st' : St} {x : Exit} {a : Act} {w : World} (h : PostC G F W E1 rd n1 e st' x a w) : PostC G F W E rd n0 e st' x a w := by
  obtain ⟨E', h1, h2, h3, h4⟩ := h
  exact ⟨E', hE.trans h1 hn, Nat.le_trans hn h2, h3, h4⟩
theorem wpOpsIn_mono {F : Fence} {n : Nat} {ops : Array Oper} {Q Q' : Exit → Act → World → Prop} (hq : ∀ e a w, Q e a w → Q' e a w) (l : List Nat) : ∀ (a : Act) (w : World), wpOpsIn F n P ops Q l a w → wpOpsIn F n P ops Q' l a w := by
  have hlet : LetsOut Q → LetsOut Q' := fun ⟨a, w, h⟩ => ⟨a, w, hq _ _ _ h⟩
  induction l with
  | nil => exact fun a w h => hq _ _ _ h
  | cons i l hi =>
    intro a w h
    unfold wpOpsIn at h ⊢
    cases ho : ops[i]? with
    | none => rw [ho] at h; exact hi _ _ h
    | some o =>
      rw [ho] at h
      simp only at h ⊢
      split
      · rename_i hw
        rw [if_pos hw] at h
        refine ⟨h.1, ?_⟩
        have h := h.2
        generalize (o.semAt F.round a.eval).run P w = r at h ⊢
        cases r with
        | ok x w' =>
          cases x <;> simp only [Oper.uponIn] at h ⊢ <;> first
            | exact hi _ _ h
            | exact h.elim
            | exact ⟨h.1, h.2.mono fun x w'' hx => by cases x <;> first | exact hi _ _ hx | exact hq _ _ _ hx | exact hlet hx⟩
            | exact ⟨h.1, h.2.mono fun _ _ hx => hi _ _ hx⟩
        | halt x w' =>
          cases x <;> simp only [Oper.uponIn] at h ⊢ <;> first
            | exact hq _ _ _ h
            | exact h.elim
      · rename_i hw
        rw [if_neg hw] at h
        exact ⟨h.1, hi _ _ h.2⟩
theorem opsE_ok (hH : HooksOk P G H) {ih : Run} (hih : Snd P G ih) {ops : Array Oper} : ∀ (os : List Oper) (l : List Nat), l.map (ops[·]?) = os.map some → ∀ (st : St) (e : SExit) (st' : St), opsE H P G ih ops os st = some (e, st') →
    ∀ (E : Env) (a : Act) (w : World) (rd : Option Nat) (n : Nat), StR G F W E rd st a w → wpOpsIn (fw rd) n P ops (PostC G F W E rd st.S.n e st') l a w := by
  intro os
  induction os with
  | nil =>
    intro l hl st e st' h E a w rd n hst
    cases l with
    | nil => cases h; exact ⟨E, Ext.refl _ _, Nat.le_refl _, hst, trivial⟩
    | cons i l => cases hl
  | cons o os hi =>
    intro l hl st e st' h E a w rd n hst
    cases l with
    | nil => cases hl
    | cons i l =>
      simp only [List.map_cons, List.cons.injEq] at hl
      have h' : (Option.rec none (fun p => onward (fun st => opsE H P G ih ops os st) p.1 p.2) (operE H P G ih ops st o) : Option (SExit × St)) = some (e, st') := h
      cases hx : operE H P G ih ops st o with
      | none => rw [hx] at h'; cases h'
      | some p =>
        obtain ⟨e1, st1⟩ := p
        rw [hx] at h'
        unfold wpOpsIn
        rw [hl.1]
        simp only
        refine operE_ok hH hih hx n hst _ _ (fun he E' a' w' hE hn hs => ?_) (fun v he E' a' w' v' hE hn hs hv => ?_)
        · subst he
          exact wpOpsIn_mono (fun _ _ _ hq => hq.ext hE hn) _ _ _ (hi l hl.2 st1 e st' h' E' a' w' rd n hs)
        · subst he
          cases h'
          exact ⟨E', hE, hn, hs, v', rfl, hv⟩
end
end Go.Proofs.YtaeophaecclnbaaGreatDoor

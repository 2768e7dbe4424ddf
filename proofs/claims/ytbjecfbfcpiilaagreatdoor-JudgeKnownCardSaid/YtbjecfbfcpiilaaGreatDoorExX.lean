/- The executor: frames, results. The executor: deferred calls, calls. -/
import Derived.Test.YtbjecfbfcpiilaaGreatDoorExV
import Derived.RangeFuncLeaves
import Derived.RangeFuncRecord
import Derived.RangeFuncCalls
import Derived.OrdersIn
import Derived.RecoverIn
namespace Go.Proofs.YtbjecfbfcpiilaaGreatDoor
open Go

def fw (rd : Option Nat) : Fence := { Fence.wide with round := rd }
theorem fw_fn (rd : Option Nat) (f : FuncId) : (fw rd).fn f := trivial
theorem fw_depth (rd : Option Nat) (n : Nat) : (fw rd).depth.isSome = true → 1 ≤ n := fun h => by cases h
structure StR (G : Nat) (F : Nat → Option Obj) (W : World) (E : Env) (rd : Option Nat) (st : St) (a : Act) (w : World) : Prop where
  sat : Sat G F W E st.S w
  tr : TR E st.tr a.tmps
  nt : a.tmps.size = st.nt
  ds : LR (DR E) st.ds a.defers
  rd : st.rd = rd.isSome
def ExitR (E : Env) : SExit → Exit → Prop
  | .normal, .normal => True
  | .exit i, .exit j => i = j
  | .goto i, .goto j => i = j
  | .ret, .ret => True
  | .panic v, .panic ch => ∃ v', ch = [{ v := v', recovered := false }] ∧ VR E v v'
  | _, _ => False
def PostC (G : Nat) (F : Nat → Option Obj) (W : World) (E : Env) (rd : Option Nat) (n0 : Nat) (e : SExit) (st' : St) : Exit → Act → World → Prop :=
  fun x a w => ∃ E', Ext n0 E E' ∧ n0 ≤ st'.S.n ∧ StR G F W E' rd st' a w ∧ ExitR E' e x
def Snd (P : Program) (G : Nat) (ih : Run) : Prop :=
  ∀ st c e st', ih st c = some (e, st') → ∀ F W E a w rd n, StR G F W E rd st a w → c.wpIn (fw rd) n P (PostC G F W E rd st.S.n e st') a w
def EndR (E : Env) : SEnd → Ending → Prop
  | .ret v, .returned v' => VR E v v'
  | .panic v, .panicked ch => ∃ v', ch = [{ v := v', recovered := false }] ∧ VR E v v'
  | _, _ => False
def CallOk (P : Program) (G : Nat) (S : SW) (f : FuncId) (args : List Value) (r : SEnd) (S' : SW) : Prop :=
  ∀ F W E w (args' : Array Value) n, Sat G F W E S w → VL E args args'.toList → CallsIn Fence.wide n P f args' w fun e w' => ∃ E', Ext S.n E E' ∧ S.n ≤ S'.n ∧ Sat G F W E' S' w' ∧ EndR E' r e
section
variable {P : Program} {G : Nat} {F : Nat → Option Obj} {W : World} {E : Env} {w : World}
theorem Sat.le {S : SW} (h : Sat G F W E S w) {E' : Env} (hE : Ext S.n E E') : E.le E' := hE.le h.new
/-- The temporaries, one of them turned. -/
theorem TR.put {tr : Tr Value} {t : Array Value} (h : TR E tr t) {d : Nat} (hd : d < t.size) {v v' : Value} (hv : VR E v v') : TR E (tr.put d (some v)) (t.setIfInBounds d v') := fun k => by
  have hk := h k
  rw [evS_tmp] at hk ⊢
  rw [Tr.get_put]
  by_cases hkd : k = d
  · subst hkd
    simpa [hd] using hv
  · rw [if_neg hkd]
    simp only [Array.getD_eq_getD_getElem?] at hk ⊢
    rw [Array.getElem?_setIfInBounds_ne (Ne.symm hkd)]
    exact hk
theorem put_ok {rd : Option Nat} {st st' : St} {a : Act} (h : StR G F W E rd st a w) {d : Option Tmp} {v v' : Value} (hv : VR E v v') (hp : st.put d v = some st') : StR G F W E rd st' (a.put d v') w ∧ st'.S = st.S := by
  obtain ⟨S, tr, nt, ds, r⟩ := st
  unfold St.put at hp
  cases d with
  | none => cases hp; exact ⟨h, rfl⟩
  | some d =>
    simp only at hp
    by_cases hlt : Nat.blt d nt = true
    · rw [hlt, cond_true, seqV_eq, Tr.putK_eq] at hp
      cases hp
      have hlt' : d < nt := Nat.le_of_ble_eq_true hlt
      exact ⟨⟨h.sat, h.tr.put (by rw [h.nt]; exact hlt') hv, by simp [Act.put, h.nt], h.ds, h.rd⟩, rfl⟩
    · rw [Bool.eq_false_iff.2 hlt] at hp; cases hp
theorem StR.move {rd : Option Nat} {st : St} {a : Act} (h : StR G F W E rd st a w) {E' : Env} {S' : SW} {w' : World} (hE : Ext st.S.n E E') (hs : Sat G F W E' S' w') : StR G F W E' rd ⟨S', st.tr, st.nt, st.ds, st.rd⟩ a w' :=
  ⟨hs, h.tr.mono (h.sat.le hE), h.nt, h.ds.mono fun _ _ hd => hd.mono (h.sat.le hE), h.rd⟩
theorem fromG_get : ∀ (l : List Value) (i : Nat) (t : Tr Value) (j : Nat), (fromG l i t).get j = if i ≤ j ∧ j < i + l.length then l[j - i]? else t.get j
  | [], i, t, j => by
    show t.get j = _
    rw [if_neg (by simp)]
  | v :: l, i, t, j => by
    show (seqV v fun v => t.putK i (some v) fun t => fromG l (i + 1) t).get j = _
    rw [seqV_eq, Tr.putK_eq, fromG_get l (i + 1) _ j, Tr.get_put]
    simp only [List.length_cons]
    by_cases h1 : i + 1 ≤ j ∧ j < i + 1 + l.length
    · rw [if_pos h1, if_pos (by omega), show j - i = (j - (i + 1)) + 1 by omega]
      simp
    · rw [if_neg h1]
      by_cases h2 : j = i
      · subst h2
        rw [if_pos rfl, if_pos (by omega)]
        simp
      · rw [if_neg h2, if_neg (by omega)]
theorem fromL_ok {l : List Value} {a : Array Value} (h : VL E l a.toList) (k : Nat) : TR E (fromL l) (a ++ Array.replicate k undef) := fun t => by
  rw [evS_tmp]
  unfold fromL
  rw [fromG_get]
  have hs : l.length = a.size := h.1.trans Array.length_toList
  by_cases ht : t < l.length
  · have ht' : t < a.size := Nat.lt_of_lt_of_eq ht hs
    rw [if_pos ⟨Nat.zero_le _, (Nat.zero_add l.length).symm ▸ ht⟩, Nat.sub_zero, List.getElem?_eq_getElem ht, Option.getD_some]
    obtain ⟨y, hy, hr⟩ := h.get (List.getElem?_eq_getElem ht)
    simp only [Array.getD_eq_getD_getElem?]
    rw [Array.getElem?_append_left ht']
    rw [Array.getElem?_toList] at hy
    rw [hy]
    exact hr
  · have ht' : ¬ t < a.size := fun h => ht (Nat.lt_of_lt_of_eq h hs.symm)
    rw [if_neg fun h => ht (Nat.zero_add l.length ▸ h.2)]
    simp only [Array.getD_eq_getD_getElem?]
    rw [Array.getElem?_append_right (Nat.le_of_not_lt ht')]
    have : ((Array.replicate k undef)[t - a.size]?).getD undef = undef := by
      rw [Array.getElem?_replicate]
      split <;> rfl
    rw [this]
    exact VR.undef
def resOne (t : Array Value) (r : ResultVar) : Sem Value :=
  match r with
  | .tmp k => pure (t.getD k undef)
  | .cell a ty => do loadVar ty (← asAddr (t.getD a undef))
theorem results_eq (fn : Func) (t : Array Value) : results fn t = (do
    let vs ← fn.results.mapM (resOne t)
    pure (if h : vs.size = 1 then vs[0] else .tuple vs)) := rfl
theorem results_ok {S : SW} (h : Sat G F W E S w) {tr : Tr Value} {t : Array Value} (ht : TR E tr t) {fn : Func} {l : List Value} (hl : resS P S tr fn.results.toList = some l) :
    ∃ v', (results fn t).run P w = .ok v' w ∧ VR E (resV l) v' := by
  have key : ∀ (rs : List ResultVar) (l : List Value), resS P S tr rs = some l → ∃ l', (rs.mapM (resOne t)).run P w = .ok l' w ∧ VL E l l' := by
    intro rs
    induction rs with
    | nil => intro l hl; cases hl; exact ⟨[], by simp, LR.nil⟩
    | cons r rs ih =>
      intro l hl
      cases r with
      | tmp k =>
        unfold resS at hl
        split at hl
        · rename_i r hr
          cases hl
          obtain ⟨l', h1, h2⟩ := ih r hr
          refine ⟨t.getD k undef :: l', ?_, LR.cons (ht k) h2⟩
          simp only [List.mapM_cons, Sem.run_bind, resOne, Sem.run_pure, Result.andThen_ok, h1]
        · cases hl
      | cell a ty =>
        unfold resS at hl
        split at hl
        · rename_i ad ha
          split at hl
          · rename_i v r hv hr
            cases hl
            obtain ⟨l', h1, h2⟩ := ih r hr
            have hta := ht a
            rw [ha] at hta
            generalize hx : t.getD a undef = x at hta
            cases hta with | ptr hA =>
            obtain ⟨v', q1, q2⟩ := h.loadVar (P := P) hA hv
            refine ⟨v' :: l', ?_, LR.cons q2 h2⟩
            simp only [List.mapM_cons, Sem.run_bind, resOne, hx, asAddr, Sem.run_pure, Result.andThen_ok, q1, h1]
          · cases hl
        · cases hl
  obtain ⟨l', h1, h2⟩ := key _ _ hl
  have hrun : (results fn t).run P w = .ok (if h : l'.toArray.size = 1 then l'.toArray[0] else .tuple l'.toArray) w := by
    rw [results_eq, Sem.run_bind, Array.mapM_eq_mapM_toList, Sem.run_map, h1]
    rfl
  refine ⟨_, hrun, ?_⟩
  have hlen := h2.1
  unfold resV
  split
  · rename_i v
    obtain ⟨v', m, rfl, q1, q2⟩ := h2.inv_cons
    have := LR.inv_nil q2
    subst this
    simpa using q1
  · rename_i l0 hno
    have hne : ¬ (l'.toArray.size = 1) := fun hc => by
      simp at hc
      match l, hlen with
      | [v], _ => exact hno v rfl
      | [], hh => rw [hc] at hh; cases hh
      | _ :: _ :: _, hh => rw [hc] at hh; simp at hh
    rw [dif_neg hne]
    exact .tuple' (by simpa using h2)
end
end Go.Proofs.YtbjecfbfcpiilaaGreatDoor
namespace Go.Proofs.YtbjecfbfcpiilaaGreatDoor
open Go

def UR (E : Env) : Option (Value × Bool) → FrameMode → Prop
  | none, .returning => True
  | some (v, b), .panicking ch => ∃ v', ch = [{ v := v', recovered := b }] ∧ VR E v v'
  | _, _ => False
theorem UR.run {E : Env} {u : Option (Value × Bool)} {m : FrameMode} (h : UR E u m) : m ≠ .run := fun hm => by
  subst hm
  cases u <;> exact h
theorem UR.mono {E E' : Env} {u : Option (Value × Bool)} {m : FrameMode} (h : UR E u m) (hE : E.le E') : UR E' u m := by
  cases u with
  | none => cases m <;> exact h
  | some p => cases m with
    | panicking ch => obtain ⟨v', h1, h2⟩ := h; exact ⟨v', h1, h2.mono hE⟩
    | run => exact h
    | returning => exact h
section
variable {P : Program} {G : Nat} {F : Nat → Option Obj} {W : World}
theorem takeDfr_ok {E : Env} {S : SW} {w : World} (h : Sat G F W E S w) {r : Nat} (hr : S.h.get r = some .dfr) {e : Ent} (he : E r = some e) :
    (Instr.takeDeferred e.b).run P w = .ok [] (w.putObj e.b (.deferred none)) ∧ Sat G F W E (S.del r) (w.putObj e.b (.deferred none)) := by
  obtain ⟨e', he', ho⟩ := h.obj _ _ hr
  rw [he] at he'; cases he'
  have ho' : w.heap[e.b]? = some (.deferred (some [])) := ho
  refine ⟨run_takeDeferred ho', h.step e.b r (Env.le.refl E) (fun i hi => h.new i (by rw [SW.del_n] at hi; exact hi)) (fun k hk _ => World.putObj_heap_other hk) (by simp) (fun i o hi hio => ?_) (fun o hio => ?_) (h.own _ _ _ hr he) rfl rfl rfl⟩
  · rw [SW.del_get, if_neg hi] at hio
    exact ⟨hio, fun e' he' hb => hi (h.inj i r o _ e' e hio hr he' he hb)⟩
  · rw [SW.del_get, if_pos rfl] at hio
    cases hio
theorem wpOpsSIn_mono {F : Fence} {n : Nat} {ops : Array Oper} {Q Q' : Exit → Act → List Frame → World → Prop} (hq : ∀ e a cs w, Q e a cs w → Q' e a cs w) : ∀ (l : List Nat) (a : Act) (cs : List Frame) (w : World), wpOpsSIn F n P ops Q l a cs w → wpOpsSIn F n P ops Q' l a cs w
  | [], _, _, _, h => hq _ _ _ _ h
  | i :: l, a, cs, w, h => by
    have hi : ∀ a cs w, wpOpsSIn F n P ops Q l a cs w → wpOpsSIn F n P ops Q' l a cs w := wpOpsSIn_mono hq l
    unfold wpOpsSIn at h ⊢
    cases ho : ops[i]? with
    | none => rw [ho] at h; exact hi _ _ _ h
    | some o =>
      rw [ho] at h
      simp only at h ⊢
      refine ⟨h.1, ?_⟩
      have h := h.2
      split
      · rename_i hw
        rw [if_pos hw] at h
        split at h <;> first | exact h.elim | exact hi _ _ _ h | exact hq _ _ _ _ h | skip
        split at h <;> exact hi _ _ _ h
      · rename_i hw
        rw [if_neg hw] at h
        exact hi _ _ _ h
theorem yieldS_ok {ops : Array Oper} {E : Env} {tr : Tr Value} {t : Array Value} (ht : TR E tr t) (j : Nat) : yielded ops t j = yieldS ops tr j := by
  unfold yielded yieldS
  cases ops[j]? with
  | none => rfl
  | some o =>
    simp only [Option.bind_some]
    cases o.dst with
    | none => rfl
    | some d =>
      have hd := ht d
      simp only [Option.bind_some]
      rw [Array.getD_eq_getD_getElem?] at hd
      cases hx : t[d]? with
      | none =>
        rw [hx] at hd
        generalize evS tr (.tmp d) = x at hd
        simp only
        have hu : (none : Option Value).getD undef = .tuple #[] := rfl
        rw [hu] at hd
        cases hd
        rfl
      | some y =>
        rw [hx] at hd
        simp only [Option.getD_some] at hd ⊢
        generalize evS tr (.tmp d) = x at hd
        cases hd <;> rfl
theorem wantS_ok {ops : Array Oper} {E : Env} {tr : Tr Value} {t : Array Value} (ht : TR E tr t) (o : Oper) : Region.wanted o (yielded ops t) = wantS ops tr o := by
  unfold Region.wanted wantS
  cases o.guard with
  | none => rfl
  | some p =>
    obtain ⟨j, want⟩ := p
    simp only
    rw [yieldS_ok ht j]
    cases yieldS ops tr j with
    | none => rfl
    | some b => cases b <;> cases want <;> rfl
def PostS (G : Nat) (F : Nat → Option Obj) (W : World) (E : Env) (n0 : Nat) (c0 : Frame) (cs : List Frame) (e : SExit) (st' : St) (u' : Option (Value × Bool)) : Exit → Act → List Frame → World → Prop :=
  fun x a cs' w => ∃ E' m', cs' = { c0 with mode := m' } :: cs ∧ Ext n0 E E' ∧ n0 ≤ st'.S.n ∧ StR G F W E' none st' a w ∧ ExitR E' e x ∧ UR E' u' m'
theorem PostS.ext {n0 n1 : Nat} {E E1 : Env} (hE : Ext n0 E E1) (hn : n0 ≤ n1) {c0 : Frame} {m : FrameMode} {cs : List Frame} {e : SExit} {st' : St} {u' : Option (Value × Bool)} {x : Exit} {a : Act} {cs' : List Frame} {w : World}
    (h : PostS G F W E1 n1 { c0 with mode := m } cs e st' u' x a cs' w) : PostS G F W E n0 c0 cs e st' u' x a cs' w := by
  obtain ⟨E', m', h1, h2, h3, h4, h5, h6⟩ := h
  exact ⟨E', m', h1, hE.trans h2 hn, Nat.le_trans hn h3, h4, h5, h6⟩
/-- A value put behind an operation: the frame. -/
theorem StR.val {E E' : Env} {rd : Option Nat} {st st' : St} {a : Act} {w w' : World} (h : StR G F W E rd st a w) {S' : SW} (hE : Ext st.S.n E E') (hs : Sat G F W E' S' w') {d : Option Tmp} {v v' : Value} (hv : VR E' v v')
    (hp : (⟨S', st.tr, st.nt, st.ds, st.rd⟩ : St).put d v = some st') : StR G F W E' rd st' (a.put d v') w' ∧ st'.S = S' := put_ok (h.move hE hs) hv hp
theorem opsR_ok {ops : Array Oper} : ∀ (os : List Oper) (l : List Nat), l.map (ops[·]?) = os.map some → ∀ (st : St) (u : Option (Value × Bool)) (st' : St) (u' : Option (Value × Bool)), opsR P G ops os st u = some (st', u') →
    ∀ (E : Env) (a : Act) (w : World) (n : Nat) (c0 : Frame) (cs : List Frame), StR G F W E none st a w → UR E u c0.mode → wpOpsSIn Fence.wide n P ops (PostS G F W E st.S.n c0 cs .normal st' u') l a (c0 :: cs) w := by
  intro os
  induction os with
  | nil =>
    intro l hl st u st' u' h E a w n c0 cs hst hu
    cases l with
    | nil => cases h; exact ⟨E, c0.mode, rfl, Ext.refl _ _, Nat.le_refl _, hst, trivial, hu⟩
    | cons i l => cases hl
  | cons o os hi =>
    intro l hl st u st' u' h E a w n c0 cs hst hu
    cases l with
    | nil => cases hl
    | cons i l =>
      simp only [List.map_cons, List.cons.injEq] at hl
      unfold opsR at h
      split at h
      · rename_i st1 u1 h1
        unfold wpOpsSIn
        rw [hl.1]
        simp only
        refine ⟨fun _ _ => trivial, ?_⟩
        have hgo : ∀ (E1 : Env) (a1 : Act) (w1 : World) (m1 : FrameMode), Ext st.S.n E E1 → st.S.n ≤ st1.S.n → StR G F W E1 none st1 a1 w1 → UR E1 u1 m1 →
            wpOpsSIn Fence.wide n P ops (PostS G F W E st.S.n c0 cs .normal st' u') l a1 ({ c0 with mode := m1 } :: cs) w1 := fun E1 a1 w1 m1 hE hn hst1 hu1 =>
          wpOpsSIn_mono (fun _ _ _ _ hq => PostS.ext hE hn hq) _ _ _ _ (hi l hl.2 st1 u1 st' u' h E1 a1 w1 n { c0 with mode := m1 } cs hst1 hu1)
        rw [wantS_ok hst.tr o]
        unfold operR at h1
        split at h1
        · rename_i hw
          rw [hw, if_neg (by simp)]
          split at h1
          · rename_i st2 h2
            cases h1
            obtain ⟨hs2, hS⟩ := put_ok hst VR.undef h2
            exact hgo E _ w c0.mode (Ext.refl _ _) (by rw [hS]; exact Nat.le_refl _) hs2 hu
          · cases h1
        · rename_i hw
          rw [hw, if_pos rfl]
          split at h1
          · rename_i v S1 hx
            obtain ⟨v', w', E', hr, hE, hn, hs, hv⟩ := stepS_ok hst.sat hst.tr hx
            rw [hr]
            simp only
            split at h1
            · rename_i st2 h2
              cases h1
              obtain ⟨hs2, hS⟩ := hst.val hE hs hv h2
              exact hgo E' _ w' c0.mode hE (by rw [hS]; exact hn) hs2 (hu.mono (hst.sat.le hE))
            · cases h1
          · rename_i S1 hx
            obtain ⟨w', E', hr, hE, hn, hs⟩ := stepS_ok hst.sat hst.tr hx
            rw [hr]
            simp only
            split at h1
            · rename_i st2 h2
              cases h1
              obtain ⟨hs2, hS⟩ := hst.val hE hs VR.undef h2
              exact hgo E' _ w' c0.mode hE (by rw [hS]; exact hn) hs2 (hu.mono (hst.sat.le hE))
            · cases h1
          · rename_i S1 hx
            obtain ⟨hr, rfl⟩ := stepS_ok hst.sat hst.tr hx
            rw [hr]
            simp only
            split at h1
            · rename_i v
              split at h1
              · rename_i st2 h2
                cases h1
                obtain ⟨m, hm⟩ : ∃ m, c0.mode = m := ⟨_, rfl⟩
                rw [hm] at hu
                cases m with
                | run => exact hu.elim
                | returning => exact hu.elim
                | panicking ch =>
                  obtain ⟨v', rfl, hv⟩ := hu
                  have hrec : recoverD (c0 :: cs) = some (v', { c0 with mode := .panicking [{ v := v', recovered := true }] } :: cs) := by
                    simp [recoverD, hm]
                  rw [hrec]
                  obtain ⟨hs2, hS⟩ := hst.val (Ext.refl _ _) hst.sat hv h2
                  exact hgo E _ w _ (Ext.refl _ _) (by rw [hS]; exact Nat.le_refl _) hs2 ⟨v', rfl, hv⟩
              · cases h1
            · rename_i hno
              split at h1
              · rename_i st2 h2
                cases h1
                have hrec : recoverD (c0 :: cs) = none := by
                  obtain ⟨m, hm⟩ : ∃ m, c0.mode = m := ⟨_, rfl⟩
                  rw [hm] at hu
                  cases u with
                  | none => cases m with
                    | returning => simp [recoverD, hm]
                    | run => exact hu.elim
                    | panicking ch => exact hu.elim
                  | some q =>
                    obtain ⟨v, b⟩ := q
                    cases m with
                    | returning => exact hu.elim
                    | run => exact hu.elim
                    | panicking ch =>
                      obtain ⟨v', rfl, hv⟩ := hu
                      cases b with
                      | false => exact absurd rfl (hno v)
                      | true => simp [recoverD, hm]
                rw [hrec]
                obtain ⟨hs2, hS⟩ := hst.val (Ext.refl _ _) hst.sat .nilIface h2
                exact hgo E _ w c0.mode (Ext.refl _ _) (by rw [hS]; exact Nat.le_refl _) hs2 hu
              · cases h1
          · cases h1
      · cases h
theorem range_ops (ops : Array Oper) : (List.range ops.size).map (ops[·]?) = ops.toList.map some := by
  apply List.ext_getElem?
  intro i
  simp only [List.getElem?_map]
  by_cases hi : i < ops.size
  · rw [List.getElem?_range hi]
    simp [hi]
  · rw [List.getElem?_eq_none (by simp; omega), List.getElem?_eq_none (by simp; omega)]
    rfl
theorem wpSIn_mono {F : Fence} {n : Nat} {c : Code} {Q Q' : Exit → Act → List Frame → World → Prop} {a : Act} {cs : List Frame} {w : World} (h : c.wpSIn F n P Q a cs w) (hq : ∀ e a cs w, Q e a cs w → Q' e a cs w) : c.wpSIn F n P Q' a cs w :=
  fun b k hb hr hF hroom => let ⟨e, a', cs', w', l, q, r⟩ := h b k hb hr hF hroom; ⟨e, a', cs', w', l, hq _ _ _ _ q, r⟩
theorem codeR_ok {ih : Run} (hih : Snd P G ih) : ∀ (c : Code) (st : St) (u : Option (Value × Bool)) (e : SExit) (st' : St) (u' : Option (Value × Bool)), codeR P G ih c st u = some (e, st', u') →
    ∀ (E : Env) (a : Act) (w : World) (n : Nat) (c0 : Frame) (cs : List Frame), StR G F W E none st a w → UR E u c0.mode → c.wpSIn Fence.wide n P (PostS G F W E st.S.n c0 cs e st' u') a (c0 :: cs) w := by
  have hplain : ∀ (c : Code) (st : St) (u : Option (Value × Bool)) (e : SExit) (st' : St) (u' : Option (Value × Bool)), (match ih st c with | some (e, st') => some (e, st', u) | none => none) = some (e, st', u') →
      ∀ (E : Env) (a : Act) (w : World) (n : Nat) (c0 : Frame) (cs : List Frame), StR G F W E none st a w → UR E u c0.mode → c.wpSIn Fence.wide n P (PostS G F W E st.S.n c0 cs e st' u') a (c0 :: cs) w := by
    intro c st u e st' u' h E a w n c0 cs hst hu
    split at h
    · rename_i e1 st1 h1
      cases h
      refine wpSIn_of_wpIn rfl (wpIn_mono (hih _ _ _ _ h1 F W E a w none n hst) ?_)
      rintro x a' w' ⟨E', h1, h2, h3, h4⟩
      exact ⟨E', c0.mode, rfl, h1, h2, h3, h4, hu.mono (hst.sat.le h1)⟩
    · cases h
  intro c
  induction c with
  | seq x y hx hy =>
    intro st u e st' u' h E a w n c0 cs hst hu
    unfold codeR at h
    split at h
    · rename_i st1 u1 h1
      refine wpSIn_seq (wpSIn_mono (hx _ _ _ _ _ h1 E a w n c0 cs hst hu) ?_)
      rintro x1 a1 cs1 w1 ⟨E1, m1, rfl, h3, h4, h5, h6, h7⟩
      cases x1 <;> first | exact h6.elim | skip
      exact wpSIn_mono (hy _ _ _ _ _ h E1 a1 w1 n { c0 with mode := m1 } cs h5 h7) fun _ _ _ _ hq => PostS.ext h3 h4 hq
    · rename_i hno
      refine wpSIn_seq (wpSIn_mono (hx _ _ _ _ _ h E a w n c0 cs hst hu) ?_)
      intro x1 a1 cs1 w1 hq
      have hq' := hq
      obtain ⟨E1, m1, rfl, h3, h4, h5, h6, h7⟩ := hq
      cases x1 with
      | normal =>
        cases e with
        | normal => exact absurd h (hno _ _)
        | _ => exact h6.elim
      | _ => exact hq'
  | region id ops d =>
    intro st u e st' u' h
    unfold codeR at h
    by_cases hb : (!d && ops.toList.any isRecover) = true
    · rw [hb, cond_true] at h
      split at h
      · rename_i st1 u1 h1
        cases h
        intro E a w n c0 cs hst hu
        have hd : d = false := by cases d <;> simp_all
        subst hd
        exact wpSIn_region (opsR_ok _ _ (range_ops ops) _ _ _ _ h1 E a w n c0 cs hst hu)
      · cases h
    · rw [Bool.eq_false_iff.2 hb, cond_false] at h
      exact hplain _ _ _ _ _ _ h
  | _ =>
    intro st u e st' u' h
    unfold codeR at h
    exact hplain _ _ _ _ _ _ h
theorem settle_ok {E : Env} {u : Option (Value × Bool)} {m : FrameMode} (h : UR E u m) : UR E (settleS u) (settle m) := by
  cases u with
  | none => cases m with
    | returning => trivial
    | run => exact h.elim
    | panicking ch => exact h.elim
  | some p =>
    obtain ⟨v, b⟩ := p
    cases m with
    | returning => exact h.elim
    | run => exact h.elim
    | panicking ch =>
      obtain ⟨v', rfl, hv⟩ := h
      cases b with
      | true => exact trivial
      | false => exact ⟨v', rfl, hv⟩
theorem deferFn_ok {ih : Run} (hih : Snd P G ih) {f : FuncId} {args : List Value} {S S' : SW} {u u' : Option (Value × Bool)} (h : deferFn P G ih f args S u = some (S', u')) {E : Env} {w : World} {args' : Array Value} {m : FrameMode} (n : Nat)
    (hs : Sat G F W E S w) (hargs : VL E args args'.toList) (hu : UR E u m) :
    (callFunc f args').run P w = .ok (.enter f args') w ∧ CallsDIn Fence.wide n P f args' m w fun e m' w' => ∃ E', (∃ v, e = .returned v) ∧ Ext S.n E E' ∧ S.n ≤ S'.n ∧ Sat G F W E' S' w' ∧ UR E' u' (settle m') := by
  unfold deferFn at h
  split at h
  · rename_i x fn hx hfn
    obtain ⟨_, hcall⟩ := enter_ok hx
    refine ⟨hcall args' w, ?_⟩
    split at h
    · cases h
    · rename_i c hc
      split at h
      · rename_i e st u1 hrun
        refine callsDIn_of_wpSIn hfn hc trivial fun c0 cs hm => ?_
        have hsz : (args' ++ Array.replicate (fn.ntmps - args'.size) undef).size = Nat.max fn.ntmps args.length := by
          have h1 : args.length = args'.size := hargs.1.trans Array.length_toList
          show _ = max fn.ntmps args.length
          rw [Nat.max_def]
          split <;> simp <;> omega
        refine wpSIn_mono (codeR_ok hih c _ _ _ _ _ hrun E { tmps := args' ++ Array.replicate (fn.ntmps - args'.size) undef, defers := [] } w n c0 cs ⟨hs, fromL_ok hargs _, hsz, LR.nil, rfl⟩ (hm ▸ hu)) ?_
        rintro x1 a1 cs1 w1 ⟨E1, m1, rfl, h3, h4, h5, h6, h7⟩
        have hdone : endR P fn .normal st u1 = some (S', u') → a1.defers = [] ∧ ∃ m', ({ c0 with mode := m1 } :: cs : List Frame) = { c0 with mode := m' } :: cs ∧ ∃ v, (results fn a1.tmps).run P w1 = .ok v w1 ∧
            ∃ E', (∃ v', Ending.returned v = .returned v') ∧ Ext S.n E E' ∧ S.n ≤ S'.n ∧ Sat G F W E' S' w1 ∧ UR E' u' (settle m') := fun he => by
          unfold endR at he
          simp only at he
          split at he
          · rename_i l hds hl
            cases he
            have hd := h5.ds
            rw [hds] at hd
            obtain ⟨v', hr, _⟩ := results_ok h5.sat h5.tr hl
            exact ⟨LR.inv_nil hd, m1, rfl, v', hr, E1, ⟨v', rfl⟩, h3, h4, h5.sat, settle_ok h7⟩
          · cases he
        cases e with
        | normal => cases x1 <;> first | exact hdone h | exact h6.elim
        | ret => cases x1 <;> first | exact hdone h | exact h6.elim
        | exit i => cases h
        | goto l => cases h
        | panic v => cases h
      · cases h
  · cases h
theorem defersE_ok {ih : Run} (hih : Snd P G ih) {n0 : Nat} {E0 : Env} {fn : Func} {tr : Tr Value} {r : SEnd} {S' : SW} : ∀ (ds : List Deferred) (S : SW) (u : Option (Value × Bool)) (p : SW × Option (Value × Bool)), defersE P G ih ds S u = some p → endE P fn tr p = some (r, S') →
    ∀ (E : Env) (w : World) (ds' : List Deferred) (mode : FrameMode) (tmps : Array Value) (n : Nat), Ext n0 E0 E → n0 ≤ S.n → Sat G F W E S w → LR (DR E) ds ds' → UR E u mode → TR E tr tmps →
      LeavesInM Fence.wide n P fn tmps (fun e w' => ∃ E', Ext n0 E0 E' ∧ n0 ≤ S'.n ∧ Sat G F W E' S' w' ∧ EndR E' r e) ds' mode w := by
  intro ds
  induction ds with
  | nil =>
    intro S u p hp hend E w ds' mode tmps n hE hn hs hds hu ht
    cases hp
    have := LR.inv_nil hds
    subst this
    cases u with
    | none =>
      cases mode with
      | returning =>
        unfold endE at hend
        split at hend
        · rename_i S0 heq
          cases heq
          split at hend
          · rename_i l hl
            cases hend
            obtain ⟨v', h1, h2⟩ := results_ok hs ht hl
            exact ⟨v', h1, E, hE, hn, hs, h2⟩
          · cases hend
        · rename_i heq; cases heq
        · rename_i heq; cases heq
      | run => exact hu.elim
      | panicking ch => exact hu.elim
    | some q =>
      obtain ⟨v, b⟩ := q
      cases mode with
      | returning => exact hu.elim
      | run => exact hu.elim
      | panicking ch =>
        obtain ⟨v', rfl, hv⟩ := hu
        cases b with
        | true => cases hend
        | false =>
          cases hend
          exact ⟨E, hE, hn, hs, v', rfl, hv⟩
  | cons d ds hi =>
    intro S u p hp hend E w ds' mode tmps n hE hn hs hds hu ht
    obtain ⟨d', m, rfl, hd, hds0⟩ := hds.inv_cons
    clear hds
    have hds := hds0
    clear hds0
    cases hd with
    | fn hc ha =>
      rename_i f cap cap' args args'
      unfold defersE at hp
      simp only at hp
      split at hp
      · rename_i S1 u1 h1
        have hargs : VL E (args.toList ++ cap.toList) (args' ++ cap').toList := by
          rw [Array.toList_append]
          exact ha.append hc
        obtain ⟨h2, h3⟩ := deferFn_ok hih h1 (n - 1) hs hargs hu
        refine ⟨hu.run, .inr ⟨(fun hh => by cases hh), .func f, cap', f, _, rfl, h2, fun _ _ => trivial, ?_⟩⟩
        refine h3.mono ?_
        rintro e m' w' ⟨E', ⟨v, rfl⟩, k1, k2, k3, k4⟩
        exact hi _ _ _ hp hend E' w' m _ tmps n (hE.trans k1 hn) (Nat.le_trans hn k2) k3 (hds.mono fun _ _ hd => hd.mono (hs.le k1)) k4 (ht.mono (hs.le k1))
      · cases hp
    | mark he =>
      rename_i r0 e
      unfold defersE at hp
      simp only at hp
      split at hp
      · rename_i hr
        obtain ⟨h1, h2⟩ := takeDfr_ok (P := P) hs hr he
        exact ⟨hu.run, .inl ⟨_, _, rfl, h1, hi _ _ _ hp hend E _ m mode tmps n hE (by rw [SW.del_n]; exact hn) h2 hds hu ht⟩⟩
      · cases hp
theorem callB_ok {ih : Run} (hi : Snd P G ih) {S S' : SW} {f : FuncId} {fn : Func} {c : Code} {args : List Value} {r : SEnd} (hf : P.funcs[f]? = some fn) (hb : fn.body = some c)
    (h : callB P G ih S fn c args = some (r, S')) : CallOk P G S f args r S' := by
  intro F W E w args' n hs hargs
  refine callsIn_of_wp_marks hf hb trivial ?_
  unfold callB at h
  split at h
  · cases h
  rename_i e st hrun
  split at h
  · cases h
  rename_i st1 u hout
  split at h
  · cases h
  rename_i p hdef
  have hsz : (args' ++ Array.replicate (fn.ntmps - args'.size) undef).size = Nat.max fn.ntmps args.length := by
    have h1 : args.length = args'.size := hargs.1.trans Array.length_toList
    show _ = max fn.ntmps args.length
    rw [Nat.max_def]
    split <;> simp <;> omega
  have key := hi _ _ _ _ hrun F W E { tmps := args' ++ Array.replicate (fn.ntmps - args'.size) undef, defers := [] } w none n ⟨hs, fromL_ok hargs _, hsz, LR.nil, rfl⟩
  refine wpIn_mono key ?_
  rintro e' a' w' ⟨E', hE, hn, hst, hx⟩
  have hdone : ∀ u' mode, outE e st = some (st, u') → UR E' u' mode → LeavesInM Fence.wide n P fn a'.tmps (fun e w' => ∃ E', Ext S.n E E' ∧ S.n ≤ S'.n ∧ Sat G F W E' S' w' ∧ EndR E' r e) a'.defers mode w' := fun u' mode ho hu => by
    rw [ho] at hout
    cases hout
    exact defersE_ok hi _ _ _ _ hdef h E' w' _ _ _ _ hE hn hst.sat hst.ds hu hst.tr
  cases e with
  | normal => cases e' <;> first | exact hdone none _ rfl trivial | exact hx.elim
  | ret => cases e' <;> first | exact hdone none _ rfl trivial | exact hx.elim
  | exit i => cases hout
  | goto i => cases hout
  | panic v => cases e' <;> first | exact hx.elim | exact hdone (some (v, false)) _ rfl hx
end
end Go.Proofs.YtbjecfbfcpiilaaGreatDoor

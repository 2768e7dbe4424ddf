/- The executor: frames, results. -/
import Derived.Test.YtfjippjkikcpfaaGreatDoorExV
import Derived.RangeFuncLeaves
import Derived.RangeFuncRecord
import Derived.RangeFuncCalls
import Derived.OrdersIn
import Derived.RecoverIn
namespace Go.Proofs.YtfjippjkikcpfaaGreatDoor
open Go

def fw (rd : Option Nat) : Fence := { Fence.wide with round := rd }
theorem fw_fn (rd : Option Nat) (f : FuncId) : (fw rd).fn f := trivial
theorem fw_depth (rd : Option Nat) (n : Nat) : (fw rd).depth.isSome = true → 1 ≤ n := fun h => by cases h
structure StR (G : Nat) (F : Nat → Option Obj) (W : World) (E : Env) (rd : Option Nat) (st : St) (a : Act) (w : World) : Prop where
  sat : Sat G F W E st.S w
  tr : TR E st.tr a.tmps
  nt : a.tmps.size = st.nt
  ds : LR (DR E) st.ds a.defers
  rd : st.rd = rd.isSome
def ExitR (E : Env) : SExit → Exit → Prop
  | .normal, .normal => True
  | .exit i, .exit j => i = j
  | .goto i, .goto j => i = j
  | .ret, .ret => True
  | .panic v, .panic ch => ∃ v', ch = [{ v := v', recovered := false }] ∧ VR E v v'
  | _, _ => False
def PostC (G : Nat) (F : Nat → Option Obj) (W : World) (E : Env) (rd : Option Nat) (n0 : Nat) (e : SExit) (st' : St) : Exit → Act → World → Prop :=
  fun x a w => ∃ E', Ext n0 E E' ∧ n0 ≤ st'.S.n ∧ StR G F W E' rd st' a w ∧ ExitR E' e x
def Snd (P : Program) (G : Nat) (ih : Run) : Prop :=
  ∀ st c e st', ih st c = some (e, st') → ∀ F W E a w rd n, StR G F W E rd st a w → c.wpIn (fw rd) n P (PostC G F W E rd st.S.n e st') a w
def EndR (E : Env) : SEnd → Ending → Prop
  | .ret v, .returned v' => VR E v v'
  | .panic v, .panicked ch => ∃ v', ch = [{ v := v', recovered := false }] ∧ VR E v v'
  | _, _ => False
def CallOk (P : Program) (G : Nat) (S : SW) (f : FuncId) (args : List Value) (r : SEnd) (S' : SW) : Prop :=
  ∀ F W E w (args' : Array Value) n, Sat G F W E S w → VL E args args'.toList → CallsIn Fence.wide n P f args' w fun e w' => ∃ E', Ext S.n E E' ∧ S.n ≤ S'.n ∧ Sat G F W E' S' w' ∧ EndR E' r e
section
variable {P : Program} {G : Nat} {F : Nat → Option Obj} {W : World} {E : Env} {w : World}
theorem Sat.le {S : SW} (h : Sat G F W E S w) {E' : Env} (hE : Ext S.n E E') : E.le E' := hE.le h.new
/-- The temporaries, one of them turned. -/
theorem TR.put {tr : Tr Value} {t : Array Value} (h : TR E tr t) {d : Nat} (hd : d < t.size) {v v' : Value} (hv : VR E v v') : TR E (tr.put d (some v)) (t.setIfInBounds d v') := fun k => by
  have hk := h k
  rw [evS_tmp] at hk ⊢
  rw [Tr.get_put]
  by_cases hkd : k = d
  · subst hkd
    simpa [hd] using hv
  · rw [if_neg hkd]
    simp only [Array.getD_eq_getD_getElem?] at hk ⊢
    rw [Array.getElem?_setIfInBounds_ne (Ne.symm hkd)]
    exact hk
theorem put_ok {rd : Option Nat} {st st' : St} {a : Act} (h : StR G F W E rd st a w) {d : Option Tmp} {v v' : Value} (hv : VR E v v') (hp : st.put d v = some st') : StR G F W E rd st' (a.put d v') w ∧ st'.S = st.S := by
  obtain ⟨S, tr, nt, ds, r⟩ := st
  unfold St.put at hp
  cases d with
  | none => cases hp; exact ⟨h, rfl⟩
  | some d =>
    simp only at hp
    by_cases hlt : Nat.blt d nt = true
    · rw [hlt, cond_true, seqV_eq, Tr.putK_eq] at hp
      cases hp
      have hlt' : d < nt := Nat.le_of_ble_eq_true hlt
      exact ⟨⟨h.sat, h.tr.put (by rw [h.nt]; exact hlt') hv, by simp [Act.put, h.nt], h.ds, h.rd⟩, rfl⟩
    · rw [Bool.eq_false_iff.2 hlt] at hp; cases hp
theorem StR.move {rd : Option Nat} {st : St} {a : Act} (h : StR G F W E rd st a w) {E' : Env} {S' : SW} {w' : World} (hE : Ext st.S.n E E') (hs : Sat G F W E' S' w') : StR G F W E' rd ⟨S', st.tr, st.nt, st.ds, st.rd⟩ a w' :=
  ⟨hs, h.tr.mono (h.sat.le hE), h.nt, h.ds.mono fun _ _ hd => hd.mono (h.sat.le hE), h.rd⟩
theorem fromG_get : ∀ (l : List Value) (i : Nat) (t : Tr Value) (j : Nat), (fromG l i t).get j = if i ≤ j ∧ j < i + l.length then l[j - i]? else t.get j
  | [], i, t, j => by
    show t.get j = _
    rw [if_neg (by simp)]
  | v :: l, i, t, j => by
    show (seqV v fun v => t.putK i (some v) fun t => fromG l (i + 1) t).get j = _
    rw [seqV_eq, Tr.putK_eq, fromG_get l (i + 1) _ j, Tr.get_put]
    simp only [List.length_cons]
    by_cases h1 : i + 1 ≤ j ∧ j < i + 1 + l.length
    · rw [if_pos h1, if_pos (by omega), show j - i = (j - (i + 1)) + 1 by omega]
      simp
    · rw [if_neg h1]
      by_cases h2 : j = i
      · subst h2
        rw [if_pos rfl, if_pos (by omega)]
        simp
      · rw [if_neg h2, if_neg (by omega)]
theorem fromL_ok {l : List Value} {a : Array Value} (h : VL E l a.toList) (k : Nat) : TR E (fromL l) (a ++ Array.replicate k undef) := fun t => by
  rw [evS_tmp]
  unfold fromL
  rw [fromG_get]
  have hs : l.length = a.size := h.1.trans Array.length_toList
  by_cases ht : t < l.length
  · have ht' : t < a.size := Nat.lt_of_lt_of_eq ht hs
    rw [if_pos ⟨Nat.zero_le _, (Nat.zero_add l.length).symm ▸ ht⟩, Nat.sub_zero, List.getElem?_eq_getElem ht, Option.getD_some]
    obtain ⟨y, hy, hr⟩ := h.get (List.getElem?_eq_getElem ht)
    simp only [Array.getD_eq_getD_getElem?]
    rw [Array.getElem?_append_left ht']
    rw [Array.getElem?_toList] at hy
    rw [hy]
    exact hr
  · have ht' : ¬ t < a.size := fun h => ht (Nat.lt_of_lt_of_eq h hs.symm)
    rw [if_neg fun h => ht (Nat.zero_add l.length ▸ h.2)]
    simp only [Array.getD_eq_getD_getElem?]
    rw [Array.getElem?_append_right (Nat.le_of_not_lt ht')]
    have : ((Array.replicate k undef)[t - a.size]?).getD undef = undef := by
      rw [Array.getElem?_replicate]
      split <;> rfl
    rw [this]
    exact VR.undef
def resOne (t : Array Value) (r : ResultVar) : Sem Value :=
  match r with
  | .tmp k => pure (t.getD k undef)
  | .cell a ty => do loadVar ty (← asAddr (t.getD a undef))
theorem results_eq (fn : Func) (t : Array Value) : results fn t = (do
    let vs ← fn.results.mapM (resOne t)
    pure (if h : vs.size = 1 then vs[0] else .tuple vs)) := rfl
theorem results_ok {S : SW} (h : Sat G F W E S w) {tr : Tr Value} {t : Array Value} (ht : TR E tr t) {fn : Func} {l : List Value} (hl : resS P S tr fn.results.toList = some l) :
    ∃ v', (results fn t).run P w = .ok v' w ∧ VR E (resV l) v' := by
  have key : ∀ (rs : List ResultVar) (l : List Value), resS P S tr rs = some l → ∃ l', (rs.mapM (resOne t)).run P w = .ok l' w ∧ VL E l l' := by
    intro rs
    induction rs with
    | nil => intro l hl; cases hl; exact ⟨[], by simp, LR.nil⟩
    | cons r rs ih =>
      intro l hl
      cases r with
      | tmp k =>
        unfold resS at hl
        split at hl
        · rename_i r hr
          cases hl
          obtain ⟨l', h1, h2⟩ := ih r hr
          refine ⟨t.getD k undef :: l', ?_, LR.cons (ht k) h2⟩
          simp only [List.mapM_cons, Sem.run_bind, resOne, Sem.run_pure, Result.andThen_ok, h1]
        · cases hl
      | cell a ty =>
        unfold resS at hl
        split at hl
        · rename_i ad ha
          split at hl
          · rename_i v r hv hr
            cases hl
            obtain ⟨l', h1, h2⟩ := ih r hr
            have hta := ht a
            rw [ha] at hta
            generalize hx : t.getD a undef = x at hta
            cases hta with | ptr hA =>
            obtain ⟨v', q1, q2⟩ := h.loadVar (P := P) hA hv
            refine ⟨v' :: l', ?_, LR.cons q2 h2⟩
            simp only [List.mapM_cons, Sem.run_bind, resOne, hx, asAddr, Sem.run_pure, Result.andThen_ok, q1, h1]
          · cases hl
        · cases hl
  obtain ⟨l', h1, h2⟩ := key _ _ hl
  have hrun : (results fn t).run P w = .ok (if h : l'.toArray.size = 1 then l'.toArray[0] else .tuple l'.toArray) w := by
    rw [results_eq, Sem.run_bind, Array.mapM_eq_mapM_toList, Sem.run_map, h1]
    rfl
  refine ⟨_, hrun, ?_⟩
  have hlen := h2.1
  unfold resV
  split
  · rename_i v
    obtain ⟨v', m, rfl, q1, q2⟩ := h2.inv_cons
    have := LR.inv_nil q2
    subst this
    simpa using q1
  · rename_i l0 hno
    have hne : ¬ (l'.toArray.size = 1) := fun hc => by
      simp at hc
      match l, hlen with
      | [v], _ => exact hno v rfl
      | [], hh => rw [hc] at hh; cases hh
      | _ :: _ :: _, hh => rw [hc] at hh; simp at hh
    rw [dif_neg hne]
    exact .tuple' (by simpa using h2)
end
end Go.Proofs.YtfjippjkikcpfaaGreatDoor

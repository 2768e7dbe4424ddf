/- The executor: drawn regions: what holds between two operations. -/
import Derived.Test.YtfjippjkikcpfaaGreatDoorExK
namespace Go.Proofs.YtfjippjkikcpfaaGreatDoor
open Go

def TmpI (ops : Array Oper) (s : Nat → DS) (D : Nat → Prop) (E : Env) (t : Array Value) : Prop :=
  ∀ x, ∃ j, j ≤ ops.size ∧ VR E (evS (s j).st.tr (.tmp x)) (t.getD x undef) ∧ (∀ q o, j ≤ q → ops[q]? = some o → D q → o.dst ≠ some x) ∧ (j = 0 ∨ ∃ q o, j = q + 1 ∧ ops[q]? = some o ∧ D q ∧ o.dst = some x)
structure Inv (ops : Array Oper) (s : Nat → DS) (G : Nat) (F : Nat → Option Obj) (W : World) (E0 : Env) (D : Nat → Prop) (a : Act) (w : World) (E : Env) (F' : Nat → Option Obj) (c : Nat) : Prop where
  hc : c ≤ ops.size
  lo : ∀ q o, q < c → ops[q]? = some o → Lo ops s q o → D q
  hi : ∀ q o, c ≤ q → ops[q]? = some o → Lo ops s q o → ¬ D q
  sat : Sat G F' W E (s c).st.S w
  ext : Ext (s 0).nx E0 E
  big : (s 0).lim ≤ (s c).st.S.n
  tmp : TmpI ops s D E a.tmps
  size : a.tmps.size = (s 0).st.nt
  ds : LR (DR E) (s c).st.ds a.defers
  out : Out F F' E w (s ops.size).lays (fun j => D j ∧ (s c).inc.testBit j = false)
  new : ∀ l ∈ (s ops.size).lays, ¬ D l.j → E l.id = none
  inc : ∀ j, (s c).inc.testBit j = true → D j
def Closed (ops : Array Oper) (D : Nat → Prop) : Prop := ∀ q o, ops[q]? = some o → D q → ∀ e ∈ o.after, Region.binds .any e = true → D e.on
theorem pair_uniq : ∀ {L : List Lay}, L.Pairwise (fun a b => a.j ≠ b.j ∧ a.id ≠ b.id) → ∀ l ∈ L, ∀ l' ∈ L, (l.j = l'.j ∨ l.id = l'.id) → l = l'
  | [], _, _, h, _, _, _ => by cases h
  | x :: L, hp, l, hl, l', hl', h => by
    obtain ⟨h1, h2⟩ := List.pairwise_cons.1 hp
    rcases List.mem_cons.1 hl with e | k
    · rcases List.mem_cons.1 hl' with e' | k'
      · rw [e, e']
      · rw [e] at h
        rcases h with h | h
        · exact absurd h (h1 l' k').1
        · exact absurd h (h1 l' k').2
    · rcases List.mem_cons.1 hl' with e' | k'
      · rw [e'] at h
        rcases h with h | h
        · exact absurd h.symm (h1 l k).1
        · exact absurd h.symm (h1 l k).2
      · exact pair_uniq h2 l k l' k' h
theorem layBits_bit {B inc j : Nat} : ∀ ls : List Lay, (layBits ls B inc).testBit j = true ↔ inc.testBit j = true ∨ ∃ l ∈ ls, l.j = j ∧ B.testBit j = true
  | [] => ⟨fun h => .inl h, fun h => h.elim id fun ⟨_, hl, _⟩ => by cases hl⟩
  | l :: ls => by
    have hadd : layBits (l :: ls) B inc = bif Nat.testBit B l.j then Nat.lor (layBits ls B inc) (2 ^ l.j) else layBits ls B inc := rfl
    have ih := layBits_bit (B := B) (inc := inc) (j := j) ls
    rw [hadd]
    cases hb : Nat.testBit B l.j with
    | false =>
      rw [cond_false, ih]
      refine or_congr_right ⟨fun ⟨x, hx, h⟩ => ⟨x, List.mem_cons_of_mem _ hx, h⟩, fun ⟨x, hx, h1, h2⟩ => ?_⟩
      rcases List.mem_cons.1 hx with rfl | hx
      · rw [← h1, hb] at h2; cases h2
      · exact ⟨x, hx, h1, h2⟩
    | true =>
      rw [cond_true, show Nat.lor (layBits ls B inc) (2 ^ l.j) = layBits ls B inc ||| 2 ^ l.j from rfl, Nat.testBit_or, Bool.or_eq_true, ih, Nat.testBit_two_pow]
      constructor
      · rintro ((h | ⟨x, hx, h⟩) | h)
        · exact .inl h
        · exact .inr ⟨x, List.mem_cons_of_mem _ hx, h⟩
        · have : l.j = j := by simpa using h
          exact .inr ⟨l, List.mem_cons_self, this, this ▸ hb⟩
      · rintro (h | ⟨x, hx, h1, h2⟩)
        · exact .inl (.inl h)
        · rcases List.mem_cons.1 hx with rfl | hx
          · exact .inr (by simpa using h1)
          · exact .inl (.inr ⟨x, hx, h1, h2⟩)
section
variable {P : Program} {G : Nat} {ih : Run} {ops : Array Oper} {B : Nat → Nat} {s : Nat → DS} {F F' : Nat → Option Obj} {W : World} {E0 E E' : Env} {D : Nat → Prop} {a : Act} {w w' : World} {c : Nat}
theorem Rn.bitsD (hr : Rn P G ih ops B s) (hcl : Closed ops D) : ∀ (m q : Nat), q < m → q < ops.size → D q → ∀ j, (B q).testBit j = true → D j := by
  intro m
  induction m with
  | zero => intro q h; omega
  | succ m hm =>
    intro q hq hqs hD j hj
    have ho : ops[q]? = some ops[q] := Array.getElem?_eq_getElem hqs
    obtain ⟨e, he, hb, h1⟩ := hr.bits q _ j ho hj
    have hlt := hr.edge q _ e ho he hb
    have hDe := hcl q _ ho hD e he hb
    rcases h1 with rfl | h1
    · exact hDe
    · exact hm e.on (by omega) (by omega) hDe j h1
theorem Rn.bitsD' (hr : Rn P G ih ops B s) (hcl : Closed ops D) {q : Nat} {o : Oper} (ho : ops[q]? = some o) (hD : D q) {j : Nat} (hj : (B q).testBit j = true) : D j :=
  hr.bitsD hcl (q + 1) q (by omega) (Array.getElem?_eq_some_iff.1 ho).1 hD j hj
/-- An operation that may come now. -/
structure Rdy (ops : Array Oper) (D : Nat → Prop) (i : Nat) (o : Oper) : Prop where
  cl : Closed ops D
  ho : ops[i]? = some o
  no : ¬ D i
  yes : ∀ e ∈ o.after, Region.binds .any e = true → D e.on
theorem Rn.rdy (hr : Rn P G ih ops B s) {i : Nat} {o : Oper} (h : Rdy ops D i o) {j : Nat} (hj : (B i).testBit j = true) : D j := by
  obtain ⟨e, he, hb, h1⟩ := hr.bits i _ j h.ho hj
  have hD := h.yes e he hb
  rcases h1 with rfl | h1
  · exact hD
  · have hlt := hr.edge i _ e h.ho he hb
    have hi := (Array.getElem?_eq_some_iff.1 h.ho).1
    exact hr.bitsD h.cl (e.on + 1) e.on (by omega) (by omega) hD j h1
theorem Rn.notBit (hr : Rn P G ih ops B s) {i : Nat} {o : Oper} (h : Rdy ops D i o) {q : Nat} {oq : Oper} (hq : ops[q]? = some oq) (hD : D q) : ¬ (B q).testBit i = true := fun hb => h.no (hr.bitsD' h.cl hq hD hb)
theorem memN_true {d : Tmp} {l : List Tmp} (h : d ∈ l) : memN (some d) l = true := List.any_eq_true.2 ⟨d, h, Nat.beq_refl d⟩
theorem Rn.tmpAt (hr : Rn P G ih ops B s) {i : Nat} {o : Oper} (h : Rdy ops D i o) {t : Array Value} (ht : TmpI ops s D E t) {x : Tmp} (hx : x ∈ looksT ops o) : VR E (evS (s i).st.tr (.tmp x)) (t.getD x undef) := by
  obtain ⟨j, hj, hv, hno, hlast⟩ := ht x
  have hi := (Array.getElem?_eq_some_iff.1 h.ho).1
  by_cases hji : j ≤ i
  · rw [hr.same hji (by omega) fun q oq hq1 hq2 hoq hd => ?_]
    · exact hv
    · rcases hr.apart q i oq o hq2 hoq h.ho with hb | ⟨hm, _⟩
      · exact hno q oq hq1 hoq (hr.rdy h hb) hd
      · rw [hd, memN_true hx] at hm; cases hm
  · rcases hlast with rfl | ⟨q, oq, rfl, hoq, hDq, hd⟩
    · omega
    · have hne : q ≠ i := fun e => h.no (e ▸ hDq)
      rcases hr.apart i q o oq (by omega) h.ho hoq with hb | ⟨_, hm, _⟩
      · exact absurd hb (hr.notBit h hoq hDq)
      · rw [hd, memN_true hx] at hm; cases hm
theorem Rn.tmpPut (hr : Rn P G ih ops B s) {i : Nat} {o : Oper} (h : Rdy ops D i o) {a : Act} (ht : TmpI ops s D E a.tmps) (hE : E.le E') {v v' : Value} (hv : VR E' v v') (htr : (s (i + 1)).st.tr = putT (s i).st.tr o.dst v)
    (hlt : ∀ x, o.dst = some x → x < a.tmps.size) : TmpI ops s (fun q => D q ∨ q = i) E' (a.put o.dst v').tmps := by
  have hi := (Array.getElem?_eq_some_iff.1 h.ho).1
  intro x
  by_cases hx : o.dst = some x
  · refine ⟨i + 1, hi, ?_, fun q oq hq hoq hD hd => ?_, .inr ⟨i, o, rfl, h.ho, .inr rfl, hx⟩⟩
    · rw [htr, hx, evS_putT_same]
      have := hlt x hx
      simpa [Act.put, this] using hv
    · rcases hD with hD | rfl
      · rcases hr.apart i q o oq (by omega) h.ho hoq with hb | ⟨_, _, hm⟩
        · exact hr.notBit h hoq hD hb
        · rw [hx, hd] at hm
          have : sameD (some x) (some x) = true := Nat.beq_refl x
          rw [this] at hm; cases hm
      · omega
  · obtain ⟨j, hj, hv', hno, hlast⟩ := ht x
    refine ⟨j, hj, ?_, fun q oq hq hoq hD hd => ?_, hlast.imp id fun ⟨q, oq, h1, h2, h3, h4⟩ => ⟨q, oq, h1, h2, .inl h3, h4⟩⟩
    · have : (a.put o.dst v').tmps.getD x undef = a.tmps.getD x undef := by
        cases hd : o.dst with
        | none => rfl
        | some d =>
          have hne : d ≠ x := fun e => hx (by rw [hd, e])
          simp only [Act.put, Array.getD_eq_getD_getElem?]
          rw [Array.getElem?_setIfInBounds_ne hne]
      rw [this]
      exact hv'.mono hE
    · rcases hD with hD | rfl
      · exact hno q oq hq hoq hD hd
      · rw [h.ho] at hoq; cases hoq
        exact hx hd
theorem yieldS_ok1 {tr : Tr Value} {t : Array Value} (j : Nat) (ht : ∀ x d, ops[j]? = some x → x.dst = some d → VR E (evS tr (.tmp d)) (t.getD d undef)) : yielded ops t j = yieldS ops tr j := by
  unfold yielded yieldS
  cases ho : ops[j]? with
  | none => rfl
  | some o =>
    simp only [Option.bind_some]
    cases hdd : o.dst with
    | none => rfl
    | some d =>
      have hd := ht o d ho hdd
      simp only [Option.bind_some]
      rw [Array.getD_eq_getD_getElem?] at hd
      cases hx : t[d]? with
      | none =>
        rw [hx] at hd
        generalize evS tr (.tmp d) = x at hd
        simp only
        have hu : (none : Option Value).getD undef = .tuple #[] := rfl
        rw [hu] at hd
        cases hd
        rfl
      | some y =>
        rw [hx] at hd
        simp only [Option.getD_some] at hd ⊢
        generalize evS tr (.tmp d) = x at hd
        cases hd <;> rfl
theorem Rn.want (hr : Rn P G ih ops B s) {i : Nat} {o : Oper} (h : Rdy ops D i o) {t : Array Value} (ht : TmpI ops s D E t) : Region.wanted o (yielded ops t) = wantS ops (s i).st.tr o := by
  have hL := fun x => hr.tmpAt h ht (x := x)
  unfold looksT at hL
  unfold Region.wanted wantS
  cases hg : o.guard with
  | none => rfl
  | some p =>
    obtain ⟨j, want⟩ := p
    rw [hg] at hL
    simp only at hL ⊢
    rw [yieldS_ok1 (E := E) (tr := (s i).st.tr) j fun x d hx hd => hL d (by rw [hx]; simp [hd])]
    cases yieldS ops (s i).st.tr j with
    | none => rfl
    | some b => cases b <;> cases want <;> rfl
theorem Rn.args (hr : Rn P G ih ops B s) {i : Nat} {o : Oper} (h : Rdy ops D i o) {S : SW} (hs : Sat G F' W E S w) (ht : TmpI ops s D E a.tmps) : ∀ x ∈ opL o.op, okX G x = true → VR E (evS (s i).st.tr x) (a.eval x) := by
  intro x hx hok
  have hleaf : TR E .leaf #[] := fun t => by rw [evS_tmp]; exact VR.undef
  have hev := ev_ok hs (tr := .leaf) (a := { tmps := #[], defers := [] }) hleaf hok
  cases x with
  | tmp t =>
    refine hr.tmpAt h ht (List.mem_append.2 (.inl ?_))
    unfold tmpsOf
    exact List.mem_filterMap.2 ⟨_, hx, rfl⟩
  | const v => exact hev
  | global g => exact hev
  | func f => exact hev
end
end Go.Proofs.YtfjippjkikcpfaaGreatDoor

/- The executor: drawn regions: what holds between two operations. The executor: drawn regions: each operation, the whole. -/
import Derived.Test.YtbjecfbfcpiilaaGreatDoorExJ
namespace Go.Proofs.YtbjecfbfcpiilaaGreatDoor
open Go

def TmpI (ops : Array Oper) (s : Nat → DS) (D : Nat → Prop) (E : Env) (t : Array Value) : Prop :=
  ∀ x, ∃ j, j ≤ ops.size ∧ VR E (evS (s j).st.tr (.tmp x)) (t.getD x undef) ∧ (∀ q o, j ≤ q → ops[q]? = some o → D q → o.dst ≠ some x) ∧ (j = 0 ∨ ∃ q o, j = q + 1 ∧ ops[q]? = some o ∧ D q ∧ o.dst = some x)
structure Inv (ops : Array Oper) (s : Nat → DS) (G : Nat) (F : Nat → Option Obj) (W : World) (E0 : Env) (D : Nat → Prop) (a : Act) (w : World) (E : Env) (F' : Nat → Option Obj) (c : Nat) : Prop where
  hc : c ≤ ops.size
  lo : ∀ q o, q < c → ops[q]? = some o → Lo ops s q o → D q
  hi : ∀ q o, c ≤ q → ops[q]? = some o → Lo ops s q o → ¬ D q
  sat : Sat G F' W E (s c).st.S w
  ext : Ext (s 0).nx E0 E
  big : (s 0).lim ≤ (s c).st.S.n
  tmp : TmpI ops s D E a.tmps
  size : a.tmps.size = (s 0).st.nt
  ds : LR (DR E) (s c).st.ds a.defers
  out : Out F F' E w (s ops.size).lays (fun j => D j ∧ (s c).inc.testBit j = false)
  new : ∀ l ∈ (s ops.size).lays, ¬ D l.j → E l.id = none
  inc : ∀ j, (s c).inc.testBit j = true → D j
def Closed (ops : Array Oper) (D : Nat → Prop) : Prop := ∀ q o, ops[q]? = some o → D q → ∀ e ∈ o.after, Region.binds .any e = true → D e.on
theorem pair_uniq : ∀ {L : List Lay}, L.Pairwise (fun a b => a.j ≠ b.j ∧ a.id ≠ b.id) → ∀ l ∈ L, ∀ l' ∈ L, (l.j = l'.j ∨ l.id = l'.id) → l = l'
  | [], _, _, h, _, _, _ => by cases h
  | x :: L, hp, l, hl, l', hl', h => by
    obtain ⟨h1, h2⟩ := List.pairwise_cons.1 hp
    rcases List.mem_cons.1 hl with e | k
    · rcases List.mem_cons.1 hl' with e' | k'
      · rw [e, e']
      · rw [e] at h
        rcases h with h | h
        · exact absurd h (h1 l' k').1
        · exact absurd h (h1 l' k').2
    · rcases List.mem_cons.1 hl' with e' | k'
      · rw [e'] at h
        rcases h with h | h
        · exact absurd h.symm (h1 l k).1
        · exact absurd h.symm (h1 l k).2
      · exact pair_uniq h2 l k l' k' h
theorem layBits_bit {B inc j : Nat} : ∀ ls : List Lay, (layBits ls B inc).testBit j = true ↔ inc.testBit j = true ∨ ∃ l ∈ ls, l.j = j ∧ B.testBit j = true
  | [] => ⟨fun h => .inl h, fun h => h.elim id fun ⟨_, hl, _⟩ => by cases hl⟩
  | l :: ls => by
    have hadd : layBits (l :: ls) B inc = bif Nat.testBit B l.j then Nat.lor (layBits ls B inc) (2 ^ l.j) else layBits ls B inc := rfl
    have ih := layBits_bit (B := B) (inc := inc) (j := j) ls
    rw [hadd]
    cases hb : Nat.testBit B l.j with
    | false =>
      rw [cond_false, ih]
      refine or_congr_right ⟨fun ⟨x, hx, h⟩ => ⟨x, List.mem_cons_of_mem _ hx, h⟩, fun ⟨x, hx, h1, h2⟩ => ?_⟩
      rcases List.mem_cons.1 hx with rfl | hx
      · rw [← h1, hb] at h2; cases h2
      · exact ⟨x, hx, h1, h2⟩
    | true =>
      rw [cond_true, show Nat.lor (layBits ls B inc) (2 ^ l.j) = layBits ls B inc ||| 2 ^ l.j from rfl, Nat.testBit_or, Bool.or_eq_true, ih, Nat.testBit_two_pow]
      constructor
      · rintro ((h | ⟨x, hx, h⟩) | h)
        · exact .inl h
        · exact .inr ⟨x, List.mem_cons_of_mem _ hx, h⟩
        · have : l.j = j := by simpa using h
          exact .inr ⟨l, List.mem_cons_self, this, this ▸ hb⟩
      · rintro (h | ⟨x, hx, h1, h2⟩)
        · exact .inl (.inl h)
        · rcases List.mem_cons.1 hx with rfl | hx
          · exact .inr (by simpa using h1)
          · exact .inl (.inr ⟨x, hx, h1, h2⟩)
section
variable {H : List HookE} {P : Program} {G : Nat} {ih : Run} {ops : Array Oper} {B : Nat → Nat} {s : Nat → DS} {F F' : Nat → Option Obj} {W : World} {E0 E E' : Env} {D : Nat → Prop} {a : Act} {w w' : World} {c : Nat}
theorem Rn.bitsD (hr : Rn H P G ih ops B s) (hcl : Closed ops D) : ∀ (m q : Nat), q < m → q < ops.size → D q → ∀ j, (B q).testBit j = true → D j := by
  intro m
  induction m with
  | zero => intro q h; omega
  | succ m hm =>
    intro q hq hqs hD j hj
    have ho : ops[q]? = some ops[q] := Array.getElem?_eq_getElem hqs
    obtain ⟨e, he, hb, h1⟩ := hr.bits q _ j ho hj
    have hlt := hr.edge q _ e ho he hb
    have hDe := hcl q _ ho hD e he hb
    rcases h1 with rfl | h1
    · exact hDe
    · exact hm e.on (by omega) (by omega) hDe j h1
theorem Rn.bitsD' (hr : Rn H P G ih ops B s) (hcl : Closed ops D) {q : Nat} {o : Oper} (ho : ops[q]? = some o) (hD : D q) {j : Nat} (hj : (B q).testBit j = true) : D j :=
  hr.bitsD hcl (q + 1) q (by omega) (Array.getElem?_eq_some_iff.1 ho).1 hD j hj
/-- An operation that may come now. -/
structure Rdy (ops : Array Oper) (D : Nat → Prop) (i : Nat) (o : Oper) : Prop where
  cl : Closed ops D
  ho : ops[i]? = some o
  no : ¬ D i
  yes : ∀ e ∈ o.after, Region.binds .any e = true → D e.on
theorem Rn.rdy (hr : Rn H P G ih ops B s) {i : Nat} {o : Oper} (h : Rdy ops D i o) {j : Nat} (hj : (B i).testBit j = true) : D j := by
  obtain ⟨e, he, hb, h1⟩ := hr.bits i _ j h.ho hj
  have hD := h.yes e he hb
  rcases h1 with rfl | h1
  · exact hD
  · have hlt := hr.edge i _ e h.ho he hb
    have hi := (Array.getElem?_eq_some_iff.1 h.ho).1
    exact hr.bitsD h.cl (e.on + 1) e.on (by omega) (by omega) hD j h1
theorem Rn.notBit (hr : Rn H P G ih ops B s) {i : Nat} {o : Oper} (h : Rdy ops D i o) {q : Nat} {oq : Oper} (hq : ops[q]? = some oq) (hD : D q) : ¬ (B q).testBit i = true := fun hb => h.no (hr.bitsD' h.cl hq hD hb)
theorem memN_true {d : Tmp} {l : List Tmp} (h : d ∈ l) : memN (some d) l = true := List.any_eq_true.2 ⟨d, h, Nat.beq_refl d⟩
theorem Rn.tmpAt (hr : Rn H P G ih ops B s) {i : Nat} {o : Oper} (h : Rdy ops D i o) {t : Array Value} (ht : TmpI ops s D E t) {x : Tmp} (hx : x ∈ looksT ops o) : VR E (evS (s i).st.tr (.tmp x)) (t.getD x undef) := by
  obtain ⟨j, hj, hv, hno, hlast⟩ := ht x
  have hi := (Array.getElem?_eq_some_iff.1 h.ho).1
  by_cases hji : j ≤ i
  · rw [hr.same hji (by omega) fun q oq hq1 hq2 hoq hd => ?_]
    · exact hv
    · rcases hr.apart q i oq o hq2 hoq h.ho with hb | ⟨hm, _⟩
      · exact hno q oq hq1 hoq (hr.rdy h hb) hd
      · rw [hd, memN_true hx] at hm; cases hm
  · rcases hlast with rfl | ⟨q, oq, rfl, hoq, hDq, hd⟩
    · omega
    · have hne : q ≠ i := fun e => h.no (e ▸ hDq)
      rcases hr.apart i q o oq (by omega) h.ho hoq with hb | ⟨_, hm, _⟩
      · exact absurd hb (hr.notBit h hoq hDq)
      · rw [hd, memN_true hx] at hm; cases hm
theorem Rn.tmpPut (hr : Rn H P G ih ops B s) {i : Nat} {o : Oper} (h : Rdy ops D i o) {a : Act} (ht : TmpI ops s D E a.tmps) (hE : E.le E') {v v' : Value} (hv : VR E' v v') (htr : (s (i + 1)).st.tr = putT (s i).st.tr o.dst v)
    (hlt : ∀ x, o.dst = some x → x < a.tmps.size) : TmpI ops s (fun q => D q ∨ q = i) E' (a.put o.dst v').tmps := by
  have hi := (Array.getElem?_eq_some_iff.1 h.ho).1
  intro x
  by_cases hx : o.dst = some x
  · refine ⟨i + 1, hi, ?_, fun q oq hq hoq hD hd => ?_, .inr ⟨i, o, rfl, h.ho, .inr rfl, hx⟩⟩
    · rw [htr, hx, evS_putT_same]
      have := hlt x hx
      simpa [Act.put, this] using hv
    · rcases hD with hD | rfl
      · rcases hr.apart i q o oq (by omega) h.ho hoq with hb | ⟨_, _, hm⟩
        · exact hr.notBit h hoq hD hb
        · rw [hx, hd] at hm
          have : sameD (some x) (some x) = true := Nat.beq_refl x
          rw [this] at hm; cases hm
      · omega
  · obtain ⟨j, hj, hv', hno, hlast⟩ := ht x
    refine ⟨j, hj, ?_, fun q oq hq hoq hD hd => ?_, hlast.imp id fun ⟨q, oq, h1, h2, h3, h4⟩ => ⟨q, oq, h1, h2, .inl h3, h4⟩⟩
    · have : (a.put o.dst v').tmps.getD x undef = a.tmps.getD x undef := by
        cases hd : o.dst with
        | none => rfl
        | some d =>
          have hne : d ≠ x := fun e => hx (by rw [hd, e])
          simp only [Act.put, Array.getD_eq_getD_getElem?]
          rw [Array.getElem?_setIfInBounds_ne hne]
      rw [this]
      exact hv'.mono hE
    · rcases hD with hD | rfl
      · exact hno q oq hq hoq hD hd
      · rw [h.ho] at hoq; cases hoq
        exact hx hd
theorem yieldS_ok1 {tr : Tr Value} {t : Array Value} (j : Nat) (ht : ∀ x d, ops[j]? = some x → x.dst = some d → VR E (evS tr (.tmp d)) (t.getD d undef)) : yielded ops t j = yieldS ops tr j := by
  unfold yielded yieldS
  cases ho : ops[j]? with
  | none => rfl
  | some o =>
    simp only [Option.bind_some]
    cases hdd : o.dst with
    | none => rfl
    | some d =>
      have hd := ht o d ho hdd
      simp only [Option.bind_some]
      rw [Array.getD_eq_getD_getElem?] at hd
      cases hx : t[d]? with
      | none =>
        rw [hx] at hd
        generalize evS tr (.tmp d) = x at hd
        simp only
        have hu : (none : Option Value).getD undef = .tuple #[] := rfl
        rw [hu] at hd
        cases hd
        rfl
      | some y =>
        rw [hx] at hd
        simp only [Option.getD_some] at hd ⊢
        generalize evS tr (.tmp d) = x at hd
        cases hd <;> rfl
theorem Rn.want (hr : Rn H P G ih ops B s) {i : Nat} {o : Oper} (h : Rdy ops D i o) {t : Array Value} (ht : TmpI ops s D E t) : Region.wanted o (yielded ops t) = wantS ops (s i).st.tr o := by
  have hL := fun x => hr.tmpAt h ht (x := x)
  unfold looksT at hL
  unfold Region.wanted wantS
  cases hg : o.guard with
  | none => rfl
  | some p =>
    obtain ⟨j, want⟩ := p
    rw [hg] at hL
    simp only at hL ⊢
    rw [yieldS_ok1 (E := E) (tr := (s i).st.tr) j fun x d hx hd => hL d (by rw [hx]; simp [hd])]
    cases yieldS ops (s i).st.tr j with
    | none => rfl
    | some b => cases b <;> cases want <;> rfl
theorem Rn.args (hr : Rn H P G ih ops B s) {i : Nat} {o : Oper} (h : Rdy ops D i o) {S : SW} (hs : Sat G F' W E S w) (ht : TmpI ops s D E a.tmps) : ∀ x ∈ opL o.op, okX G x = true → VR E (evS (s i).st.tr x) (a.eval x) := by
  intro x hx hok
  have hleaf : TR E .leaf #[] := fun t => by rw [evS_tmp]; exact VR.undef
  have hev := ev_ok hs (tr := .leaf) (a := { tmps := #[], defers := [] }) hleaf hok
  cases x with
  | tmp t =>
    refine hr.tmpAt h ht (List.mem_append.2 (.inl ?_))
    unfold tmpsOf
    exact List.mem_filterMap.2 ⟨_, hx, rfl⟩
  | const v => exact hev
  | global g => exact hev
  | func f => exact hev
end
end Go.Proofs.YtbjecfbfcpiilaaGreatDoor
namespace Go.Proofs.YtbjecfbfcpiilaaGreatDoor
open Go

section
variable {H : List HookE} {P : Program} {G : Nat} {ih : Run} {ops : Array Oper} {B : Nat → Nat} {s : Nat → DS} {F F' : Nat → Option Obj} {W : World} {E0 E E' : Env} {D : Nat → Prop} {a : Act} {w w' : World} {c : Nat}
/-- What is known of the run. -/
structure Run0 (H : List HookE) (P : Program) (G : Nat) (ih : Run) (ops : Array Oper) (B : Nat → Nat) (s : Nat → DS) : Prop where
  run : Rn H P G ih ops B s
  lays : (s 0).lays = []
  inc : (s 0).inc = 0
  lim : (s 0).nx ≤ (s 0).lim
theorem Run0.mem (h : Run0 H P G ih ops B s) : ∀ l ∈ (s ops.size).lays, l.j < ops.size ∧ (s 0).nx ≤ l.id ∧ l.id < (s 0).lim := fun l hl => let ⟨a, b, _, d⟩ := (h.run.lay h.lays (Nat.le_refl _)).1 l hl; ⟨a, b, d⟩
theorem Run0.pair (h : Run0 H P G ih ops B s) {j : Nat} (hj : j ≤ ops.size) : (s j).lays.Pairwise (fun a b => a.j ≠ b.j ∧ a.id ≠ b.id) := (h.run.lay h.lays hj).2.1
theorem Run0.noLay (h : Run0 H P G ih ops B s) {i : Nat} {o : Oper} (ho : ops[i]? = some o) (hl : (s (i + 1)).lays = (s i).lays) : ∀ l ∈ (s ops.size).lays, l.j ≠ i := fun l hm he => by
  have hi := (Array.getElem?_eq_some_iff.1 ho).1
  have h1 := h.run.layBack (i := i + 1) (by omega) (Nat.le_refl _) l hm (by omega)
  rw [hl] at h1
  have := ((h.run.lay h.lays (by omega : i ≤ ops.size)).1 l h1).1
  omega
theorem Inv.le (h : Inv ops s G F W E0 D a w E F' c) (hE : Ext (s c).st.S.n E E') : E.le E' := h.sat.le hE
theorem Inv.ids (h0 : Run0 H P G ih ops B s) (h : Inv ops s G F W E0 D a w E F' c) (hE : Ext (s c).st.S.n E E') : ∀ l ∈ (s ops.size).lays, E' l.id = E l.id := fun l hl => hE _ (Nat.lt_of_lt_of_le (h0.mem l hl).2.2 h.big)
/-- Behind an operation that does nothing to the world. -/
theorem Inv.calm (h0 : Run0 H P G ih ops B s) (h : Inv ops s G F W E0 D a w E F' c) {i : Nat} {o : Oper} (hy : Rdy ops D i o) (hlo : ¬ Lo ops s i o) (hl : (s (i + 1)).lays = (s i).lays) {F2 : Nat → Option Obj} (hE : Ext (s c).st.S.n E E')
    (hs : Sat G F2 W E' (s c).st.S w') (ho : Out F F2 E' w' (s ops.size).lays (fun j => D j ∧ (s c).inc.testBit j = false)) {v v' : Value} (hv : VR E' v v') (htr : (s (i + 1)).st.tr = putT (s i).st.tr o.dst v) (hlt : ∀ x, o.dst = some x → x < (s i).st.nt) :
    Inv ops s G F W E0 (fun q => D q ∨ q = i) (a.put o.dst v') w' E' F2 c := by
  have hi := (Array.getElem?_eq_some_iff.1 hy.ho).1
  have hnt := (h0.run.const (by omega : i ≤ ops.size)).1
  refine ⟨h.hc, fun q oq hq hoq hL => .inl (h.lo q oq hq hoq hL), fun q oq hq hoq hL hD => ?_, hs, h.ext.trans hE (Nat.le_trans h0.lim h.big), h.big, h0.run.tmpPut hy h.tmp (h.le hE) hv htr (fun x hx => ?_), ?_, ?_, ?_, fun l hm hn => ?_, fun j hj => .inl (h.inc j hj)⟩
  · rcases hD with hD | rfl
    · exact h.hi q oq hq hoq hL hD
    · rw [hy.ho] at hoq; cases hoq
      exact hlo hL
  · rw [h.size, ← hnt]; exact hlt x hx
  · rw [put_size]; exact h.size
  · rw [put_defers]; exact h.ds.mono fun _ _ hd => hd.mono (h.le hE)
  · refine ho.mono fun l hm hx => ⟨hx.1.resolve_right (h0.noLay hy.ho hl l hm), hx.2⟩
  · rw [h.ids h0 hE l hm]
    exact h.new l hm fun hD => hn (.inl hD)
theorem Sat.layOut {S : SW} (h : Sat G F' W E S w) {id : Nat} (hid : id < S.n) (hn : E id = none) (obj : Obj) (e : Ent) : Sat G (fun b => if b = w.heap.size then some obj else F' b) W (E.put id e) S (w.alloc obj) := by
  have hle : E.le (E.put id e) := Env.put_le hn _
  have hold : ∀ k, k < w.heap.size → (w.alloc obj).heap[k]? = w.heap[k]? := fun k hk => by
    show (w.heap.push obj)[k]? = _
    rw [Array.getElem?_push, if_neg (by omega)]
  have key : ∀ i o, S.h.get i = some o → ∃ e1, E i = some e1 ∧ E.put id e i = some e1 ∧ ObjR E w e1 o := fun i o hi => let ⟨e1, he, ho⟩ := h.obj i o hi; ⟨e1, he, hle _ _ he, ho⟩
  refine ⟨fun i hi => ?_, fun g hg => ?_, fun i o hi => ?_, fun i j o o' e1 e2 hi hj h1 h2 => ?_, fun i o e1 hi h1 => ?_, fun k o hk => ?_, ?_, h.os, h.tape, h.output⟩
  · unfold Env.put
    rw [if_neg (by omega)]
    exact h.new i hi
  · obtain ⟨e1, he, h1, h2⟩ := h.glob g hg
    exact ⟨e1, hle _ _ he, h1, h2⟩
  · obtain ⟨e1, he, he', ho⟩ := key i o hi
    exact ⟨e1, he', ho.mono hle (hold _ ho.lt)⟩
  · obtain ⟨f1, k1, k2, _⟩ := key i o hi
    obtain ⟨f2, k3, k4, _⟩ := key j o' hj
    rw [k2] at h1; cases h1
    rw [k4] at h2; cases h2
    exact h.inj i j o o' _ _ hi hj k1 k3
  · obtain ⟨f1, k1, k2, k3⟩ := key i o hi
    rw [k2] at h1; cases h1
    have := k3.lt
    simp only [show e1.b ≠ w.heap.size by omega, if_false]
    exact h.own i o _ hi k1
  · by_cases hb : k = w.heap.size
    · subst hb
      simp only [if_true] at hk
      cases hk
      show (w.heap.push obj)[w.heap.size]? = _
      simp
    · simp only [if_neg hb] at hk
      have h1 := h.far k o hk
      rw [hold k (Array.getElem?_eq_some_iff.1 h1).1]
      exact h1
  · show W.heap.size ≤ (w.heap.push obj).size
    have := h.size
    simp
    omega
/-- Behind an operation that lays. -/
theorem Inv.laid (h0 : Run0 H P G ih ops B s) (h : Inv ops s G F W E0 D a w E F' c) {i : Nat} {o : Oper} (hy : Rdy ops D i o) (hlo : ¬ Lo ops s i o) {so : SObj} (hl : (s (i + 1)).lays = ⟨i, (s i).nx, so⟩ :: (s i).lays) {v : Value} {obj : Obj} {k : Nat} {mk : Nat → Value}
    (h2 : ∀ (E' : Env) b, E' (s i).nx = some ⟨b, 0, k⟩ → VR E' v (mk b)) (h3 : ∀ (E' : Env) w b, E.le E' → w.heap[b]? = some obj → ObjR E' w ⟨b, 0, k⟩ so) (htr : (s (i + 1)).st.tr = putT (s i).st.tr o.dst v) (hlt : ∀ x, o.dst = some x → x < (s i).st.nt) :
    ∃ E' F2, Inv ops s G F W E0 (fun q => D q ∨ q = i) (a.put o.dst (mk w.heap.size)) (w.alloc obj) E' F2 c := by
  have hi := (Array.getElem?_eq_some_iff.1 hy.ho).1
  have hnt := (h0.run.const (by omega : i ≤ ops.size)).1
  have hmem : (⟨i, (s i).nx, so⟩ : Lay) ∈ (s ops.size).lays := h0.run.laysMono (i := i + 1) (by omega) (Nat.le_refl _) _ (by rw [hl]; exact List.mem_cons_self)
  obtain ⟨_, hid1, hid2⟩ := h0.mem _ hmem
  have hid2' : (s i).nx < (s c).st.S.n := Nat.lt_of_lt_of_le hid2 h.big
  have hnone : E (s i).nx = none := h.new _ hmem hy.no
  have hle : E.le (E.put (s i).nx ⟨w.heap.size, 0, k⟩) := Env.put_le hnone _
  have hput : E.put (s i).nx ⟨w.heap.size, 0, k⟩ (s i).nx = some ⟨w.heap.size, 0, k⟩ := Env.put_same _ _ _
  have hoth : ∀ l ∈ (s ops.size).lays, l.j ≠ i → E.put (s i).nx ⟨w.heap.size, 0, k⟩ l.id = E l.id := fun l hm hne => by
    unfold Env.put
    rw [if_neg fun e => hne (congrArg Lay.j (pair_uniq (h0.pair (Nat.le_refl _)) l hm _ hmem (.inr e)))]
  have hthis : ∀ l ∈ (s ops.size).lays, l.j = i → l = ⟨i, (s i).nx, so⟩ := fun l hm he => pair_uniq (h0.pair (Nat.le_refl _)) l hm _ hmem (.inl he)
  have hnew : (w.alloc obj).heap[w.heap.size]? = some obj := World.alloc_heap_new w obj
  have hfree : F w.heap.size = none := by
    cases hf : F w.heap.size with
    | none => rfl
    | some x =>
      have := h.out.sub _ _ hf
      rw [h.sat.free_new] at this
      cases this
  have hs2 := h.sat.layOut hid2' hnone obj ⟨w.heap.size, 0, k⟩
  refine ⟨_, _, h.hc, fun q oq hq hoq hL => .inl (h.lo q oq hq hoq hL), fun q oq hq hoq hL hD => ?_, hs2, h.ext.trans (m := (s 0).nx) (fun x hx => ?_) (Nat.le_refl _), h.big, h0.run.tmpPut hy h.tmp hle (h2 _ _ hput) htr (fun x hx => ?_), ?_, ?_, ?_, fun l hm hn => ?_, fun j hj => .inl (h.inc j hj)⟩
  · rcases hD with hD | rfl
    · exact h.hi q oq hq hoq hL hD
    · rw [hy.ho] at hoq; cases hoq
      exact hlo hL
  · unfold Env.put
    rw [if_neg (by have : x < (s i).nx := Nat.lt_of_lt_of_le hx hid1; omega)]
  · rw [h.size, ← hnt]; exact hlt x hx
  · rw [put_size]; exact h.size
  · rw [put_defers]; exact h.ds.mono fun _ _ hd => hd.mono hle
  · refine ⟨fun b x hx => ?_, fun l hm hx => ?_, fun l hm l' hm' hx hx' e e' he he' hb => ?_⟩
    · have hlt := (Array.getElem?_eq_some_iff.1 (h.sat.far _ _ (h.out.sub b x hx))).1
      simp only [show b ≠ w.heap.size by omega, if_false]
      exact h.out.sub b x hx
    · by_cases hj : l.j = i
      · have := hthis l hm hj
        subst this
        exact ⟨_, hput, h3 _ _ _ hle hnew, by simp, hfree⟩
      · obtain ⟨e, he, hobj, hf, hn⟩ := h.out.out l hm ⟨hx.1.resolve_right hj, hx.2⟩
        have hlt := hobj.lt
        refine ⟨e, by rw [hoth l hm hj]; exact he, hobj.mono hle ?_, ?_, hn⟩
        · show (w.heap.push obj)[e.b]? = _
          rw [Array.getElem?_push, if_neg (by omega)]
        · simp only [show e.b ≠ w.heap.size by omega, if_false]
          exact hf
    · by_cases hj : l.j = i
      · by_cases hj' : l'.j = i
        · rw [hj, hj']
        · obtain ⟨e1, he1, hobj, _⟩ := h.out.out l' hm' ⟨hx'.1.resolve_right hj', hx'.2⟩
          rw [hoth l' hm' hj', he1] at he'; cases he'
          rw [hthis l hm hj, hput] at he; cases he
          have := hobj.lt
          simp only at hb
          omega
      · obtain ⟨e1, he1, hobj, _⟩ := h.out.out l hm ⟨hx.1.resolve_right hj, hx.2⟩
        rw [hoth l hm hj] at he
        by_cases hj' : l'.j = i
        · rw [he1] at he; cases he
          rw [hthis l' hm' hj', hput] at he'; cases he'
          have := hobj.lt
          simp only at hb
          omega
        · rw [hoth l' hm' hj'] at he'
          exact h.out.inj l hm l' hm' ⟨hx.1.resolve_right hj, hx.2⟩ ⟨hx'.1.resolve_right hj', hx'.2⟩ e e' he he' hb
  · rw [hoth l hm fun e => hn (.inr e)]
    exact h.new l hm fun hD => hn (.inl hD)
theorem notDefer {o : Oper} (hk : kindO o.op ≠ .loud) : isDefer o.op = false := by
  cases ho : o.op <;> first | rfl | (rw [ho] at hk; exact absurd rfl hk)
/-- What a look sees now. -/
theorem Inv.seen (h0 : Run0 H P G ih ops B s) (h : Inv ops s G F W E0 D a w E F' c) {i : Nat} {o : Oper} (hy : Rdy ops D i o) (hlo : ¬ Lo ops s i o) {v : Value} (hs : lookAt P G (s i).lays ⟨i, o, B i, looksT ops o⟩ (s i).st.tr (s i).now = some v)
    (hb : backOk P G (s i).lays ⟨⟨i, o, B i, looksT ops o⟩, (s i).st.tr, v⟩ (s i).hist = true) (hlk : ⟨⟨i, o, B i, looksT ops o⟩, (s i).st.tr, v⟩ ∈ (s (i + 1)).looks) (heq : ∀ u, valEq PD u v = true → u = v) :
    ∃ q, q ≤ ops.size ∧ lookAt P G (s q).lays ⟨i, o, B i, looksT ops o⟩ (s i).st.tr (s c).now = some v := by
  have hi := (Array.getElem?_eq_some_iff.1 hy.ho).1
  have hsee : ∀ lays g, sees P G lays ⟨⟨i, o, B i, looksT ops o⟩, (s i).st.tr, v⟩ g = true → lookAt P G lays ⟨i, o, B i, looksT ops o⟩ (s i).st.tr g = some v := fun lays g hg => by
    unfold sees at hg
    split at hg
    · rename_i u hu
      rw [hu, heq u hg]
    · cases hg
  by_cases hci : c ≤ i
  · refine ⟨i, by omega, ?_⟩
    have hbk := (h0.run.back (by omega) hb (i - c) c (by omega) fun q oq hq1 hq2 hoq hL => Bool.eq_false_iff.2 fun hbit => h.hi q oq hq1 hoq hL (h0.run.rdy hy hbit)).1
    rcases hbk with h1 | h1
    · rw [h1]; exact hs
    · exact hsee _ _ h1
  · have key := h0.run.go (i := i + 1) (fun m => m ≤ c → (s m).now = (s i).now ∨ ∃ q, q ≤ ops.size ∧ sees P G (s q).lays ⟨⟨i, o, B i, looksT ops o⟩, (s i).st.tr, v⟩ (s m).now = true) (fun _ => .inl ?_) (fun q oq hq hoq hst h1 hqc => ?_) c (by omega) h.hc (Nat.le_refl _)
    · rcases key with h1 | ⟨q, hq, h1⟩
      · exact ⟨i, by omega, by rw [h1]; exact hs⟩
      · exact ⟨q, hq, hsee _ _ h1⟩
    · obtain ⟨k1, _, k3, _⟩ := h0.run.calm (i := i) (j := i + 1) (by omega) (by omega) fun q oq hq1 hq2 hoq hL => by
        have : q = i := by omega
        subst this
        rw [hy.ho] at hoq; cases hoq
        exact hlo hL
      unfold DS.now
      rw [k1, k3]
    · by_cases hL : Lo ops s q oq
      · have hD := h.lo q oq (by omega) hoq hL
        have hnb := h0.run.notBit hy hoq hD
        cases hst with
        | skip hw => have := hL.1; rw [hw] at this; cases this
        | free v S' hw hk => have := hL.2; rw [hk] at this; cases this
        | look v hw hk => have := hL.2; rw [hk] at this; cases this
        | lay v obj hw hk => have := hL.2; rw [hk] at this; cases this
        | loud st' hw hk hh hs' hl' he =>
          have := (allL_iff _ _).1 hl' _ (h0.run.looksMono (i := i + 1) (j := q) hq (by have := (Array.getElem?_eq_some_iff.1 hoq).1; omega) _ hlk)
          rw [Bool.or_eq_true] at this
          rcases this with h2 | h2
          · exact absurd h2 hnb
          · refine .inr ⟨q, by have := (Array.getElem?_eq_some_iff.1 hoq).1; omega, ?_⟩
            rw [he]
            exact h2
      · obtain ⟨k1, _, k3, _⟩ := hst.calm hL
        have hnow : (s (q + 1)).now = (s q).now := by unfold DS.now; rw [k1, k3]
        rw [hnow]
        exact h1 (by omega)
end
end Go.Proofs.YtbjecfbfcpiilaaGreatDoor

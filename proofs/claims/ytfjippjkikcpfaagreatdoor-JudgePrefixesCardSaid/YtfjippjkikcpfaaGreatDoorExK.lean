/- The executor: drawn regions: operations that leave the world as it is; what is laid and not taken in. -/
import Derived.Test.YtfjippjkikcpfaaGreatDoorExJ
namespace Go.Proofs.YtfjippjkikcpfaaGreatDoor
open Go

section
variable {P : Program} {G : Nat}
def Stays (P : Program) (ρ : Operand → Value) (o : Oper) : Prop := ∀ S x S', opS P S ρ o = some (x, S') → S' = S
def Blind (P : Program) (ρ : Operand → Value) (o : Oper) : Prop := ∀ S S2, (opS P S2 ρ o) = (opS P S ρ o).map (fun x => (x.1, S2))
theorem valS_stays {S S' : SW} {v : Option Value} {x : ONext} (h : valS S v = some (x, S')) : S' = S := by cases v <;> cases h; rfl
theorem boolV_stays {S S' : SW} {v : Option Bool} {x : ONext} (h : boolV S v = some (x, S')) : S' = S := by cases v <;> cases h; rfl
theorem valS_blind (S S2 : SW) (v : Option Value) : valS S2 v = (valS S v).map (fun x => (x.1, S2)) := by cases v <;> rfl
theorem free_blind {ρ : Operand → Value} {o : Oper} (hk : kindO o.op = .free) : Blind P ρ o := by
  intro S S2
  unfold opS
  cases ho : o.op with
  | move x => rfl
  | assign x => rfl
  | pick c a b =>
    show opPick c a b P S2 ρ o = (opPick c a b P S ρ o).map _
    unfold opPick
    split <;> rfl
  | nilCheck x =>
    show opNilCheck x P S2 ρ o = (opNilCheck x P S ρ o).map _
    unfold opNilCheck
    split <;> rfl
  | unOp => rfl
  | makeInterface t x =>
    show opIface t x P S2 ρ o = (opIface t x P S ρ o).map _
    unfold opIface
    split
    · split <;> rfl
    · rfl
  | makeFunc f a b =>
    show opFunc f a b P S2 ρ o = (opFunc f a b P S ρ o).map _
    unfold opFunc
    cases isYield f <;> rfl
  | slice t x lo hi mx => exact valS_blind _ _ _
  | fieldAddr t x f => exact valS_blind _ _ _
  | field t x f => exact valS_blind _ _ _
  | indexAddr t x f => exact valS_blind _ _ _
  | index t x f => exact valS_blind _ _ _
  | extract t i =>
    show opExtract t i P S2 ρ o = (opExtract t i P S ρ o).map _
    unfold opExtract
    split
    · exact valS_blind _ _ _
    · rfl
  | typeAssert x t a ok => exact valS_blind _ _ _
  | build t ps => exact valS_blind _ _ _
  | binOp op t x y z =>
    rw [ho] at hk
    show opBin op t x y P S2 ρ o = (opBin op t x y P S ρ o).map _
    unfold opBin
    split
    · rfl
    · cases op <;> first | rfl | cases hk
  | call c =>
    rw [ho] at hk
    show callS P S2 ρ c = (callS P S ρ c).map _
    have hk' : kindC c = .free := hk
    unfold kindC at hk'
    split at hk' <;> first | cases hk' | skip
    · rename_i hc
      unfold callS
      simp only [hc]
      cases c.args.toList.map ρ with
      | nil => rfl
      | cons x l => cases l with
        | nil => show (match capBS P c.argTypes.toList x with | some v => some (ONext.val v, S2) | none => none) = (match capBS P c.argTypes.toList x with | some v => some (ONext.val v, S) | none => none).map _
                 cases capBS P c.argTypes.toList x <;> rfl
        | cons y l => rfl
    · rename_i hc
      unfold callS
      simp only [hc]
      cases c.args.toList.map ρ with
      | nil => rfl
      | cons x l => cases l with
        | nil => rfl
        | cons y l => cases l <;> rfl
    · rename_i hc
      unfold callS
      simp only [hc]
      cases c.args.toList.map ρ with
      | nil => rfl
      | cons x l => cases l with
        | nil => rfl
        | cons y l => cases l <;> rfl
  | _ => rw [ho] at hk; cases hk
theorem look_stays {ρ : Operand → Value} {o : Oper} (hk : kindO o.op = .look) : Stays P ρ o := by
  intro S x S' h
  unfold opS at h
  cases ho : o.op with
  | load t a =>
    rw [ho] at h
    have h' : opLoad t a P S ρ o = some (x, S') := h
    unfold opLoad at h'
    split at h'
    · exact valS_stays h'
    · cases h'
  | lookup t m k ok => rw [ho] at h; exact valS_stays h
  | binOp op t y z b =>
    rw [ho] at h
    have h' : opBin op t y z P S ρ o = some (x, S') := h
    unfold opBin at h'
    split at h'
    · cases h'; rfl
    · unfold opEq at h'
      split at h'
      · exact boolV_stays h'
      · exact boolV_stays h'
      · cases h'
  | call c =>
    rw [ho] at hk h
    have hk' : kindC c = .look := hk
    have h' : callS P S ρ c = some (x, S') := h
    unfold kindC at hk'
    split at hk' <;> first | cases hk' | skip
    rename_i hc
    unfold callS at h'
    simp only [hc] at h'
    generalize c.args.toList.map ρ = l at h'
    cases l with
    | nil => cases h'
    | cons y l => cases l with
      | nil =>
        have h2 : (match lenBS P S c.argTypes.toList y with | some v => some (ONext.val v, S) | none => none) = some (x, S') := h'
        cases hl : lenBS P S c.argTypes.toList y with
        | none => rw [hl] at h2; cases h2
        | some v => rw [hl] at h2; cases h2; rfl
      | cons z l => cases l <;> cases h'
  | _ => rw [ho] at hk; cases hk
theorem plainS_stays {S S' : SW} {ρ : Operand → Value} {o : Oper} {x : ONext} (h : plainS P S ρ o = some (x, S')) : S' = S := by
  unfold plainS at h
  cases hp : allL (fun x => plainV PD (ρ x)) (opL o.op) with
  | false => rw [hp] at h; cases h
  | true =>
    rw [hp, cond_true] at h
    split at h
    · cases h; rfl
    · cases h
theorem look_step {S S' : SW} {tr : Tr Value} {o : Oper} (hk : kindO o.op = .look) {x : ONext} (h : stepS P G S tr o = some (x, S')) : S' = S := by
  unfold stepS at h
  cases hok : allL (okX G) (opL o.op) with
  | false => rw [hok] at h; cases h
  | true =>
    rw [hok] at h
    cases ho : opS P S (evS tr) o with
    | some y =>
      rw [ho] at h
      cases (show some y = some (x, S') from h)
      exact look_stays hk _ _ _ ho
    | none =>
      rw [ho] at h
      exact plainS_stays (show plainS P S (evS tr) o = some (x, S') from h)
theorem free_step {S S' : SW} {tr : Tr Value} {o : Oper} (hk : kindO o.op = .free) {x : ONext} (h : stepS P G S tr o = some (x, S')) (S2 : SW) : stepS P G S2 tr o = some (x, S2) := by
  unfold stepS at h ⊢
  cases hok : allL (okX G) (opL o.op) with
  | false => rw [hok] at h; cases h
  | true =>
    rw [hok] at h
    have hb := free_blind (P := P) (ρ := evS tr) hk S S2
    cases ho : opS P S (evS tr) o with
    | some y =>
      rw [ho] at h hb
      cases (show some y = some (x, S') from h)
      rw [hb]
      rfl
    | none =>
      rw [ho] at h hb
      rw [hb]
      have h' : plainS P S (evS tr) o = some (x, S') := h
      show plainS P S2 (evS tr) o = some (x, S2)
      unfold plainS at h' ⊢
      cases hp : allL (fun x => plainV PD (evS tr x)) (opL o.op) with
      | false => rw [hp] at h'; cases h'
      | true =>
        rw [hp, cond_true] at h'
        rw [cond_true]
        split at h'
        · rename_i y hy
          cases h'
          rfl
        · cases h'

/-! ### What is laid and not taken in -/
variable {F F' : Nat → Option Obj} {W : World} {E E' : Env} {S S' : SW} {w w' : World}
/-- X: laid and not taken in. -/
structure Out (F F' : Nat → Option Obj) (E : Env) (w : World) (lays : List Lay) (X : Nat → Prop) : Prop where
  sub : ∀ k o, F k = some o → F' k = some o
  out : ∀ l ∈ lays, X l.j → ∃ e, E l.id = some e ∧ ObjR E w e l.obj ∧ (F' e.b).isSome = true ∧ F e.b = none
  inj : ∀ l ∈ lays, ∀ l' ∈ lays, X l.j → X l'.j → ∀ e e', E l.id = some e → E l'.id = some e' → e.b = e'.b → l.j = l'.j
theorem Out.mono {lays : List Lay} {X Y : Nat → Prop} (h : Out F F' E w lays X) (hY : ∀ l ∈ lays, Y l.j → X l.j) : Out F F' E w lays Y :=
  ⟨h.sub, fun l hl hx => h.out l hl (hY l hl hx), fun l hl l' hl' hx hx' => h.inj l hl l' hl' (hY l hl hx) (hY l' hl' hx')⟩
/-- Another world, the same blocks. -/
theorem Out.move {lays : List Lay} {X : Nat → Prop} (h : Out F F' E w lays X) (hs : Sat G F' W E S w) (hs' : Sat G F' W E' S' w') (hE : E.le E') (hid : ∀ l ∈ lays, E' l.id = E l.id) : Out F F' E' w' lays X := by
  refine ⟨h.sub, fun l hl hx => ?_, fun l hl l' hl' hx hx' e e' he he' => h.inj l hl l' hl' hx hx' e e' (by rw [← hid l hl]; exact he) (by rw [← hid l' hl']; exact he')⟩
  obtain ⟨e, he, ho, hf, hn⟩ := h.out l hl hx
  obtain ⟨o, hfo⟩ := Option.isSome_iff_exists.1 hf
  exact ⟨e, by rw [hid l hl]; exact he, ho.mono hE ((hs'.far _ _ hfo).trans (hs.far _ _ hfo).symm), hf, hn⟩
theorem Sat.weaken (h : Sat G F' W E S w) (hsub : ∀ k o, F k = some o → F' k = some o) : Sat G F W E S w :=
  ⟨h.new, h.glob, h.obj, h.inj, fun i o e hi he => (by
    have := h.own i o e hi he
    cases hf : F e.b with
    | none => rfl
    | some x => rw [hsub _ _ hf] at this; cases this), fun k o hk => h.far k o (hsub k o hk), h.size, h.os, h.tape, h.output⟩
/-- One taken in. -/
theorem Sat.incl1 (h : Sat G F' W E S w) {i : Nat} {e : Ent} {so : SObj} (he : E i = some e) (ho : ObjR E w e so) (hf : (F' e.b).isSome = true) : Sat G (fun k => if k = e.b then none else F' k) W E (S.set i so) w := by
  refine ⟨fun j hj => h.new j (by rw [SW.set_n] at hj; exact hj), h.glob, fun j o hj => ?_, fun j k o o' e1 e2 hj hk h1 h2 hb => ?_, fun j o e1 hj h1 => ?_, fun k o hk => ?_, h.size, h.os, h.tape, h.output⟩
  · rw [SW.set_get] at hj
    split at hj
    · cases hj; subst j; exact ⟨e, he, ho⟩
    · exact h.obj j o hj
  · have key : ∀ j o e1, S.h.get j = some o → E j = some e1 → e1.b ≠ e.b := fun j o e1 hj h1 hb => by
      have := h.own j o e1 hj h1
      rw [hb] at this
      rw [this] at hf
      cases hf
    rw [SW.set_get] at hj hk
    by_cases hji : j = i
    · by_cases hki : k = i
      · rw [hji, hki]
      · rw [if_neg hki] at hk
        subst hji
        rw [he] at h1; cases h1
        exact absurd hb.symm (key k o' e2 hk h2)
    · rw [if_neg hji] at hj
      by_cases hki : k = i
      · subst hki
        rw [he] at h2; cases h2
        exact absurd hb (key j o e1 hj h1)
      · rw [if_neg hki] at hk
        exact h.inj j k o o' e1 e2 hj hk h1 h2 hb
  · rw [SW.set_get] at hj
    by_cases hb : e1.b = e.b
    · simp [hb]
    · simp only [if_neg hb]
      by_cases hji : j = i
      · subst hji
        rw [he] at h1; cases h1
        exact absurd rfl hb
      · rw [if_neg hji] at hj
        exact h.own j o e1 hj h1
  · by_cases hb : k = e.b
    · simp [hb] at hk
    · simp only [if_neg hb] at hk
      exact h.far k o hk
def Now (ls : List Lay) (B inc : Nat) (j : Nat) : Prop := ∃ l ∈ ls, l.j = j ∧ layNow B inc l = true
/-- Some taken in. -/
theorem incl {lays : List Lay} {X : Nat → Prop} {B inc : Nat} (h : Sat G F' W E S w) (ho : Out F F' E w lays X) : ∀ ls : List Lay, (∀ l ∈ ls, l ∈ lays) → ls.Pairwise (fun a b => a.j ≠ b.j ∧ a.id ≠ b.id) → (∀ l ∈ ls, layNow B inc l = true → X l.j) →
    ∃ F1, Sat G F1 W E (addLays ls B inc S) w ∧ Out F F1 E w lays (fun j => X j ∧ ¬ Now ls B inc j) ∧ ∀ k, (F1 k).isSome = true → (F' k).isSome = true
  | [], _, _, _ => ⟨F', h, ho.mono fun _ _ hx => hx.1, fun _ hk => hk⟩
  | l :: ls, hsub, hp, hX => by
    obtain ⟨F1, h1, h2, h5⟩ := incl (B := B) (inc := inc) h ho ls (fun x hx => hsub x (List.mem_cons_of_mem _ hx)) (List.pairwise_cons.1 hp).2 (fun x hx => hX x (List.mem_cons_of_mem _ hx))
    have hadd : addLays (l :: ls) B inc S = bif layNow B inc l then (addLays ls B inc S).set l.id l.obj else addLays ls B inc S := rfl
    cases hb : layNow B inc l with
    | false =>
      rw [hadd, hb, cond_false]
      refine ⟨F1, h1, h2.mono fun x hx hY => ⟨hY.1, fun hn => hY.2 ?_⟩, h5⟩
      obtain ⟨y, hy, h3, h4⟩ := hn
      exact ⟨y, List.mem_cons_of_mem _ hy, h3, h4⟩
    | true =>
      rw [hadd, hb, cond_true]
      have hlive : X l.j ∧ ¬ Now ls B inc l.j := ⟨hX l List.mem_cons_self hb, fun ⟨y, hy, h3, _⟩ => ((List.pairwise_cons.1 hp).1 y hy).1 h3.symm⟩
      obtain ⟨e, he, hobj, hf, hn⟩ := h2.out l (hsub l List.mem_cons_self) hlive
      refine ⟨_, h1.incl1 he hobj hf, ⟨fun k o hk => ?_, fun x hx hY => ?_, fun x hx y hy hX' hY' => ?_⟩, fun k hk => ?_⟩
      · have : k ≠ e.b := fun hc => by rw [hc, hn] at hk; cases hk
        simp only [if_neg this]
        exact h2.sub k o hk
      · have hY' : X x.j ∧ ¬ Now ls B inc x.j := ⟨hY.1, fun ⟨y, hy, h3, h4⟩ => hY.2 ⟨y, List.mem_cons_of_mem _ hy, h3, h4⟩⟩
        obtain ⟨e1, he1, ho1, hf1, hn1⟩ := h2.out x hx hY'
        refine ⟨e1, he1, ho1, ?_, hn1⟩
        have : e1.b ≠ e.b := fun hc => hY.2 ⟨l, List.mem_cons_self, (h2.inj x hx l (hsub l List.mem_cons_self) hY' hlive e1 e he1 he hc).symm, hb⟩
        simp only [if_neg this]
        exact hf1
      · exact h2.inj x hx y hy ⟨hX'.1, fun ⟨z, hz, h3, h4⟩ => hX'.2 ⟨z, List.mem_cons_of_mem _ hz, h3, h4⟩⟩ ⟨hY'.1, fun ⟨z, hz, h3, h4⟩ => hY'.2 ⟨z, List.mem_cons_of_mem _ hz, h3, h4⟩⟩
      · by_cases hb : k = e.b
        · simp [hb] at hk
        · simp only [if_neg hb] at hk
          exact h5 k hk
theorem addLays_keep {B inc : Nat} {i : Nat} {o : SObj} (hi : S.h.get i = some o) : ∀ ls : List Lay, (∀ l ∈ ls, layNow B inc l = true → l.id ≠ i) → (addLays ls B inc S).h.get i = some o
  | [], _ => hi
  | l :: ls, h => by
    have hadd : addLays (l :: ls) B inc S = bif layNow B inc l then (addLays ls B inc S).set l.id l.obj else addLays ls B inc S := rfl
    have ih := addLays_keep (B := B) (inc := inc) hi ls fun x hx => h x (List.mem_cons_of_mem _ hx)
    rw [hadd]
    cases hb : layNow B inc l with
    | false => exact ih
    | true => rw [cond_true, SW.set_get, if_neg (fun e => h l List.mem_cons_self hb e.symm)]; exact ih
theorem addLays_n {B inc : Nat} : ∀ ls : List Lay, (addLays ls B inc S).n = S.n
  | [] => rfl
  | l :: ls => by
    have hadd : addLays (l :: ls) B inc S = bif layNow B inc l then (addLays ls B inc S).set l.id l.obj else addLays ls B inc S := rfl
    rw [hadd]
    cases layNow B inc l with
    | false => exact addLays_n ls
    | true => rw [cond_true, SW.set_n]; exact addLays_n ls
theorem addLays_new {B inc : Nat} : ∀ ls : List Lay, ls.Pairwise (fun a b => a.j ≠ b.j ∧ a.id ≠ b.id) → ∀ l ∈ ls, layNow B inc l = true → (addLays ls B inc S).h.get l.id = some l.obj
  | [], _, _, hl, _ => by cases hl
  | x :: ls, hp, l, hl, hb => by
    have hadd : addLays (x :: ls) B inc S = bif layNow B inc x then (addLays ls B inc S).set x.id x.obj else addLays ls B inc S := rfl
    rw [hadd]
    rcases List.mem_cons.1 hl with rfl | hl
    · rw [hb, cond_true, SW.set_get, if_pos rfl]
    · have ih := addLays_new (B := B) (inc := inc) ls (List.pairwise_cons.1 hp).2 l hl hb
      cases layNow B inc x with
      | false => exact ih
      | true => rw [cond_true, SW.set_get, if_neg (fun e => ((List.pairwise_cons.1 hp).1 l hl).2 e.symm)]; exact ih
/-- Given back: behind a look. -/
theorem excl {lays ls : List Lay} {X : Nat → Prop} {B inc : Nat} (h : Sat G F' W E S w) (ho : Out F F' E w lays X) (hp : ls.Pairwise (fun a b => a.j ≠ b.j ∧ a.id ≠ b.id)) (huniq : ∀ l ∈ lays, ∀ l' ∈ ls, l.j = l'.j → l = l')
    (hX : ∀ l ∈ ls, l ∈ lays) (hXX : ∀ l ∈ ls, layNow B inc l = true → X l.j) {F1 : Nat → Option Obj} (ho1 : Out F F1 E w lays (fun j => X j ∧ ¬ Now ls B inc j)) (hF1 : ∀ k, (F1 k).isSome = true → (F' k).isSome = true)
    (h1 : Sat G F1 W E (addLays ls B inc S) w) (hE : Ext S.n E E') (hid : ∀ l ∈ lays, E' l.id = E l.id) (h2 : Sat G F1 W E' (addLays ls B inc S) w') :
    ∃ F2, Sat G F2 W E' S w' ∧ Out F F2 E' w' lays X := by
  have hle := h.le hE
  have ho2 := ho1.move h1 h2 hle hid
  have hkeep : ∀ i o, S.h.get i = some o → (addLays ls B inc S).h.get i = some o := fun i o hi => addLays_keep hi ls fun l hl hb e => by
    obtain ⟨e1, he1, _, hf, _⟩ := ho.out l (hX l hl) (hXX l hl hb)
    rw [← e] at hi
    rw [h.own _ _ _ hi he1] at hf
    cases hf
  refine ⟨fun k => if (F' k).isSome = true then w'.heap[k]? else none, ⟨fun i hi => h2.new i (by rw [addLays_n]; exact hi), h2.glob, fun i o hi => h2.obj i o (hkeep i o hi), fun i j o o' e e' hi hj => h2.inj i j o o' e e' (hkeep i o hi) (hkeep j o' hj),
      fun i o e hi he => ?_, fun k o hk => ?_, h2.size, h2.os, h2.tape, h2.output⟩, fun k o hk => ?_, fun l hl hx => ?_, fun l hl l' hl' hx hx' e e' he he' => ho.inj l hl l' hl' hx hx' e e' (by rw [← hid l hl]; exact he) (by rw [← hid l' hl']; exact he')⟩
  · obtain ⟨e1, he1, _⟩ := h.obj i o hi
    have := hle _ _ he1
    rw [this] at he; cases he
    have hf := h.own i o _ hi he1
    simp only [hf]
    rfl
  · split at hk
    · exact hk
    · cases hk
  · have h3 := ho.sub k o hk
    simp only [h3, Option.isSome_some, if_true]
    exact h2.far k o (ho1.sub k o hk)
  · by_cases hn : Now ls B inc l.j
    · obtain ⟨x, hxl, hj, hb⟩ := hn
      have hlx := huniq l hl x hxl hj.symm
      subst hlx
      obtain ⟨e, he, hobj, hf, hnn⟩ := ho.out l hl hx
      obtain ⟨e2, he2, hobj2⟩ := h2.obj _ _ (addLays_new ls hp l hxl hb)
      have := hle _ _ he
      rw [this] at he2; cases he2
      refine ⟨e, this, hobj2, ?_, hnn⟩
      simp only [hf, if_true]
      rw [Array.getElem?_eq_getElem hobj2.lt]
      rfl
    · obtain ⟨e, he, hobj, hf, hnn⟩ := ho2.out l hl ⟨hx, hn⟩
      refine ⟨e, he, hobj, ?_, hnn⟩
      simp only [hF1 _ hf, if_true]
      rw [Array.getElem?_eq_getElem hobj.lt]
      rfl
end
end Go.Proofs.YtfjippjkikcpfaaGreatDoor

/- The executor: calls that are known. -/
import Derived.Test.YtbjecfbfcpiilaaGreatDoorExX
namespace Go.Proofs.YtbjecfbfcpiilaaGreatDoor
open Go

theorem listEq_ok {α : Type} {p : α → α → Bool} (hp : ∀ x y, p x y = true → x = y) : ∀ l m : List α, listEq p l m = true → l = m
  | [], [], _ => rfl
  | [], y :: m, h => by cases h
  | x :: l, [], h => by cases h
  | x :: l, y :: m, h => by
    have h' : (Bool.rec false (listEq p l m) (p x y) : Bool) = true := h
    cases hx : p x y with
    | false => rw [hx] at h'; cases h'
    | true => rw [hx] at h'; rw [hp x y hx, listEq_ok hp l m h']
theorem arr_of_list {α : Type} {a b : Array α} (h : a.toList = b.toList) : a = b := Array.toList_inj.1 h
theorem addrEq_ok {a b : Addr} (h : addrEq a b = true) : a = b := by
  obtain ⟨x, y, z⟩ := a
  obtain ⟨x', y', z'⟩ := b
  unfold addrEq at h
  simp only [Bool.and_eq_true] at h
  obtain ⟨⟨h1, h2⟩, h3⟩ := h
  have e1 := Nat.eq_of_beq_eq_true h1
  have e2 := Nat.eq_of_beq_eq_true h2
  subst e1; subst e2
  cases z <;> cases z' <;> first | rfl | cases h3 | skip
  have := Nat.eq_of_beq_eq_true (show Nat.beq _ _ = true from h3)
  subst this; rfl
theorem optAddrEq_ok {a b : Option Addr} (h : optAddrEq a b = true) : a = b := by
  cases a <;> cases b <;> first | rfl | cases h | skip
  rw [addrEq_ok h]
theorem fkEq_ok {a b : FloatKind} (h : fkEq a b = true) : a = b := by cases a <;> cases b <;> first | rfl | cases h
theorem valEq_ok : ∀ (n : Nat) (v w : Value), valEq n v w = true → v = w
  | 0, _, _, h => by cases h
  | n + 1, v, w, h => by
    have ih := valEq_ok n
    have h' : valEq1 (valEq n) v w = true := h
    unfold valEq1 at h'
    split at h' <;> first | cases h' | skip
    · rw [eq_of_beq h']
    · simp only [Bool.and_eq_true] at h'
      rw [kindEq_iff.1 h'.1, intEq_iff.1 h'.2]
    · simp only [Bool.and_eq_true] at h'
      rw [fkEq_ok h'.1, Nat.eq_of_beq_eq_true h'.2]
    · simp only [Bool.and_eq_true] at h'
      rw [fkEq_ok h'.1.1, Nat.eq_of_beq_eq_true h'.1.2, Nat.eq_of_beq_eq_true h'.2]
    · rename_i a b
      have := arr_of_list (listEq_ok (fun x y hxy => UInt8.toNat_inj.1 (Nat.eq_of_beq_eq_true hxy)) _ _ h')
      obtain ⟨a⟩ := a
      obtain ⟨b⟩ := b
      simp only at this
      rw [this]
    · rw [optAddrEq_ok h']
    · simp only [Bool.and_eq_true] at h'
      rw [optAddrEq_ok h'.1.1, Nat.eq_of_beq_eq_true h'.1.2, Nat.eq_of_beq_eq_true h'.2]
    · rename_i a b
      cases a <;> cases b <;> first | rfl | cases h' | skip
      rw [Nat.eq_of_beq_eq_true (show Nat.beq _ _ = true from h')]
    · rename_i f a b g c d
      simp only [Bool.and_eq_true] at h'
      rw [arr_of_list (listEq_ok ih _ _ h'.1.2), arr_of_list (listEq_ok ih _ _ h'.2)]
      have hf := h'.1.1
      unfold fnEq at hf
      split at hf
      · rw [Nat.eq_of_beq_eq_true hf]
      · cases hf
    · rfl
    · simp only [Bool.and_eq_true] at h'
      rw [Nat.eq_of_beq_eq_true h'.1, ih _ _ h'.2]
    · rfl
    · rw [arr_of_list (listEq_ok ih _ _ h')]
    · rw [arr_of_list (listEq_ok ih _ _ h')]
theorem objEq_ok {a b : SObj} (h : objEq a b = true) : a = b := by
  unfold objEq at h
  split at h
  · rename_i cs t x ds u y
    simp only [Bool.and_eq_true] at h
    rw [listEq_ok (valEq_ok PD) _ _ h.1.1, Nat.eq_of_beq_eq_true h.1.2, eq_of_beq h.2]
  · rename_i es c fs d
    rw [Bool.and_eq_true] at h
    have hm : ∀ x y : MapEntry, (valEq PD x.key y.key && valEq PD x.val y.val && Nat.beq x.born y.born) = true → x = y := fun x y hxy => by
      simp only [Bool.and_eq_true] at hxy
      obtain ⟨k, v, n⟩ := x
      obtain ⟨k', v', n'⟩ := y
      simp only at hxy
      rw [valEq_ok _ _ _ hxy.1.1, valEq_ok _ _ _ hxy.1.2, Nat.eq_of_beq_eq_true hxy.2]
    rw [listEq_ok hm _ _ h.1, Nat.eq_of_beq_eq_true h.2]
  · cases h
theorem hasObj_ok {S : SW} {p : Nat × SObj} (h : hasObj S p = true) : S.h.get p.1 = some p.2 := by
  unfold hasObj at h
  split at h
  · rename_i o ho
    rw [ho, objEq_ok h]
  · cases h
theorem putAll_cons (p : Nat × SObj) (l : List (Nat × SObj)) (t : Tr SObj) : putAll (p :: l) t = (putAll l t).put p.1 (some p.2) := by
  show (putAll l t).putK p.1 (some p.2) (fun h => h) = _
  rw [Tr.putK_eq]
theorem delAll_cons (p : Nat × SObj) (l : List (Nat × SObj)) (t : Tr SObj) : delAll (p :: l) t = (delAll l t).put p.1 none := by
  show (delAll l t).putK p.1 none (fun h => h) = _
  rw [Tr.putK_eq]
/-- What is put is there, or what was. -/
theorem putAll_get {t : Tr SObj} {i : Nat} {o : SObj} : ∀ l : List (Nat × SObj), (putAll l t).get i = some o → (putAll l .leaf).get i = some o ∨ ((putAll l .leaf).get i = none ∧ t.get i = some o)
  | [], h => .inr ⟨rfl, h⟩
  | p :: l, h => by
    rw [putAll_cons, Tr.get_put] at h ⊢
    by_cases hi : i = p.1
    · rw [if_pos hi] at h ⊢
      exact .inl h
    · rw [if_neg hi] at h ⊢
      exact putAll_get l h
theorem putAll_mem {i : Nat} {o : SObj} : ∀ l : List (Nat × SObj), (putAll l .leaf).get i = some o → (i, o) ∈ l
  | [], h => by cases h
  | p :: l, h => by
    rw [putAll_cons, Tr.get_put] at h
    by_cases hi : i = p.1
    · rw [if_pos hi] at h
      cases h
      subst hi
      exact List.mem_cons_self
    · rw [if_neg hi] at h
      exact List.mem_cons_of_mem _ (putAll_mem l h)
theorem putAll_none {i : Nat} : ∀ l : List (Nat × SObj), (putAll l .leaf).get i = none → ∀ o, (i, o) ∉ l
  | [], _, _, hm => by cases hm
  | p :: l, h, o, hm => by
    rw [putAll_cons, Tr.get_put] at h
    by_cases hi : i = p.1
    · rw [if_pos hi] at h; cases h
    · rw [if_neg hi] at h
      rcases List.mem_cons.1 hm with rfl | hm
      · exact hi rfl
      · exact putAll_none l h o hm
theorem delAll_get {t : Tr SObj} {i : Nat} {o : SObj} : ∀ l : List (Nat × SObj), (delAll l t).get i = some o → t.get i = some o ∧ ∀ x, (i, x) ∉ l
  | [], h => ⟨h, fun _ hm => by cases hm⟩
  | p :: l, h => by
    rw [delAll_cons, Tr.get_put] at h
    by_cases hi : i = p.1
    · rw [if_pos hi] at h; cases h
    · rw [if_neg hi] at h
      obtain ⟨h1, h2⟩ := delAll_get l h
      refine ⟨h1, fun x hm => ?_⟩
      rcases List.mem_cons.1 hm with rfl | hm
      · exact hi rfl
      · exact h2 x hm
def HookOk (P : Program) (G : Nat) (h : HookE) : Prop := CallOk P G ⟨h.n, putAll h.pre .leaf⟩ h.f h.args (.ret h.ret) ⟨h.m, putAll h.post .leaf⟩
def HooksOk (P : Program) (G : Nat) (H : List HookE) : Prop := ∀ h ∈ H, HookOk P G h
theorem HooksOk.cons {P : Program} {G : Nat} {x : HookE} {H : List HookE} (h : HookOk P G x) (t : HooksOk P G H) : HooksOk P G (x :: H) := fun y hy => by
  rcases List.mem_cons.1 hy with rfl | hy
  · exact h
  · exact t y hy
theorem HooksOk.nil {P : Program} {G : Nat} : HooksOk P G [] := fun _ h => by cases h
section
variable {P : Program} {G : Nat}
theorem Sat.sub {F : Nat → Option Obj} {W : World} {E : Env} {S S2 : SW} {w : World} (h : Sat G F W E S w) (hn : S2.n = S.n) (hs : ∀ i o, S2.h.get i = some o → S.h.get i = some o) : Sat G F W E S2 w :=
  ⟨fun i hi => h.new i (hn ▸ hi), h.glob, fun i o hi => h.obj i o (hs i o hi), fun i j o o' e e' hi hj => h.inj i j o o' e e' (hs i o hi) (hs j o' hj), fun i o e hi => h.own i o e (hs i o hi), h.far, h.size, h.os, h.tape, h.output⟩
/-- A call that is known, beside other things. -/
theorem hook_frame {h : HookE} (hk : HookOk P G h) {S : SW} (hn : h.n = S.n) (hpre : ∀ p ∈ h.pre, S.h.get p.1 = some p.2) : CallOk P G S h.f h.args (.ret h.ret) ⟨h.m, putAll h.post (delAll h.pre S.h)⟩ := by
  intro F W E w args' n hs hargs
  have hsub : ∀ i o, (putAll h.pre .leaf).get i = some o → S.h.get i = some o := fun i o hi => hpre _ (putAll_mem _ hi)
  let Q : Nat → Prop := fun b => ∃ i o e, S.h.get i = some o ∧ (∀ x, (i, x) ∉ h.pre) ∧ E i = some e ∧ e.b = b
  have hsat : Sat G (fun b => open Classical in if Q b then w.heap[b]? else F b) W E ⟨h.n, putAll h.pre .leaf⟩ w := by
    have h0 := hs.sub (S2 := ⟨h.n, putAll h.pre .leaf⟩) hn hsub
    refine ⟨h0.new, h0.glob, h0.obj, h0.inj, fun i o e hi he => ?_, fun k o hk => ?_, h0.size, h0.os, h0.tape, h0.output⟩
    · have hnot : ¬ Q e.b := fun ⟨j, o', e', hj, hjn, he', hb⟩ => by
        have := hs.inj j i o' o e' e hj (hsub i o hi) he' he hb
        subst this
        exact hjn o (putAll_mem _ hi)
      simp only [if_neg hnot]
      exact hs.own i o e (hsub i o hi) he
    · by_cases hq : Q k
      · simp only [if_pos hq] at hk
        exact hk
      · simp only [if_neg hq] at hk
        exact hs.far k o hk
  refine (hk _ W E w args' n hsat hargs).mono ?_
  rintro e w' ⟨E', hE, hm, hs', he⟩
  have hle := hs.le (hn ▸ hE)
  refine ⟨E', hn ▸ hE, hn ▸ hm, ?_, he⟩
  have hkeep : ∀ i o, (delAll h.pre S.h).get i = some o → ∃ e, E i = some e ∧ E' i = some e ∧ ObjR E' w' e o ∧ Q e.b := fun i o hi => by
    obtain ⟨h1, h2⟩ := delAll_get _ hi
    obtain ⟨e, he, ho⟩ := hs.obj i o h1
    have hq : Q e.b := ⟨i, o, e, h1, h2, he, rfl⟩
    refine ⟨e, he, hle _ _ he, ho.mono hle ?_, hq⟩
    have hlt := ho.lt
    rw [hs'.far e.b (w.heap[e.b]) (by simp only [if_pos hq]; exact Array.getElem?_eq_getElem hlt), Array.getElem?_eq_getElem hlt]
  have hcase : ∀ i o, (putAll h.post (delAll h.pre S.h)).get i = some o → ((putAll h.post .leaf).get i = some o ∧ ∃ e, E' i = some e ∧ ObjR E' w' e o ∧ ¬ Q e.b) ∨ ((delAll h.pre S.h).get i = some o) := fun i o hi => by
    rcases putAll_get _ hi with h1 | ⟨_, h1⟩
    · obtain ⟨e, he, ho⟩ := hs'.obj i o h1
      refine .inl ⟨h1, e, he, ho, fun hq => ?_⟩
      have := hs'.own i o e h1 he
      simp only [if_pos hq] at this
      rw [Array.getElem?_eq_none_iff] at this
      obtain ⟨j, o', e', hj, _, he', hb⟩ := hq
      obtain ⟨e'', he'', ho'⟩ := hs.obj j o' hj
      rw [he'] at he''; cases he''
      have := ho'.lt
      omega
    · exact .inr h1
  refine ⟨hs'.new, hs'.glob, fun i o hi => ?_, fun i j o o' e1 e2 hi hj h1 h2 hb => ?_, fun i o e1 hi h1 => ?_, fun k o hk => ?_, hs'.size, hs'.os, hs'.tape, hs'.output⟩
  · rcases hcase i o hi with ⟨_, e, he, ho, _⟩ | hi'
    · exact ⟨e, he, ho⟩
    · obtain ⟨e, _, he, ho, _⟩ := hkeep i o hi'
      exact ⟨e, he, ho⟩
  · rcases hcase i o hi with ⟨hi', f1, k1, _, q1⟩ | hi'
    · rcases hcase j o' hj with ⟨hj', f2, k2, _, q2⟩ | hj'
      · exact hs'.inj i j o o' e1 e2 hi' hj' h1 h2 hb
      · obtain ⟨f2, _, k2, _, q2⟩ := hkeep j o' hj'
        rw [k1] at h1; cases h1
        rw [k2] at h2; cases h2
        exact absurd (hb ▸ q2) q1
    · obtain ⟨f1, k0, k1, _, q1⟩ := hkeep i o hi'
      rw [k1] at h1; cases h1
      rcases hcase j o' hj with ⟨hj', f2, k2, _, q2⟩ | hj'
      · rw [k2] at h2; cases h2
        exact absurd (hb ▸ q1) q2
      · obtain ⟨f2, k3, k2, _, q2⟩ := hkeep j o' hj'
        rw [k2] at h2; cases h2
        exact hs.inj i j o o' _ _ (delAll_get _ hi').1 (delAll_get _ hj').1 k0 k3 hb
  · rcases hcase i o hi with ⟨hi', f1, k1, _, q1⟩ | hi'
    · have := hs'.own i o e1 hi' h1
      rw [k1] at h1; cases h1
      simp only [if_neg q1] at this
      exact this
    · obtain ⟨f1, k0, k1, _, _⟩ := hkeep i o hi'
      rw [k1] at h1; cases h1
      exact hs.own i o _ (delAll_get _ hi').1 k0
  · refine hs'.far k o ?_
    by_cases hq : Q k
    · simp only [if_pos hq]
      exact hs.far k o hk
    · simp only [if_neg hq]
      exact hk
theorem hookE_ok {f : FuncId} {args : List Value} {S S' : SW} {r : SEnd} : ∀ H : List HookE, HooksOk P G H → hookE H f args S = some (r, S') → CallOk P G S f args r S'
  | [], _, h => by cases h
  | x :: H, hH, h => by
    have h' : (bif Nat.beq x.f f && Nat.beq x.n S.n then
      bif listEq (valEq PD) args x.args && allL (hasObj S) x.pre then some (SEnd.ret x.ret, (⟨x.m, putAll x.post (delAll x.pre S.h)⟩ : SW)) else hookE H f args S else hookE H f args S) = some (r, S') := h
    have hrest : hookE H f args S = some (r, S') → CallOk P G S f args r S' := hookE_ok H (fun y hy => hH y (List.mem_cons_of_mem _ hy))
    cases h1 : Nat.beq x.f f && Nat.beq x.n S.n with
    | false => rw [h1, cond_false] at h'; exact hrest h'
    | true =>
      rw [h1, cond_true] at h'
      cases h2 : listEq (valEq PD) args x.args && allL (hasObj S) x.pre with
      | false => rw [h2, cond_false] at h'; exact hrest h'
      | true =>
        rw [h2, cond_true] at h'
        cases h'
        rw [Bool.and_eq_true] at h1 h2
        have e1 := Nat.eq_of_beq_eq_true h1.1
        have e2 := Nat.eq_of_beq_eq_true h1.2
        have e3 := listEq_ok (valEq_ok PD) _ _ h2.1
        subst e1 e3
        exact hook_frame (hH x List.mem_cons_self) e2 fun p hp => hasObj_ok ((allL_iff _ _).1 h2.2 p hp)
/-- Is the entry what the call answers? -/
noncomputable def hookTest (h : HookE) : Option (SEnd × SW) → Bool
  | some (.ret v, S') => valEq PD v h.ret && Nat.beq S'.n h.m && allL (hasObj S') h.post
  | _ => false
theorem hook_of {h : HookE} {r : Option (SEnd × SW)} (ht : hookTest h r = true) (hc : ∀ e S', r = some (e, S') → CallOk P G ⟨h.n, putAll h.pre .leaf⟩ h.f h.args e S') : HookOk P G h := by
  unfold hookTest at ht
  split at ht
  · rename_i v S'
    simp only [Bool.and_eq_true] at ht
    have e1 := valEq_ok _ _ _ ht.1.1
    have e2 := Nat.eq_of_beq_eq_true ht.1.2
    subst e1
    intro F W E w args' n hs hargs
    refine (hc _ _ rfl F W E w args' n hs hargs).mono ?_
    rintro e w' ⟨E', h1, h2, h3, h4⟩
    exact ⟨E', h1, by rw [← e2]; exact h2, h3.sub e2.symm fun i o hi => hasObj_ok ((allL_iff _ _).1 ht.2 (i, o) (putAll_mem _ hi)), h4⟩
  · cases ht
end
end Go.Proofs.YtbjecfbfcpiilaaGreatDoor

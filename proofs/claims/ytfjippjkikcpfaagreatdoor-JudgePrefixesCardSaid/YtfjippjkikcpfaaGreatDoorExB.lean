/- The executor: trees by number, lists, values; what symbolic values say of values. -/
import Derived.Test.YtfjippjkikcpfaaGreatDoorExD
import Derived.Deep.AppendSrc
import Derived.Laws.IdiomCopy
namespace Go.Proofs.YtfjippjkikcpfaaGreatDoor
open Go

/-! ### Trees by number -/
section
variable {α β : Type}
theorem Tr.get_leaf (i : Nat) : (Tr.leaf : Tr α).get i = none := rfl
theorem Tr.get_zero (v : Option α) (l r : Tr α) : (Tr.node v l r).get 0 = v := rfl
theorem Tr.get_succ (v : Option α) (l r : Tr α) (i : Nat) : (Tr.node v l r).get (i + 1) = if (i + 1) % 2 = 1 then l.get ((i + 1) / 2) else r.get ((i + 1) / 2 - 1) := by
  show (Bool.rec (r.get ((i + 1) / 2 - 1)) (l.get ((i + 1) / 2)) (Nat.beq ((i + 1) % 2) 1) : Option α) = _
  by_cases h : (i + 1) % 2 = 1
  · rw [if_pos h, show Nat.beq ((i + 1) % 2) 1 = true from by rw [h]; rfl]
  · rw [if_neg h, show Nat.beq ((i + 1) % 2) 1 = false from by rw [show (i + 1) % 2 = 0 by omega]; rfl]
theorem Tr.setF_leaf (f i : Nat) (v : Option α) (k : Tr α → β) : (Tr.leaf : Tr α).setF (f + 1) i v k =
    if i = 0 then k (.node v .leaf .leaf) else if i % 2 = 1 then (Tr.leaf : Tr α).setF f (i / 2) v fun l => k (.node none l .leaf) else (Tr.leaf : Tr α).setF f (i / 2 - 1) v fun r => k (.node none .leaf r) := by
  cases i with
  | zero => rfl
  | succ i =>
    rw [if_neg (by omega)]
    show (Bool.rec _ _ (Nat.beq ((i + 1) % 2) 1) : β) = _
    by_cases h : (i + 1) % 2 = 1
    · rw [if_pos h, show Nat.beq ((i + 1) % 2) 1 = true from by rw [h]; rfl]; rfl
    · rw [if_neg h, show Nat.beq ((i + 1) % 2) 1 = false from by rw [show (i + 1) % 2 = 0 by omega]; rfl]; rfl
theorem Tr.setF_node (f i : Nat) (u v : Option α) (l r : Tr α) (k : Tr α → β) : (Tr.node u l r).setF (f + 1) i v k =
    if i = 0 then k (.node v l r) else if i % 2 = 1 then l.setF f (i / 2) v fun l => k (.node u l r) else r.setF f (i / 2 - 1) v fun r => k (.node u l r) := by
  cases i with
  | zero => rfl
  | succ i =>
    rw [if_neg (by omega)]
    show (Bool.rec _ _ (Nat.beq ((i + 1) % 2) 1) : β) = _
    by_cases h : (i + 1) % 2 = 1
    · rw [if_pos h, show Nat.beq ((i + 1) % 2) 1 = true from by rw [h]; rfl]; rfl
    · rw [if_neg h, show Nat.beq ((i + 1) % 2) 1 = false from by rw [show (i + 1) % 2 = 0 by omega]; rfl]; rfl
theorem Tr.setF_k : ∀ (f : Nat) (t : Tr α) (i : Nat) (v : Option α) (γ : Type) (k : Tr α → γ), t.setF f i v k = k (t.setF f i v id)
  | 0, _, _, _, _, _ => rfl
  | f + 1, .leaf, i, v, γ, k => by
    rw [Tr.setF_leaf, Tr.setF_leaf]
    split
    · rfl
    · split
      · rw [Tr.setF_k f, Tr.setF_k f .leaf (i / 2) v _ fun l => id (Tr.node none l .leaf)]; rfl
      · rw [Tr.setF_k f, Tr.setF_k f .leaf (i / 2 - 1) v _ fun l => id (Tr.node none .leaf l)]; rfl
  | f + 1, .node u l r, i, v, γ, k => by
    rw [Tr.setF_node, Tr.setF_node]
    split
    · rfl
    · split
      · rw [Tr.setF_k f, Tr.setF_k f l (i / 2) v _ fun l => id (Tr.node u l r)]; rfl
      · rw [Tr.setF_k f, Tr.setF_k f r (i / 2 - 1) v _ fun r => id (Tr.node u l r)]; rfl
theorem Tr.putK_eq (t : Tr α) (i : Nat) (v : Option α) (k : Tr α → β) : t.putK i v k = k (t.put i v) := Tr.setF_k _ _ _ _ _ _
theorem Tr.get_setF : ∀ (f : Nat) (t : Tr α) (i : Nat) (v : Option α) (j : Nat), i < f → (t.setF f i v id).get j = if j = i then v else t.get j
  | 0, _, _, _, _, h => by omega
  | f + 1, .leaf, i, v, j, h => by
    rw [Tr.setF_leaf]
    split
    · subst i
      cases j with
      | zero => rw [if_pos rfl]; rfl
      | succ j => rw [if_neg (by omega)]; show (Tr.node v .leaf .leaf).get (j + 1) = _; rw [Tr.get_succ]; simp [Tr.get_leaf]
    · rename_i hi
      split
      · rename_i ho
        rw [Tr.setF_k]
        show (Tr.node none _ .leaf).get j = _
        cases j with
        | zero => rw [if_neg (by omega)]; rfl
        | succ j =>
          rw [Tr.get_succ]
          split
          · rw [Tr.get_setF f _ _ _ _ (by omega)]
            by_cases hj : j + 1 = i
            · rw [if_pos hj, if_pos (by omega)]
            · rw [if_neg hj, if_neg (by omega)]; rfl
          · rw [if_neg (by omega)]; rfl
      · rename_i ho
        rw [Tr.setF_k]
        show (Tr.node none .leaf _).get j = _
        cases j with
        | zero => rw [if_neg (by omega)]; rfl
        | succ j =>
          rw [Tr.get_succ]
          split
          · rw [if_neg (by omega)]; rfl
          · rw [Tr.get_setF f _ _ _ _ (by omega)]
            by_cases hj : j + 1 = i
            · rw [if_pos hj, if_pos (by omega)]
            · rw [if_neg hj, if_neg (by omega)]; rfl
  | f + 1, .node u l r, i, v, j, h => by
    rw [Tr.setF_node]
    split
    · subst i
      cases j with
      | zero => rw [if_pos rfl]; rfl
      | succ j => rw [if_neg (by omega)]; show (Tr.node v l r).get (j + 1) = _; rw [Tr.get_succ, Tr.get_succ]
    · rename_i hi
      split
      · rename_i ho
        rw [Tr.setF_k]
        show (Tr.node u _ r).get j = _
        cases j with
        | zero => rw [if_neg (by omega)]; rfl
        | succ j =>
          rw [Tr.get_succ, Tr.get_succ]
          split
          · rw [Tr.get_setF f _ _ _ _ (by omega)]
            by_cases hj : j + 1 = i
            · rw [if_pos hj, if_pos (by omega)]
            · rw [if_neg hj, if_neg (by omega)]
          · rw [if_neg (by omega)]
      · rename_i ho
        rw [Tr.setF_k]
        show (Tr.node u l _).get j = _
        cases j with
        | zero => rw [if_neg (by omega)]; rfl
        | succ j =>
          rw [Tr.get_succ, Tr.get_succ]
          split
          · rw [if_neg (by omega)]
          · rw [Tr.get_setF f _ _ _ _ (by omega)]
            by_cases hj : j + 1 = i
            · rw [if_pos hj, if_pos (by omega)]
            · rw [if_neg hj, if_neg (by omega)]
theorem Tr.get_put (t : Tr α) (i : Nat) (v : Option α) (j : Nat) : (t.put i v).get j = if j = i then v else t.get j := Tr.get_setF (i + 1) t i v j (Nat.lt_succ_self i)
theorem Tr.get_put_same (t : Tr α) (i : Nat) (v : Option α) : (t.put i v).get i = v := by rw [Tr.get_put, if_pos rfl]
theorem Tr.get_put_other (t : Tr α) {i j : Nat} (v : Option α) (h : j ≠ i) : (t.put i v).get j = t.get j := by rw [Tr.get_put, if_neg h]
end

/-! ### Written out -/
theorem seqN_eq {β : Sort _} (n : Nat) (k : Nat → β) : seqN n k = k n := by cases n <;> rfl
theorem seqI_eq {β : Sort _} (n : Int) (k : Int → β) : seqI n k = k n := by cases n <;> simp [seqI, seqN_eq]
theorem seqA_eq {β : Sort _} (a : Addr) (k : Addr → β) : seqA a k = k a := by cases a; simp [seqA, seqN_eq]
theorem seqV_eq {β : Sort _} (v : Value) (k : Value → β) : seqV v k = k v := by
  unfold seqV
  split <;> simp [seqI_eq, seqA_eq, seqN_eq]

/-! ### Lists -/
section
variable {α β : Type}
theorem allL_iff (p : α → Bool) : ∀ l : List α, allL p l = true ↔ ∀ x ∈ l, p x = true
  | [] => by simp [allL]
  | a :: l => by
    have ih := allL_iff p l
    show (Bool.rec false (allL p l) (p a) : Bool) = true ↔ _
    cases h : p a
    · simp [h]
    · simp [h, ih]
theorem takeR_eq : ∀ (n : Nat) (l : List α), takeR n l = if n ≤ l.length then some (l.take n) else none
  | 0, l => by show some [] = _; simp
  | n + 1, [] => by show none = _; simp
  | n + 1, x :: l => by
    show (Option.rec none (fun r => some (x :: r)) (takeR n l) : Option (List α)) = _
    rw [takeR_eq n l]
    by_cases h : n ≤ l.length <;> simp [h]
theorem dropR_eq : ∀ (n : Nat) (l : List α), dropR n l = if n ≤ l.length then some (l.drop n) else none
  | 0, l => by show some l = _; simp
  | n + 1, [] => by show none = _; simp
  | n + 1, x :: l => by
    show dropR n l = _
    rw [dropR_eq n l]
    simp
theorem overR_eq : ∀ (vs l : List α), overR vs l = if vs.length ≤ l.length then some (vs ++ l.drop vs.length) else none
  | [], l => by show some l = _; simp
  | v :: vs, [] => by show none = _; simp
  | v :: vs, x :: l => by
    show (Option.rec none (fun r => some (v :: r)) (overR vs l) : Option (List α)) = _
    rw [overR_eq vs l]
    by_cases h : vs.length ≤ l.length <;> simp [h]
theorem setR_eq : ∀ (n : Nat) (vs l : List α), setR n vs l = if n + vs.length ≤ l.length then some (l.take n ++ vs ++ l.drop (n + vs.length)) else none
  | 0, vs, l => by show overR vs l = _; rw [overR_eq vs l]; simp
  | n + 1, vs, [] => by show none = _; simp
  | n + 1, vs, x :: l => by
    show (Option.rec none (fun r => some (x :: r)) (setR n vs l) : Option (List α)) = _
    rw [setR_eq n vs l]
    by_cases h : n + vs.length ≤ l.length
    · rw [if_pos h, if_pos (by simp; omega)]
      simp [show n + 1 + vs.length = n + vs.length + 1 by omega]
    · rw [if_neg h, if_neg (by simp; omega)]
theorem snocR_eq (x : α) : ∀ l : List α, snocR x l = some (l ++ [x])
  | [] => rfl
  | a :: l => by
    show (Option.rec none (fun r => some (a :: r)) (snocR x l) : Option (List α)) = _
    rw [snocR_eq x l]; rfl
theorem modR_eq (f : α → α) : ∀ (n : Nat) (l : List α), modR f n l = if n < l.length then some (l.modify n f) else none
  | 0, [] => by show none = _; simp
  | 0, x :: l => by show some (f x :: l) = _; simp
  | n + 1, [] => by show none = _; simp
  | n + 1, x :: l => by
    show (Option.rec none (fun r => some (x :: r)) (modR f n l) : Option (List α)) = _
    rw [modR_eq f n l]
    by_cases h : n < l.length <;> simp [h]
theorem delR_eq : ∀ (n : Nat) (l : List α), delR n l = if n < l.length then some (l.eraseIdx n) else none
  | 0, [] => by show none = _; simp
  | 0, x :: l => by show some l = _; simp
  | n + 1, [] => by show none = _; simp
  | n + 1, x :: l => by
    show (Option.rec none (fun r => some (x :: r)) (delR n l) : Option (List α)) = _
    rw [delR_eq n l]
    by_cases h : n < l.length <;> simp [h]
/-- Lists that are alike, place by place. -/
def LR (R : α → β → Prop) (l : List α) (m : List β) : Prop := l.length = m.length ∧ ∀ (i : Nat) x y, l[i]? = some x → m[i]? = some y → R x y
variable {R : α → β → Prop}
theorem LR.nil : LR R [] [] := ⟨rfl, fun i x y h => by simp at h⟩
theorem LR.cons {x : α} {y : β} {l : List α} {m : List β} (h : R x y) (hl : LR R l m) : LR R (x :: l) (y :: m) :=
  ⟨by simp [hl.1], fun i a b ha hb => by
    cases i with
    | zero => simp at ha hb; subst ha; subst hb; exact h
    | succ i => exact hl.2 i a b (by simpa using ha) (by simpa using hb)⟩
theorem LR.get {l : List α} {m : List β} (h : LR R l m) {i : Nat} {x : α} (hx : l[i]? = some x) : ∃ y, m[i]? = some y ∧ R x y := by
  have hi : i < l.length := (List.getElem?_eq_some_iff.1 hx).1
  have hm : m[i]? = some (m[i]'(h.1 ▸ hi)) := List.getElem?_eq_getElem _
  exact ⟨_, hm, h.2 i x _ hx hm⟩
theorem LR.append {l l' : List α} {m m' : List β} (h : LR R l m) (h' : LR R l' m') : LR R (l ++ l') (m ++ m') :=
  ⟨by simp [h.1, h'.1], fun i x y hx hy => by
    by_cases hi : i < l.length
    · rw [List.getElem?_append_left hi] at hx
      rw [List.getElem?_append_left (h.1 ▸ hi)] at hy
      exact h.2 i x y hx hy
    · rw [List.getElem?_append_right (by omega)] at hx
      rw [List.getElem?_append_right (by have := h.1; omega)] at hy
      exact h'.2 (i - l.length) x y hx (h.1 ▸ hy)⟩
theorem LR.take {l : List α} {m : List β} (h : LR R l m) (n : Nat) : LR R (l.take n) (m.take n) :=
  ⟨by simp [h.1], fun i x y hx hy => by
    rw [List.getElem?_take] at hx hy
    split at hx
    · rename_i hi
      rw [if_pos hi] at hy
      exact h.2 i x y hx hy
    · cases hx⟩
theorem LR.drop {l : List α} {m : List β} (h : LR R l m) (n : Nat) : LR R (l.drop n) (m.drop n) :=
  ⟨by simp [h.1], fun i x y hx hy => by
    rw [List.getElem?_drop] at hx hy
    exact h.2 _ x y hx hy⟩
theorem LR.mono {R' : α → β → Prop} {l : List α} {m : List β} (h : LR R l m) (hR : ∀ x y, R x y → R' x y) : LR R' l m := ⟨h.1, fun i x y hx hy => hR _ _ (h.2 i x y hx hy)⟩
theorem LR.inv_cons {x : α} {l : List α} {m : List β} (h : LR R (x :: l) m) : ∃ y m', m = y :: m' ∧ R x y ∧ LR R l m' := by
  cases m with
  | nil => simp [LR] at h
  | cons y m => exact ⟨y, m, rfl, h.2 0 x y rfl rfl, by simpa using h.1, fun i a b ha hb => h.2 (i + 1) a b (by simpa using ha) (by simpa using hb)⟩
theorem LR.inv_nil {m : List β} (h : LR R [] m) : m = [] := by
  cases m with
  | nil => rfl
  | cons y m => simp [LR] at h
theorem LR.of_map {γ : Type} {l : List γ} {f : γ → α} {g : γ → β} (h : ∀ x ∈ l, R (f x) (g x)) : LR R (l.map f) (l.map g) :=
  ⟨by simp, fun i x y hx hy => by
    rw [List.getElem?_map] at hx hy
    cases hl : l[i]? with
    | none => rw [hl] at hx; cases hx
    | some z =>
      rw [hl] at hx hy
      simp at hx hy
      subst hx; subst hy
      exact h z (List.mem_of_getElem? hl)⟩
end

/-! ### Values -/
structure Ent where
  b : Nat
  d : Nat
  k : Nat
abbrev Env := Nat → Option Ent
def AR (E : Env) (a a' : Addr) : Prop := a.spot = none ∧ ∃ e, E a.block = some e ∧ a' = ⟨e.b, a.off + e.d, none⟩
inductive FR (E : Env) : Fn → Fn → Prop
  | same (f : Fn) (h : isYield f = false) : FR E f f
  | yield {l : Nat} {e : Ent} (h : E l = some e) : FR E (.yield l) (.yield e.b)
def CR (E : Env) (a : Addr) (l c : Nat) (a' : Addr) (c' : Nat) : Prop :=
  a.spot = none ∧ l ≤ c' ∧ (c' = 0 ∨ AR E a a') ∧ ((c < CAPX ∧ c' = c) ∨ ∃ z e, c = CAPX + z ∧ E a.block = some e ∧ a.off + c' * z = e.k)
inductive VR (E : Env) : Value → Value → Prop
  | bool (b : Bool) : VR E (.bool b) (.bool b)
  | int (k : IntKind) (n : Int) : VR E (.int k n) (.int k n)
  | float (k : FloatKind) (n : Nat) : VR E (.float k n) (.float k n)
  | complex (k : FloatKind) (n m : Nat) : VR E (.complex k n m) (.complex k n m)
  | string (s : ByteArray) : VR E (.string s) (.string s)
  | pnil : VR E (.pointer none) (.pointer none)
  | ptr {a a' : Addr} (h : AR E a a') : VR E (.pointer (some a)) (.pointer (some a'))
  | snil (l c : Nat) : VR E (.slice none l c) (.slice none l c)
  | sl {a a' : Addr} {l c c' : Nat} (h : CR E a l c a' c') : VR E (.slice (some a) l c) (.slice (some a') l c')
  | mnil : VR E (.map none) (.map none)
  | map {r : Nat} {e : Ent} (h : E r = some e) : VR E (.map (some r)) (.map (some e.b))
  | cnil : VR E (.chan none) (.chan none)
  | func {f f' : Fn} {a a' b b' : Array Value} (hf : FR E f f') (ha : a.toList.length = a'.toList.length) (ha' : ∀ (i : Nat) x y, a.toList[i]? = some x → a'.toList[i]? = some y → VR E x y)
      (hb : b.toList.length = b'.toList.length) (hb' : ∀ (i : Nat) x y, b.toList[i]? = some x → b'.toList[i]? = some y → VR E x y) : VR E (.func f a b) (.func f' a' b')
  | nilFunc : VR E .nilFunc .nilFunc
  | iface {t : TypeId} {v v' : Value} (h : VR E v v') : VR E (.iface t v) (.iface t v')
  | nilIface : VR E .nilIface .nilIface
  | agg {a a' : Array Value} (ha : a.toList.length = a'.toList.length) (ha' : ∀ (i : Nat) x y, a.toList[i]? = some x → a'.toList[i]? = some y → VR E x y) : VR E (.agg a) (.agg a')
  | tuple {a a' : Array Value} (ha : a.toList.length = a'.toList.length) (ha' : ∀ (i : Nat) x y, a.toList[i]? = some x → a'.toList[i]? = some y → VR E x y) : VR E (.tuple a) (.tuple a')
abbrev VL (E : Env) : List Value → List Value → Prop := LR (VR E)
theorem VR.func' {E : Env} {f f' : Fn} {a a' b b' : Array Value} (hf : FR E f f') (ha : VL E a.toList a'.toList) (hb : VL E b.toList b'.toList) : VR E (.func f a b) (.func f' a' b') := .func hf ha.1 ha.2 hb.1 hb.2
theorem VR.agg' {E : Env} {a a' : Array Value} (ha : VL E a.toList a'.toList) : VR E (.agg a) (.agg a') := .agg ha.1 ha.2
theorem VR.tuple' {E : Env} {a a' : Array Value} (ha : VL E a.toList a'.toList) : VR E (.tuple a) (.tuple a') := .tuple ha.1 ha.2
def Env.le (E E' : Env) : Prop := ∀ i e, E i = some e → E' i = some e
theorem Env.le.refl (E : Env) : E.le E := fun _ _ h => h
theorem Env.le.trans {E E' E'' : Env} (h : E.le E') (h' : E'.le E'') : E.le E'' := fun i e he => h' i e (h i e he)
theorem AR.mono {E E' : Env} {a a' : Addr} (h : AR E a a') (hE : E.le E') : AR E' a a' := ⟨h.1, let ⟨e, he, ha⟩ := h.2; ⟨e, hE _ _ he, ha⟩⟩
theorem FR.mono {E E' : Env} {a a' : Fn} (h : FR E a a') (hE : E.le E') : FR E' a a' := by
  cases h with
  | same _ h => exact .same _ h
  | yield h => exact .yield (hE _ _ h)
theorem CR.mono {E E' : Env} {a a' : Addr} {l c c' : Nat} (h : CR E a l c a' c') (hE : E.le E') : CR E' a l c a' c' :=
  ⟨h.1, h.2.1, h.2.2.1.imp id (fun h => h.mono hE), h.2.2.2.imp id (fun ⟨z, e, h1, h2, h3⟩ => ⟨z, e, h1, hE _ _ h2, h3⟩)⟩
theorem VR.mono {E E' : Env} {v v' : Value} (h : VR E v v') (hE : E.le E') : VR E' v v' := by
  induction h with
  | bool b => exact .bool b
  | int k n => exact .int k n
  | float k n => exact .float k n
  | complex k n m => exact .complex k n m
  | string s => exact .string s
  | pnil => exact .pnil
  | ptr h => exact .ptr (h.mono hE)
  | snil l c => exact .snil l c
  | sl h => exact .sl (h.mono hE)
  | mnil => exact .mnil
  | map h => exact .map (hE _ _ h)
  | cnil => exact .cnil
  | func hf ha _ hb _ ih1 ih2 => exact .func (hf.mono hE) ha ih1 hb ih2
  | nilFunc => exact .nilFunc
  | iface _ ih => exact .iface ih
  | nilIface => exact .nilIface
  | agg ha _ ih => exact .agg ha ih
  | tuple ha _ ih => exact .tuple ha ih
theorem VL.mono {E E' : Env} {l l' : List Value} (h : VL E l l') (hE : E.le E') : VL E' l l' := LR.mono h fun _ _ h => h.mono hE
theorem plain_succ (n : Nat) (v : Value) : plainV (n + 1) v = plain1 (plainV n) v := rfl
theorem plain_refl {E : Env} : ∀ (n : Nat) (v : Value), plainV n v = true → VR E v v
  | 0, _, h => by cases h
  | n + 1, v, h => by
    have ih := fun v h => plain_refl (E := E) n v h
    have ihL : ∀ a : Array Value, allL (plainV n) a.toList = true → VL E a.toList a.toList := fun a ha => ⟨rfl, fun i x y hx hy => by
      rw [hx] at hy; cases hy
      exact ih x ((allL_iff _ _).1 ha x (List.mem_of_getElem? hx))⟩
    rw [plain_succ] at h
    cases v with
    | bool b => exact .bool b
    | int k n => exact .int k n
    | float k n => exact .float k n
    | complex k n m => exact .complex k n m
    | string s => exact .string s
    | pointer a => cases a with
      | none => exact .pnil
      | some a => simp [plain1] at h
    | slice a l c => cases a with
      | none => exact .snil l c
      | some a => simp [plain1] at h
    | map r => cases r with
      | none => exact .mnil
      | some a => simp [plain1] at h
    | chan r => cases r with
      | none => exact .cnil
      | some a => simp [plain1] at h
    | func f a b =>
      simp only [plain1, Bool.and_eq_true] at h
      refine .func' (.same f ?_) (ihL a h.2.1) (ihL b h.2.2)
      have := h.1
      cases f <;> first | rfl | (simp at this)
    | nilFunc => exact .nilFunc
    | iface t v => exact .iface (ih v h)
    | nilIface => exact .nilIface
    | agg a => exact .agg' (ihL a h)
    | tuple a => exact .tuple' (ihL a h)
theorem plain_eq {E : Env} : ∀ (n : Nat) (v w : Value), plainV n v = true → VR E v w → w = v
  | 0, _, _, h, _ => by cases h
  | n + 1, v, w, h, hr => by
    have ih := fun v w h hr => plain_eq (E := E) n v w h hr
    have ihL : ∀ a a' : Array Value, allL (plainV n) a.toList = true → a.toList.length = a'.toList.length → (∀ (i : Nat) x y, a.toList[i]? = some x → a'.toList[i]? = some y → VR E x y) → a' = a := fun a a' ha hl hx => by
      apply Array.ext'
      refine (List.ext_getElem? fun i => ?_)
      cases h1 : a.toList[i]? with
      | none =>
        rw [List.getElem?_eq_none_iff] at h1 ⊢
        omega
      | some x =>
        obtain ⟨y, hy, hr⟩ := LR.get (R := VR E) ⟨hl, hx⟩ h1
        rw [hy, ih x y ((allL_iff _ _).1 ha x (List.mem_of_getElem? h1)) hr]
    rw [plain_succ] at h
    cases hr with
    | ptr h' => simp [plain1] at h
    | sl h' => simp [plain1] at h
    | map h' => simp [plain1] at h
    | func hf ha ha' hb hb' =>
      simp only [plain1, Bool.and_eq_true] at h
      rw [ihL _ _ h.2.1 ha ha', ihL _ _ h.2.2 hb hb']
      cases hf with
      | same => rfl
      | yield => simp at h
    | iface h' => rw [ih _ _ h h']
    | agg ha ha' => rw [ihL _ _ h ha ha']
    | tuple ha ha' => rw [ihL _ _ h ha ha']
    | _ => rfl
end Go.Proofs.YtfjippjkikcpfaaGreatDoor

/- The executor: trees by number, lists, values; what symbolic values say of values. The executor: what symbolic worlds say of worlds. The executor: operations, first part. The executor: operations on values and memory. The executor: places, parts, maps. -/
import Derived.Test.YtaeophaecclnbaaGreatDoorMgH
import Derived.Deep.AppendSrc
import Derived.Laws.IdiomCopy
import Derived.Laws.Entries
namespace Go.Proofs.YtaeophaecclnbaaGreatDoor
open Go

/-! ### Trees by number -/
section
variable {α β : Type}
theorem Tr.get_leaf (i : Nat) : (Tr.leaf : Tr α).get i = none := rfl
theorem Tr.get_zero (v : Option α) (l r : Tr α) : (Tr.node v l r).get 0 = v := rfl
theorem Tr.get_succ (v : Option α) (l r : Tr α) (i : Nat) : (Tr.node v l r).get (i + 1) = if (i + 1) % 2 = 1 then l.get ((i + 1) / 2) else r.get ((i + 1) / 2 - 1) := by
  show (Bool.rec (r.get ((i + 1) / 2 - 1)) (l.get ((i + 1) / 2)) (Nat.beq ((i + 1) % 2) 1) : Option α) = _
  by_cases h : (i + 1) % 2 = 1
  · rw [if_pos h, show Nat.beq ((i + 1) % 2) 1 = true from by rw [h]; rfl]
  · rw [if_neg h, show Nat.beq ((i + 1) % 2) 1 = false from by rw [show (i + 1) % 2 = 0 by omega]; rfl]
theorem Tr.setF_leaf (f i : Nat) (v : Option α) (k : Tr α → β) : (Tr.leaf : Tr α).setF (f + 1) i v k =
    if i = 0 then k (.node v .leaf .leaf) else if i % 2 = 1 then (Tr.leaf : Tr α).setF f (i / 2) v fun l => k (.node none l .leaf) else (Tr.leaf : Tr α).setF f (i / 2 - 1) v fun r => k (.node none .leaf r) := by
  cases i with
  | zero => rfl
  | succ i =>
    rw [if_neg (by omega)]
    show (Bool.rec _ _ (Nat.beq ((i + 1) % 2) 1) : β) = _
    by_cases h : (i + 1) % 2 = 1
    · rw [if_pos h, show Nat.beq ((i + 1) % 2) 1 = true from by rw [h]; rfl]; rfl
    · rw [if_neg h, show Nat.beq ((i + 1) % 2) 1 = false from by rw [show (i + 1) % 2 = 0 by omega]; rfl]; rfl
theorem Tr.setF_node (f i : Nat) (u v : Option α) (l r : Tr α) (k : Tr α → β) : (Tr.node u l r).setF (f + 1) i v k =
    if i = 0 then k (.node v l r) else if i % 2 = 1 then l.setF f (i / 2) v fun l => k (.node u l r) else r.setF f (i / 2 - 1) v fun r => k (.node u l r) := by
  cases i with
  | zero => rfl
  | succ i =>
    rw [if_neg (by omega)]
    show (Bool.rec _ _ (Nat.beq ((i + 1) % 2) 1) : β) = _
    by_cases h : (i + 1) % 2 = 1
    · rw [if_pos h, show Nat.beq ((i + 1) % 2) 1 = true from by rw [h]; rfl]; rfl
    · rw [if_neg h, show Nat.beq ((i + 1) % 2) 1 = false from by rw [show (i + 1) % 2 = 0 by omega]; rfl]; rfl
theorem Tr.setF_k : ∀ (f : Nat) (t : Tr α) (i : Nat) (v : Option α) (γ : Type) (k : Tr α → γ), t.setF f i v k = k (t.setF f i v id)
  | 0, _, _, _, _, _ => rfl
  | f + 1, .leaf, i, v, γ, k => by
    rw [Tr.setF_leaf, Tr.setF_leaf]
    split
    · rfl
    · split
      · rw [Tr.setF_k f, Tr.setF_k f .leaf (i / 2) v _ fun l => id (Tr.node none l .leaf)]; rfl
      · rw [Tr.setF_k f, Tr.setF_k f .leaf (i / 2 - 1) v _ fun l => id (Tr.node none .leaf l)]; rfl
  | f + 1, .node u l r, i, v, γ, k => by
    rw [Tr.setF_node, Tr.setF_node]
    split
    · rfl
    · split
      · rw [Tr.setF_k f, Tr.setF_k f l (i / 2) v _ fun l => id (Tr.node u l r)]; rfl
      · rw [Tr.setF_k f, Tr.setF_k f r (i / 2 - 1) v _ fun r => id (Tr.node u l r)]; rfl
theorem Tr.putK_eq (t : Tr α) (i : Nat) (v : Option α) (k : Tr α → β) : t.putK i v k = k (t.put i v) := Tr.setF_k _ _ _ _ _ _
theorem Tr.get_setF : ∀ (f : Nat) (t : Tr α) (i : Nat) (v : Option α) (j : Nat), i < f → (t.setF f i v id).get j = if j = i then v else t.get j
  | 0, _, _, _, _, h => by omega
  | f + 1, .leaf, i, v, j, h => by
    rw [Tr.setF_leaf]
    split
    · subst i
      cases j with
      | zero => rw [if_pos rfl]; rfl
      | succ j => rw [if_neg (by omega)]; show (Tr.node v .leaf .leaf).get (j + 1) = _; rw [Tr.get_succ]; simp [Tr.get_leaf]
    · rename_i hi
      split
      · rename_i ho
        rw [Tr.setF_k]
        show (Tr.node none _ .leaf).get j = _
        cases j with
        | zero => rw [if_neg (by omega)]; rfl
        | succ j =>
          rw [Tr.get_succ]
          split
          · rw [Tr.get_setF f _ _ _ _ (by omega)]
            by_cases hj : j + 1 = i
            · rw [if_pos hj, if_pos (by omega)]
            · rw [if_neg hj, if_neg (by omega)]; rfl
          · rw [if_neg (by omega)]; rfl
      · rename_i ho
        rw [Tr.setF_k]
        show (Tr.node none .leaf _).get j = _
        cases j with
        | zero => rw [if_neg (by omega)]; rfl
        | succ j =>
          rw [Tr.get_succ]
          split
          · rw [if_neg (by omega)]; rfl
          · rw [Tr.get_setF f _ _ _ _ (by omega)]
            by_cases hj : j + 1 = i
            · rw [if_pos hj, if_pos (by omega)]
            · rw [if_neg hj, if_neg (by omega)]; rfl
  | f + 1, .node u l r, i, v, j, h => by
    rw [Tr.setF_node]
    split
    · subst i
      cases j with
      | zero => rw [if_pos rfl]; rfl
      | succ j => rw [if_neg (by omega)]; show (Tr.node v l r).get (j + 1) = _; rw [Tr.get_succ, Tr.get_succ]
    · rename_i hi
      split
      · rename_i ho
        rw [Tr.setF_k]
        show (Tr.node u _ r).get j = _
        cases j with
        | zero => rw [if_neg (by omega)]; rfl
        | succ j =>
          rw [Tr.get_succ, Tr.get_succ]
          split
          · rw [Tr.get_setF f _ _ _ _ (by omega)]
            by_cases hj : j + 1 = i
            · rw [if_pos hj, if_pos (by omega)]
            · rw [if_neg hj, if_neg (by omega)]
          · rw [if_neg (by omega)]
      · rename_i ho
        rw [Tr.setF_k]
        show (Tr.node u l _).get j = _
        cases j with
        | zero => rw [if_neg (by omega)]; rfl
        | succ j =>
          rw [Tr.get_succ, Tr.get_succ]
          split
          · rw [if_neg (by omega)]
          · rw [Tr.get_setF f _ _ _ _ (by omega)]
            by_cases hj : j + 1 = i
            · rw [if_pos hj, if_pos (by omega)]
            · rw [if_neg hj, if_neg (by omega)]
theorem Tr.get_put (t : Tr α) (i : Nat) (v : Option α) (j : Nat) : (t.put i v).get j = if j = i then v else t.get j := Tr.get_setF (i + 1) t i v j (Nat.lt_succ_self i)
theorem Tr.get_put_same (t : Tr α) (i : Nat) (v : Option α) : (t.put i v).get i = v := by rw [Tr.get_put, if_pos rfl]
theorem Tr.get_put_other (t : Tr α) {i j : Nat} (v : Option α) (h : j ≠ i) : (t.put i v).get j = t.get j := by rw [Tr.get_put, if_neg h]
end

/-! ### Written out -/
theorem seqN_eq {β : Sort _} (n : Nat) (k : Nat → β) : seqN n k = k n := by cases n <;> rfl
theorem seqI_eq {β : Sort _} (n : Int) (k : Int → β) : seqI n k = k n := by cases n <;> simp [seqI, seqN_eq]
theorem seqA_eq {β : Sort _} (a : Addr) (k : Addr → β) : seqA a k = k a := by cases a; simp [seqA, seqN_eq]
theorem seqV_eq {β : Sort _} (v : Value) (k : Value → β) : seqV v k = k v := by
  unfold seqV
  split <;> simp [seqI_eq, seqA_eq, seqN_eq]

/-! ### Lists -/
section
variable {α β : Type}
theorem allL_iff (p : α → Bool) : ∀ l : List α, allL p l = true ↔ ∀ x ∈ l, p x = true
  | [] => by simp [allL]
  | a :: l => by
    have ih := allL_iff p l
    show (Bool.rec false (allL p l) (p a) : Bool) = true ↔ _
    cases h : p a
    · simp [h]
    · simp [h, ih]
theorem takeR_eq : ∀ (n : Nat) (l : List α), takeR n l = if n ≤ l.length then some (l.take n) else none
  | 0, l => by show some [] = _; simp
  | n + 1, [] => by show none = _; simp
  | n + 1, x :: l => by
    show (Option.rec none (fun r => some (x :: r)) (takeR n l) : Option (List α)) = _
    rw [takeR_eq n l]
    by_cases h : n ≤ l.length <;> simp [h]
theorem dropR_eq : ∀ (n : Nat) (l : List α), dropR n l = if n ≤ l.length then some (l.drop n) else none
  | 0, l => by show some l = _; simp
  | n + 1, [] => by show none = _; simp
  | n + 1, x :: l => by
    show dropR n l = _
    rw [dropR_eq n l]
    simp
theorem overR_eq : ∀ (vs l : List α), overR vs l = if vs.length ≤ l.length then some (vs ++ l.drop vs.length) else none
  | [], l => by show some l = _; simp
  | v :: vs, [] => by show none = _; simp
  | v :: vs, x :: l => by
    show (Option.rec none (fun r => some (v :: r)) (overR vs l) : Option (List α)) = _
    rw [overR_eq vs l]
    by_cases h : vs.length ≤ l.length <;> simp [h]
theorem setR_eq : ∀ (n : Nat) (vs l : List α), setR n vs l = if n + vs.length ≤ l.length then some (l.take n ++ vs ++ l.drop (n + vs.length)) else none
  | 0, vs, l => by show overR vs l = _; rw [overR_eq vs l]; simp
  | n + 1, vs, [] => by show none = _; simp
  | n + 1, vs, x :: l => by
    show (Option.rec none (fun r => some (x :: r)) (setR n vs l) : Option (List α)) = _
    rw [setR_eq n vs l]
    by_cases h : n + vs.length ≤ l.length
    · rw [if_pos h, if_pos (by simp; omega)]
      simp [show n + 1 + vs.length = n + vs.length + 1 by omega]
    · rw [if_neg h, if_neg (by simp; omega)]
theorem snocR_eq (x : α) : ∀ l : List α, snocR x l = some (l ++ [x])
  | [] => rfl
  | a :: l => by
    show (Option.rec none (fun r => some (a :: r)) (snocR x l) : Option (List α)) = _
    rw [snocR_eq x l]; rfl
theorem modR_eq (f : α → α) : ∀ (n : Nat) (l : List α), modR f n l = if n < l.length then some (l.modify n f) else none
  | 0, [] => by show none = _; simp
  | 0, x :: l => by show some (f x :: l) = _; simp
  | n + 1, [] => by show none = _; simp
  | n + 1, x :: l => by
    show (Option.rec none (fun r => some (x :: r)) (modR f n l) : Option (List α)) = _
    rw [modR_eq f n l]
    by_cases h : n < l.length <;> simp [h]
theorem delR_eq : ∀ (n : Nat) (l : List α), delR n l = if n < l.length then some (l.eraseIdx n) else none
  | 0, [] => by show none = _; simp
  | 0, x :: l => by show some l = _; simp
  | n + 1, [] => by show none = _; simp
  | n + 1, x :: l => by
    show (Option.rec none (fun r => some (x :: r)) (delR n l) : Option (List α)) = _
    rw [delR_eq n l]
    by_cases h : n < l.length <;> simp [h]
/-- Lists that are alike, place by place. -/
def LR (R : α → β → Prop) (l : List α) (m : List β) : Prop := l.length = m.length ∧ ∀ (i : Nat) x y, l[i]? = some x → m[i]? = some y → R x y
variable {R : α → β → Prop}
theorem LR.nil : LR R [] [] := ⟨rfl, fun i x y h => by simp at h⟩
theorem LR.cons {x : α} {y : β} {l : List α} {m : List β} (h : R x y) (hl : LR R l m) : LR R (x :: l) (y :: m) :=
  ⟨by simp [hl.1], fun i a b ha hb => by
    cases i with
    | zero => simp at ha hb; subst ha; subst hb; exact h
    | succ i => exact hl.2 i a b (by simpa using ha) (by simpa using hb)⟩
theorem LR.get {l : List α} {m : List β} (h : LR R l m) {i : Nat} {x : α} (hx : l[i]? = some x) : ∃ y, m[i]? = some y ∧ R x y := by
  have hi : i < l.length := (List.getElem?_eq_some_iff.1 hx).1
  have hm : m[i]? = some (m[i]'(h.1 ▸ hi)) := List.getElem?_eq_getElem _
  exact ⟨_, hm, h.2 i x _ hx hm⟩
theorem LR.append {l l' : List α} {m m' : List β} (h : LR R l m) (h' : LR R l' m') : LR R (l ++ l') (m ++ m') :=
  ⟨by simp [h.1, h'.1], fun i x y hx hy => by
    by_cases hi : i < l.length
    · rw [List.getElem?_append_left hi] at hx
      rw [List.getElem?_append_left (h.1 ▸ hi)] at hy
      exact h.2 i x y hx hy
    · rw [List.getElem?_append_right (by omega)] at hx
      rw [List.getElem?_append_right (by have := h.1; omega)] at hy
      exact h'.2 (i - l.length) x y hx (h.1 ▸ hy)⟩
theorem LR.take {l : List α} {m : List β} (h : LR R l m) (n : Nat) : LR R (l.take n) (m.take n) :=
  ⟨by simp [h.1], fun i x y hx hy => by
    rw [List.getElem?_take] at hx hy
    split at hx
    · rename_i hi
      rw [if_pos hi] at hy
      exact h.2 i x y hx hy
    · cases hx⟩
theorem LR.drop {l : List α} {m : List β} (h : LR R l m) (n : Nat) : LR R (l.drop n) (m.drop n) :=
  ⟨by simp [h.1], fun i x y hx hy => by
    rw [List.getElem?_drop] at hx hy
    exact h.2 _ x y hx hy⟩
theorem LR.mono {R' : α → β → Prop} {l : List α} {m : List β} (h : LR R l m) (hR : ∀ x y, R x y → R' x y) : LR R' l m := ⟨h.1, fun i x y hx hy => hR _ _ (h.2 i x y hx hy)⟩
theorem LR.inv_cons {x : α} {l : List α} {m : List β} (h : LR R (x :: l) m) : ∃ y m', m = y :: m' ∧ R x y ∧ LR R l m' := by
  cases m with
  | nil => simp [LR] at h
  | cons y m => exact ⟨y, m, rfl, h.2 0 x y rfl rfl, by simpa using h.1, fun i a b ha hb => h.2 (i + 1) a b (by simpa using ha) (by simpa using hb)⟩
theorem LR.inv_nil {m : List β} (h : LR R [] m) : m = [] := by
  cases m with
  | nil => rfl
  | cons y m => simp [LR] at h
theorem LR.of_map {γ : Type} {l : List γ} {f : γ → α} {g : γ → β} (h : ∀ x ∈ l, R (f x) (g x)) : LR R (l.map f) (l.map g) :=
  ⟨by simp, fun i x y hx hy => by
    rw [List.getElem?_map] at hx hy
    cases hl : l[i]? with
    | none => rw [hl] at hx; cases hx
    | some z =>
      rw [hl] at hx hy
      simp at hx hy
      subst hx; subst hy
      exact h z (List.mem_of_getElem? hl)⟩
end

/-! ### Values -/
structure Ent where
  b : Nat
  d : Nat
  k : Nat
abbrev Env := Nat → Option Ent
def AR (E : Env) (a a' : Addr) : Prop := a.spot = none ∧ ∃ e, E a.block = some e ∧ a' = ⟨e.b, a.off + e.d, none⟩
inductive FR (E : Env) : Fn → Fn → Prop
  | same (f : Fn) (h : isYield f = false) : FR E f f
  | yield {l : Nat} {e : Ent} (h : E l = some e) : FR E (.yield l) (.yield e.b)
def CR (E : Env) (a : Addr) (l c : Nat) (a' : Addr) (c' : Nat) : Prop :=
  a.spot = none ∧ l ≤ c' ∧ (c' = 0 ∨ AR E a a') ∧ ((c < CAPX ∧ c' = c) ∨ ∃ z e, c = CAPX + z ∧ E a.block = some e ∧ a.off + c' * z = e.k)
inductive VR (E : Env) : Value → Value → Prop
  | bool (b : Bool) : VR E (.bool b) (.bool b)
  | int (k : IntKind) (n : Int) : VR E (.int k n) (.int k n)
  | float (k : FloatKind) (n : Nat) : VR E (.float k n) (.float k n)
  | complex (k : FloatKind) (n m : Nat) : VR E (.complex k n m) (.complex k n m)
  | string (s : ByteArray) : VR E (.string s) (.string s)
  | pnil : VR E (.pointer none) (.pointer none)
  | ptr {a a' : Addr} (h : AR E a a') : VR E (.pointer (some a)) (.pointer (some a'))
  | snil (l c : Nat) : VR E (.slice none l c) (.slice none l c)
  | sl {a a' : Addr} {l c c' : Nat} (h : CR E a l c a' c') : VR E (.slice (some a) l c) (.slice (some a') l c')
  | mnil : VR E (.map none) (.map none)
  | map {r : Nat} {e : Ent} (h : E r = some e) : VR E (.map (some r)) (.map (some e.b))
  | cnil : VR E (.chan none) (.chan none)
  | func {f f' : Fn} {a a' b b' : Array Value} (hf : FR E f f') (ha : a.toList.length = a'.toList.length) (ha' : ∀ (i : Nat) x y, a.toList[i]? = some x → a'.toList[i]? = some y → VR E x y)
      (hb : b.toList.length = b'.toList.length) (hb' : ∀ (i : Nat) x y, b.toList[i]? = some x → b'.toList[i]? = some y → VR E x y) : VR E (.func f a b) (.func f' a' b')
  | nilFunc : VR E .nilFunc .nilFunc
  | iface {t : TypeId} {v v' : Value} (h : VR E v v') : VR E (.iface t v) (.iface t v')
  | nilIface : VR E .nilIface .nilIface
  | agg {a a' : Array Value} (ha : a.toList.length = a'.toList.length) (ha' : ∀ (i : Nat) x y, a.toList[i]? = some x → a'.toList[i]? = some y → VR E x y) : VR E (.agg a) (.agg a')
  | tuple {a a' : Array Value} (ha : a.toList.length = a'.toList.length) (ha' : ∀ (i : Nat) x y, a.toList[i]? = some x → a'.toList[i]? = some y → VR E x y) : VR E (.tuple a) (.tuple a')
abbrev VL (E : Env) : List Value → List Value → Prop := LR (VR E)
theorem VR.func' {E : Env} {f f' : Fn} {a a' b b' : Array Value} (hf : FR E f f') (ha : VL E a.toList a'.toList) (hb : VL E b.toList b'.toList) : VR E (.func f a b) (.func f' a' b') := .func hf ha.1 ha.2 hb.1 hb.2
theorem VR.agg' {E : Env} {a a' : Array Value} (ha : VL E a.toList a'.toList) : VR E (.agg a) (.agg a') := .agg ha.1 ha.2
theorem VR.tuple' {E : Env} {a a' : Array Value} (ha : VL E a.toList a'.toList) : VR E (.tuple a) (.tuple a') := .tuple ha.1 ha.2
def Env.le (E E' : Env) : Prop := ∀ i e, E i = some e → E' i = some e
theorem Env.le.refl (E : Env) : E.le E := fun _ _ h => h
theorem Env.le.trans {E E' E'' : Env} (h : E.le E') (h' : E'.le E'') : E.le E'' := fun i e he => h' i e (h i e he)
theorem AR.mono {E E' : Env} {a a' : Addr} (h : AR E a a') (hE : E.le E') : AR E' a a' := ⟨h.1, let ⟨e, he, ha⟩ := h.2; ⟨e, hE _ _ he, ha⟩⟩
theorem FR.mono {E E' : Env} {a a' : Fn} (h : FR E a a') (hE : E.le E') : FR E' a a' := by
  cases h with
  | same _ h => exact .same _ h
  | yield h => exact .yield (hE _ _ h)
theorem CR.mono {E E' : Env} {a a' : Addr} {l c c' : Nat} (h : CR E a l c a' c') (hE : E.le E') : CR E' a l c a' c' :=
  ⟨h.1, h.2.1, h.2.2.1.imp id (fun h => h.mono hE), h.2.2.2.imp id (fun ⟨z, e, h1, h2, h3⟩ => ⟨z, e, h1, hE _ _ h2, h3⟩)⟩
theorem VR.mono {E E' : Env} {v v' : Value} (h : VR E v v') (hE : E.le E') : VR E' v v' := by
  induction h with
  | bool b => exact .bool b
  | int k n => exact .int k n
  | float k n => exact .float k n
  | complex k n m => exact .complex k n m
  | string s => exact .string s
  | pnil => exact .pnil
  | ptr h => exact .ptr (h.mono hE)
  | snil l c => exact .snil l c
  | sl h => exact .sl (h.mono hE)
  | mnil => exact .mnil
  | map h => exact .map (hE _ _ h)
  | cnil => exact .cnil
  | func hf ha _ hb _ ih1 ih2 => exact .func (hf.mono hE) ha ih1 hb ih2
  | nilFunc => exact .nilFunc
  | iface _ ih => exact .iface ih
  | nilIface => exact .nilIface
  | agg ha _ ih => exact .agg ha ih
  | tuple ha _ ih => exact .tuple ha ih
theorem VL.mono {E E' : Env} {l l' : List Value} (h : VL E l l') (hE : E.le E') : VL E' l l' := LR.mono h fun _ _ h => h.mono hE
theorem plain_succ (n : Nat) (v : Value) : plainV (n + 1) v = plain1 (plainV n) v := rfl
theorem plain_refl {E : Env} : ∀ (n : Nat) (v : Value), plainV n v = true → VR E v v
  | 0, _, h => by cases h
  | n + 1, v, h => by
    have ih := fun v h => plain_refl (E := E) n v h
    have ihL : ∀ a : Array Value, allL (plainV n) a.toList = true → VL E a.toList a.toList := fun a ha => ⟨rfl, fun i x y hx hy => by
      rw [hx] at hy; cases hy
      exact ih x ((allL_iff _ _).1 ha x (List.mem_of_getElem? hx))⟩
    rw [plain_succ] at h
    cases v with
    | bool b => exact .bool b
    | int k n => exact .int k n
    | float k n => exact .float k n
    | complex k n m => exact .complex k n m
    | string s => exact .string s
    | pointer a => cases a with
      | none => exact .pnil
      | some a => simp [plain1] at h
    | slice a l c => cases a with
      | none => exact .snil l c
      | some a => simp [plain1] at h
    | map r => cases r with
      | none => exact .mnil
      | some a => simp [plain1] at h
    | chan r => cases r with
      | none => exact .cnil
      | some a => simp [plain1] at h
    | func f a b =>
      simp only [plain1, Bool.and_eq_true] at h
      refine .func' (.same f ?_) (ihL a h.2.1) (ihL b h.2.2)
      have := h.1
      cases f <;> first | rfl | (simp at this)
    | nilFunc => exact .nilFunc
    | iface t v => exact .iface (ih v h)
    | nilIface => exact .nilIface
    | agg a => exact .agg' (ihL a h)
    | tuple a => exact .tuple' (ihL a h)
theorem plain_eq {E : Env} : ∀ (n : Nat) (v w : Value), plainV n v = true → VR E v w → w = v
  | 0, _, _, h, _ => by cases h
  | n + 1, v, w, h, hr => by
    have ih := fun v w h hr => plain_eq (E := E) n v w h hr
    have ihL : ∀ a a' : Array Value, allL (plainV n) a.toList = true → a.toList.length = a'.toList.length → (∀ (i : Nat) x y, a.toList[i]? = some x → a'.toList[i]? = some y → VR E x y) → a' = a := fun a a' ha hl hx => by
      apply Array.ext'
      refine (List.ext_getElem? fun i => ?_)
      cases h1 : a.toList[i]? with
      | none =>
        rw [List.getElem?_eq_none_iff] at h1 ⊢
        omega
      | some x =>
        obtain ⟨y, hy, hr⟩ := LR.get (R := VR E) ⟨hl, hx⟩ h1
        rw [hy, ih x y ((allL_iff _ _).1 ha x (List.mem_of_getElem? h1)) hr]
    rw [plain_succ] at h
    cases hr with
    | ptr h' => simp [plain1] at h
    | sl h' => simp [plain1] at h
    | map h' => simp [plain1] at h
    | func hf ha ha' hb hb' =>
      simp only [plain1, Bool.and_eq_true] at h
      rw [ihL _ _ h.2.1 ha ha', ihL _ _ h.2.2 hb hb']
      cases hf with
      | same => rfl
      | yield => simp at h
    | iface h' => rw [ih _ _ h h']
    | agg ha ha' => rw [ihL _ _ h ha ha']
    | tuple ha ha' => rw [ihL _ _ h ha ha']
    | _ => rfl
end Go.Proofs.YtaeophaecclnbaaGreatDoor
namespace Go.Proofs.YtaeophaecclnbaaGreatDoor
open Go

structure MR (E : Env) (e f : MapEntry) : Prop where
  key : VR E e.key f.key
  val : VR E e.val f.val
  born : f.born = e.born
theorem MR.mono {E E' : Env} {e f : MapEntry} (h : MR E e f) (hE : E.le E') : MR E' e f := ⟨h.key.mono hE, h.val.mono hE, h.born⟩
def TR (E : Env) (tr : Tr Value) (a : Array Value) : Prop := ∀ t, VR E (evS tr (.tmp t)) (a.getD t undef)
theorem TR.mono {E E' : Env} {tr : Tr Value} {a : Array Value} (h : TR E tr a) (hE : E.le E') : TR E' tr a := fun t => (h t).mono hE
theorem VR.undef {E : Env} : VR E undef undef := plain_refl 1 _ rfl
theorem evS_tmp (tr : Tr Value) (t : Nat) : evS tr (.tmp t) = (tr.get t).getD undef := by
  show (Option.rec undef (fun v => v) (tr.get t) : Value) = _
  cases tr.get t <;> rfl
def ObjR (E : Env) (w : World) (e : Ent) : SObj → Prop
  | .cells cs t x => ∃ arr fr, w.heap[e.b]? = some (.cells arr t fr) ∧ arr.size = e.d + e.k ∧ cs.length ≤ e.k ∧ (x = true → cs.length = e.k ∧ e.d = 0 ∧ fr = (0, 0)) ∧
      (∀ o, o < arr.size → ¬ (fr.1 ≤ o ∧ o < fr.2)) ∧ ∀ j v, cs[j]? = some v → ∃ v', arr[e.d + j]? = some v' ∧ VR E v v'
  | .map es c => ∃ arr, w.heap[e.b]? = some (.map arr c) ∧ LR (MR E) es arr.toList
  | .strIter s p => e.d = 0 ∧ w.heap[e.b]? = some (.stringIter s p)
  | .mapIter m c l q => e.d = 0 ∧ ∃ m', VR E (.map m) (.map m') ∧ w.heap[e.b]? = some (.mapIter m' c l.toArray q)
  | .dfr => w.heap[e.b]? = some (.deferred (some []))
  | .loop st pd tr nt ps as_ b => ∃ r, w.heap[e.b]? = some (.loop r) ∧ r.state = st ∧ r.pending = pd ∧ r.params.toList = ps ∧ r.assign = as_ ∧ r.body = b ∧ r.tmps.size = nt ∧ TR E tr r.tmps
theorem ObjR.lt {E : Env} {w : World} {e : Ent} {o : SObj} (h : ObjR E w e o) : e.b < w.heap.size := by
  have : ∃ x, w.heap[e.b]? = some x := by
    cases o with
    | cells => obtain ⟨_, _, h, _⟩ := h; exact ⟨_, h⟩
    | map => obtain ⟨_, h, _⟩ := h; exact ⟨_, h⟩
    | strIter => exact ⟨_, h.2⟩
    | mapIter => obtain ⟨_, _, _, h⟩ := h; exact ⟨_, h⟩
    | dfr => exact ⟨_, h⟩
    | loop => obtain ⟨_, h, _⟩ := h; exact ⟨_, h⟩
  exact (Array.getElem?_eq_some_iff.1 this.choose_spec).1
theorem ObjR.mono {E E' : Env} {w w' : World} {e : Ent} {o : SObj} (h : ObjR E w e o) (hE : E.le E') (hw : w'.heap[e.b]? = w.heap[e.b]?) : ObjR E' w' e o := by
  cases o with
  | cells => obtain ⟨arr, fr, h1, h2, h3, h4, h5, h6⟩ := h; exact ⟨arr, fr, hw.trans h1, h2, h3, h4, h5, fun j v hj => let ⟨v', a, b⟩ := h6 j v hj; ⟨v', a, b.mono hE⟩⟩
  | map => obtain ⟨arr, h1, h2⟩ := h; exact ⟨arr, hw.trans h1, h2.mono fun _ _ h => h.mono hE⟩
  | strIter => exact ⟨h.1, hw.trans h.2⟩
  | mapIter => obtain ⟨h0, m', h1, h2⟩ := h; exact ⟨h0, m', h1.mono hE, hw.trans h2⟩
  | dfr => exact hw.trans h
  | loop => obtain ⟨r, h1, h2, h3, h4, h5, h6, h7, h8⟩ := h; exact ⟨r, hw.trans h1, h2, h3, h4, h5, h6, h7, h8.mono hE⟩

/-- F: blocks that stay as they are. -/
structure Sat (G : Nat) (F : Nat → Option Obj) (W : World) (E : Env) (S : SW) (w : World) : Prop where
  new : ∀ i, S.n ≤ i → E i = none
  glob : ∀ g, g < G → ∃ e, E g = some e ∧ e.b = g ∧ e.d = 0
  obj : ∀ i o, S.h.get i = some o → ∃ e, E i = some e ∧ ObjR E w e o
  inj : ∀ i j o o' e e', S.h.get i = some o → S.h.get j = some o' → E i = some e → E j = some e' → e.b = e'.b → i = j
  own : ∀ i o e, S.h.get i = some o → E i = some e → F e.b = none
  far : ∀ k o, F k = some o → w.heap[k]? = some o
  size : W.heap.size ≤ w.heap.size
  os : w.os = W.os
  tape : w.tape = W.tape
  output : w.output = W.output
section
variable {G : Nat} {F : Nat → Option Obj} {W : World} {E : Env} {S : SW} {w : World}
theorem Sat.same (h : Sat G F W E S w) {w' : World} (hh : w'.heap = w.heap) (ho : w'.os = w.os) (ht : w'.tape = w.tape) (hp : w'.output = w.output) : Sat G F W E S w' :=
  ⟨h.new, h.glob, fun i o hi => let ⟨e, he, hr⟩ := h.obj i o hi; ⟨e, he, hr.mono (Env.le.refl E) (by rw [hh])⟩, h.inj, h.own, fun k o hk => by rw [hh]; exact h.far k o hk,
    by rw [hh]; exact h.size, ho.trans h.os, ht.trans h.tape, hp.trans h.output⟩
theorem Sat.drew (h : Sat G F W E S w) : Sat G F W E S w.drew := h.same rfl rfl rfl rfl
/-- What an env says of names that are there stays. -/
def Ext (n : Nat) (E E' : Env) : Prop := ∀ i, i < n → E' i = E i
theorem Ext.refl (n : Nat) (E : Env) : Ext n E E := fun _ _ => rfl
theorem Ext.trans {n m : Nat} {E E' E'' : Env} (h : Ext n E E') (h' : Ext m E' E'') (hn : n ≤ m) : Ext n E E'' := fun i hi => (h' i (by omega)).trans (h i hi)
theorem Ext.le {n : Nat} {E E' : Env} (h : Ext n E E') (hn : ∀ i, n ≤ i → E i = none) : E.le E' := fun i e he => by
  by_cases hi : i < n
  · rw [h i hi]; exact he
  · rw [hn i (by omega)] at he; cases he
/-- One block turned or laid, one name laid or kept. -/
theorem Sat.step (h : Sat G F W E S w) {E' : Env} {S' : SW} {w' : World} (k0 i0 : Nat) (hE : E.le E') (hnew : ∀ i, S'.n ≤ i → E' i = none)
    (hw : ∀ k, k ≠ k0 → k < w.heap.size → w'.heap[k]? = w.heap[k]?) (hs : w.heap.size ≤ w'.heap.size)
    (hold : ∀ i o, i ≠ i0 → S'.h.get i = some o → S.h.get i = some o ∧ ∀ e, E i = some e → e.b ≠ k0)
    (h0 : ∀ o, S'.h.get i0 = some o → ∃ e, E' i0 = some e ∧ e.b = k0 ∧ ObjR E' w' e o) (hF : F k0 = none)
    (ho : w'.os = w.os) (ht : w'.tape = w.tape) (hp : w'.output = w.output) : Sat G F W E' S' w' := by
  have key : ∀ i o, i ≠ i0 → S'.h.get i = some o → ∃ e, E i = some e ∧ E' i = some e ∧ e.b ≠ k0 ∧ ObjR E w e o := fun i o hi hio => by
    obtain ⟨h1, h2⟩ := hold i o hi hio
    obtain ⟨e, he, hr⟩ := h.obj i o h1
    exact ⟨e, he, hE _ _ he, h2 e he, hr⟩
  refine ⟨hnew, fun g hg => ?_, fun i o hio => ?_, fun i j o o' e e' hi hj he he' hb => ?_, fun i o e hi he => ?_, fun k o hk => ?_, Nat.le_trans h.size hs, ho.trans h.os, ht.trans h.tape, hp.trans h.output⟩
  · obtain ⟨e, he, hb, hd⟩ := h.glob g hg
    exact ⟨e, hE _ _ he, hb, hd⟩
  · by_cases hi : i = i0
    · subst hi
      obtain ⟨e, he, _, hr⟩ := h0 o hio
      exact ⟨e, he, hr⟩
    · obtain ⟨e, _, he, hne, hr⟩ := key i o hi hio
      exact ⟨e, he, hr.mono hE (hw _ hne hr.lt)⟩
  · by_cases hi0 : i = i0
    · by_cases hj0 : j = i0
      · rw [hi0, hj0]
      · obtain ⟨ej, hej, hej', hne, _⟩ := key j o' hj0 hj
        subst hi0
        obtain ⟨ei, hei, hb0, _⟩ := h0 o hi
        rw [hei] at he; cases he
        rw [hej'] at he'; cases he'
        exact absurd (hb.symm.trans hb0) hne
    · obtain ⟨ei, hei, hei', hne, _⟩ := key i o hi0 hi
      rw [hei'] at he; cases he
      by_cases hj0 : j = i0
      · subst hj0
        obtain ⟨ej, hej, hb0, _⟩ := h0 o' hj
        rw [hej] at he'; cases he'
        exact absurd (hb.trans hb0) hne
      · obtain ⟨ej, hej, hej', _, _⟩ := key j o' hj0 hj
        rw [hej'] at he'; cases he'
        exact h.inj i j o o' _ _ (hold i o hi0 hi).1 (hold j o' hj0 hj).1 hei hej hb
  · by_cases hi0 : i = i0
    · subst hi0
      obtain ⟨ei, hei, hb0, _⟩ := h0 o hi
      rw [hei] at he; cases he
      rw [hb0]; exact hF
    · obtain ⟨ei, hei, hei', _, _⟩ := key i o hi0 hi
      rw [hei'] at he; cases he
      exact h.own i o _ (hold i o hi0 hi).1 hei
  · have h1 := h.far k o hk
    have hlt : k < w.heap.size := (Array.getElem?_eq_some_iff.1 h1).1
    have hne : k ≠ k0 := fun e => by subst e; rw [hF] at hk; cases hk
    exact (hw k hne hlt).trans h1
theorem Sat.free_new (h : Sat G F W E S w) : F w.heap.size = none := by
  cases hF : F w.heap.size with
  | none => rfl
  | some o =>
    have := h.far _ _ hF
    simp at this
theorem SW.new_get (S : SW) (o : SObj) (i : Nat) : (S.new o).h.get i = if i = S.n then some o else S.h.get i := by
  unfold SW.new
  rw [Tr.putK_eq]
  exact Tr.get_put _ _ _ _
theorem SW.new_n (S : SW) (o : SObj) : (S.new o).n = S.n + 1 := by unfold SW.new; rw [Tr.putK_eq]
theorem SW.set_get (S : SW) (k : Nat) (o : SObj) (i : Nat) : (S.set k o).h.get i = if i = k then some o else S.h.get i := by
  unfold SW.set
  rw [Tr.putK_eq]
  exact Tr.get_put _ _ _ _
theorem SW.set_n (S : SW) (k : Nat) (o : SObj) : (S.set k o).n = S.n := by unfold SW.set; rw [Tr.putK_eq]
theorem SW.del_get (S : SW) (k : Nat) (i : Nat) : (S.del k).h.get i = if i = k then none else S.h.get i := by
  unfold SW.del
  rw [Tr.putK_eq]
  exact Tr.get_put _ _ _ _
theorem SW.del_n (S : SW) (k : Nat) : (S.del k).n = S.n := by unfold SW.del; rw [Tr.putK_eq]
def Env.put (E : Env) (n : Nat) (e : Ent) : Env := fun i => if i = n then some e else E i
theorem Env.put_same (E : Env) (n : Nat) (e : Ent) : E.put n e n = some e := by simp [Env.put]
theorem Env.put_le {E : Env} {n : Nat} (h : E n = none) (e : Ent) : E.le (E.put n e) := fun i f hf => by
  unfold Env.put
  split
  · subst i; rw [h] at hf; cases hf
  · exact hf
theorem Env.put_ext (E : Env) (n : Nat) (e : Ent) : Ext n E (E.put n e) := fun i hi => by unfold Env.put; rw [if_neg (by omega)]
/-- A block laid, under a new name. -/
theorem Sat.lay (h : Sat G F W E S w) (o : Obj) (so : SObj) (e : Ent) (hb : e.b = w.heap.size) (hr : ObjR (E.put S.n e) (w.alloc o) e so) :
    Sat G F W (E.put S.n e) (S.new so) (w.alloc o) := by
  have hle : E.le (E.put S.n e) := Env.put_le (h.new _ (Nat.le_refl _)) e
  refine h.step w.heap.size S.n hle (fun i hi => ?_) (fun k hk hlt => ?_) (by simp) (fun i o' hi hio => ?_) (fun o' hio => ?_) h.free_new rfl rfl rfl
  · rw [SW.new_n] at hi
    unfold Env.put
    rw [if_neg (by omega)]
    exact h.new i (by omega)
  · show (w.heap.push o)[k]? = _
    rw [Array.getElem?_push, if_neg (by omega)]
  · rw [SW.new_get, if_neg hi] at hio
    refine ⟨hio, fun e' he' => ?_⟩
    obtain ⟨e'', he'', hr''⟩ := h.obj i o' hio
    rw [he''] at he'; cases he'
    have := hr''.lt
    omega
  · rw [SW.new_get, if_pos rfl] at hio
    cases hio
    exact ⟨e, Env.put_same _ _ _, hb, hr⟩
/-- A block turned. -/
theorem Sat.turn (h : Sat G F W E S w) {i : Nat} {so : SObj} {e : Ent} (hi : S.h.get i = some so) (he : E i = some e) {w' : World} (so' : SObj) (hw : ∀ k, k ≠ e.b → w'.heap[k]? = w.heap[k]?) (hs : w'.heap.size = w.heap.size)
    (ho : w'.os = w.os) (ht : w'.tape = w.tape) (hp : w'.output = w.output) (hr : ObjR E w' e so') : Sat G F W E (S.set i so') w' := by
  refine h.step e.b i (Env.le.refl E) (fun j hj => h.new j (by rw [SW.set_n] at hj; exact hj)) (fun k hk _ => hw k hk) (by omega) (fun j o' hj hjo => ?_) (fun o' hio => ?_) (h.own i so e hi he) ho ht hp
  · rw [SW.set_get, if_neg hj] at hjo
    exact ⟨hjo, fun e' he' hb => hj (h.inj j i o' so e' e hjo hi he' he hb)⟩
  · rw [SW.set_get, if_pos rfl] at hio
    cases hio
    exact ⟨e, he, rfl, hr⟩
theorem Sat.del (h : Sat G F W E S w) (i : Nat) : Sat G F W E (S.del i) w := by
  have hget : ∀ j o, (S.del i).h.get j = some o → S.h.get j = some o := fun j o hj => by
    rw [SW.del_get] at hj
    split at hj
    · cases hj
    · exact hj
  exact ⟨fun j hj => h.new j (by rw [SW.del_n] at hj; exact hj), h.glob, fun j o hj => h.obj j o (hget j o hj), fun j k o o' e e' hj hk => h.inj j k o o' e e' (hget j o hj) (hget k o' hk), fun j o e hj => h.own j o e (hget j o hj), h.far, h.size, h.os, h.tape, h.output⟩

/-! ### Cells -/
theorem AR.add {a a' : Addr} (h : AR E a a') (n : Nat) : AR E (a.add n) (a'.add n) := by
  obtain ⟨hs, e, he, rfl⟩ := h
  unfold Addr.add
  split
  · exact ⟨hs, e, he, rfl⟩
  · refine ⟨rfl, e, he, ?_⟩
    show (⟨e.b, a.off + e.d + n, none⟩ : Addr) = ⟨e.b, a.off + n + e.d, none⟩
    congr 1
    omega
theorem Addr.add_block (a : Addr) (n : Nat) : (a.add n).block = a.block := by unfold Addr.add; split <;> rfl
theorem Addr.add_off (a : Addr) (n : Nat) : (a.add n).off = a.off + n := by unfold Addr.add; split <;> simp_all
theorem Addr.add_spot {a : Addr} (h : a.spot = none) (n : Nat) : (a.add n).spot = none := by unfold Addr.add; split <;> simp_all
theorem Addr.add_none (b o n : Nat) : (⟨b, o, none⟩ : Addr).add n = ⟨b, o + n, none⟩ := by unfold Addr.add; split <;> simp_all
theorem Sat.row (h : Sat G F W E S w) {a a' : Addr} (ha : AR E a a') {cs : List Value} {t : TypeId} {x : Bool} (hg : S.h.get a.block = some (.cells cs t x)) :
    ∃ e arr fr, E a.block = some e ∧ a' = ⟨e.b, a.off + e.d, none⟩ ∧ w.heap[e.b]? = some (.cells arr t fr) ∧ arr.size = e.d + e.k ∧ cs.length ≤ e.k ∧ (x = true → cs.length = e.k ∧ e.d = 0 ∧ fr = (0, 0)) ∧
      (∀ o, o < arr.size → ¬ (fr.1 ≤ o ∧ o < fr.2)) ∧ ∀ j v, cs[j]? = some v → ∃ v', arr[e.d + j]? = some v' ∧ VR E v v' := by
  obtain ⟨_, e, he, rfl⟩ := ha
  obtain ⟨e', he', arr, fr, h1, h2, h3, h4, h5, h6⟩ := h.obj _ _ hg
  rw [he] at he'; cases he'
  exact ⟨e, arr, fr, he, rfl, h1, h2, h3, h4, h5, h6⟩
theorem cell_arr {b o : Nat} {arr : Array Value} {t : TypeId} {fr : Nat × Nat} (h : w.heap[b]? = some (.cells arr t fr)) : w.cell? ⟨b, o, none⟩ = arr[o]? := by simp [World.cell?, h]
theorem frozen_arr {b o : Nat} {arr : Array Value} {t : TypeId} {fr : Nat × Nat} (h : w.heap[b]? = some (.cells arr t fr)) (hf : ¬ (fr.1 ≤ o ∧ o < fr.2)) : w.frozen? ⟨b, o, none⟩ = false := by
  simp only [World.frozen?, h, Bool.and_eq_false_iff, decide_eq_false_iff_not]
  by_cases h1 : fr.1 ≤ o
  · exact .inr fun h2 => hf ⟨h1, h2⟩
  · exact .inl h1
theorem cells_some {a : Addr} {n : Nat} {l : List Value} (h : S.cells a n = some l) : a.spot = none ∧ ∃ cs t x, S.h.get a.block = some (.cells cs t x) ∧ a.off + n ≤ cs.length ∧ l = (cs.drop a.off).take n := by
  unfold SW.cells at h
  split at h
  · rename_i cs t x hs hg
    rw [dropR_eq] at h
    by_cases h1 : a.off ≤ cs.length
    · rw [if_pos h1] at h
      simp only at h
      rw [takeR_eq] at h
      by_cases h2 : n ≤ (cs.drop a.off).length
      · rw [if_pos h2] at h
        cases h
        simp at h2
        exact ⟨hs, cs, t, x, hg, by omega, rfl⟩
      · rw [if_neg h2] at h; cases h
    · rw [if_neg h1] at h; cases h
  · cases h
/-- Cells read. -/
theorem Sat.read (h : Sat G F W E S w) {a a' : Addr} (ha : AR E a a') {n : Nat} {l : List Value} (hc : S.cells a n = some l) :
    l.length = n ∧ ∃ l' : List Value, VL E l l' ∧ ∀ (j : Nat) v', l'[j]? = some v' → w.cell? (a'.add j) = some v' := by
  obtain ⟨_, cs, t, x, hg, hlen, rfl⟩ := cells_some hc
  obtain ⟨e, arr, fr, he, rfl, h1, h2, h3, h4, h5, h6⟩ := h.row ha hg
  have hl : ((cs.drop a.off).take n).length = n := by simp; omega
  refine ⟨hl, (arr.toList.drop (a.off + e.d)).take n, ⟨by rw [hl]; simp; omega, fun i v v' hv hv' => ?_⟩, fun j v' hj => ?_⟩
  · rw [List.getElem?_take, List.getElem?_drop] at hv hv'
    split at hv
    · rename_i hi
      rw [if_pos hi] at hv'
      obtain ⟨u, hu, hr⟩ := h6 _ _ hv
      rw [show a.off + e.d + i = e.d + (a.off + i) by omega, Array.getElem?_toList, hu] at hv'
      cases hv'
      exact hr
    · cases hv
  · rw [List.getElem?_take, List.getElem?_drop] at hj
    split at hj
    · rw [Addr.add_none, cell_arr h1]
      simpa using hj
    · cases hj
theorem setCell_heap (w : World) (b o : Nat) (v : Value) {arr : Array Value} {t : TypeId} {fr : Nat × Nat} (h : w.heap[b]? = some (.cells arr t fr)) :
    (w.setCell ⟨b, o, none⟩ v).heap[b]? = some (.cells (arr.setIfInBounds o v) t fr) := by
  obtain ⟨hlt, hk⟩ := Array.getElem?_eq_some_iff.1 h
  show (w.heap.modify b _)[b]? = _
  rw [Array.getElem?_eq_getElem (by rw [Array.size_modify]; exact hlt), Array.getElem_modify_self, hk]
  rfl
theorem setCell_heap_other (w : World) (b o : Nat) (v : Value) {k : Nat} (h : k ≠ b) : (w.setCell ⟨b, o, none⟩ v).heap[k]? = w.heap[k]? := by
  show (w.heap.modify b _)[k]? = _
  rw [Array.getElem?_modify, if_neg (Ne.symm h)]
theorem setCells_heap (b : Nat) {t : TypeId} {fr : Nat × Nat} : ∀ (vs : List Value) (o : Nat) (w : World) (arr : Array Value), w.heap[b]? = some (.cells arr t fr) → o + vs.length ≤ arr.size →
    ∃ arr', (w.setCells b o vs).heap[b]? = some (.cells arr' t fr) ∧ arr'.size = arr.size ∧ ∀ j, arr'[j]? = if o ≤ j ∧ j < o + vs.length then vs[j - o]? else arr[j]?
  | [], o, w, arr, h, _ => ⟨arr, h, rfl, fun j => by rw [if_neg (by simp)]⟩
  | v :: r, o, w, arr, h, hl => by
    simp only [List.length_cons] at hl
    obtain ⟨arr', h1, h2, h3⟩ := setCells_heap b r (o + 1) (w.setCell ⟨b, o, none⟩ v) _ (setCell_heap w b o v h) (by simp; omega)
    refine ⟨arr', h1, by simpa using h2, fun j => ?_⟩
    rw [h3 j]
    simp only [List.length_cons]
    by_cases hj : o + 1 ≤ j ∧ j < o + 1 + r.length
    · rw [if_pos hj, if_pos (by omega), show j - o = (j - (o + 1)) + 1 by omega]
      simp
    · rw [if_neg hj]
      by_cases hj0 : j = o
      · subst hj0
        rw [if_pos (by omega)]
        simp [show j < arr.size by omega]
      · rw [if_neg (by omega), Array.getElem?_setIfInBounds_ne (by omega)]
theorem setCells_other (b : Nat) : ∀ (vs : List Value) (o : Nat) (w : World) (k : Nat), k ≠ b → (w.setCells b o vs).heap[k]? = w.heap[k]?
  | [], _, _, _, _ => rfl
  | v :: r, o, w, k, h => by rw [World.setCells, setCells_other b r _ _ _ h, setCell_heap_other w b o v h]
theorem setCells_rest (b : Nat) : ∀ (vs : List Value) (o : Nat) (w : World), (w.setCells b o vs).heap.size = w.heap.size ∧ (w.setCells b o vs).os = w.os ∧ (w.setCells b o vs).tape = w.tape ∧ (w.setCells b o vs).output = w.output
  | [], _, _ => ⟨rfl, rfl, rfl, rfl⟩
  | v :: r, o, w => by
    obtain ⟨h1, h2, h3, h4⟩ := setCells_rest b r (o + 1) (w.setCell ⟨b, o, none⟩ v)
    exact ⟨h1.trans (by simp [World.setCell]), h2, h3, h4⟩
theorem oneC_eq (v v' : Value) (h : VR E v v') : v'.oneCell' = oneC v := by cases h <;> rfl
/-- Cells written. -/
theorem Sat.write2 (h : Sat G F W E S w) {a a' : Addr} (ha : AR E a a') {vs vs' : List Value} (hv : VL E vs vs') {S' : SW} (hc : S.store a vs = some S') :
    ∃ b o, a' = ⟨b, o, none⟩ ∧ Sat G F W E S' (w.setCells b o vs') ∧ S'.n = S.n ∧ (∀ j, j < vs'.length → (w.cell? ⟨b, o + j, none⟩).isSome = true) ∧ (∀ j, j < vs'.length → w.frozen? ⟨b, o + j, none⟩ = false) ∧ (∀ v ∈ vs', v.oneCell' = true) := by
  unfold SW.store at hc
  split at hc
  · cases hc
    rw [LR.inv_nil hv]
    obtain ⟨_, e, he, rfl⟩ := ha
    exact ⟨e.b, a.off + e.d, rfl, h, rfl, fun j hj => by simp at hj, fun j hj => by simp at hj, fun v hv => by cases hv⟩
  · split at hc
    · rename_i cs t x hs hg
      by_cases hall : allL oneC vs = true
      · rw [hall, cond_true] at hc
        rw [setR_eq] at hc
        by_cases hlen : a.off + vs.length ≤ cs.length
        · rw [if_pos hlen] at hc
          cases hc
          obtain ⟨e, arr, fr, he, rfl, h1, h2, h3, h4, h5, h6⟩ := h.row ha hg
          have hl' := hv.1
          obtain ⟨arr', k1, k2, k3⟩ := setCells_heap e.b vs' (a.off + e.d) w arr h1 (by omega)
          obtain ⟨r1, r2, r3, r4⟩ := setCells_rest e.b vs' (a.off + e.d) w
          refine ⟨e.b, a.off + e.d, rfl, ?_, SW.set_n _ _ _, fun j hj => by rw [cell_arr h1, Array.getElem?_eq_getElem (by omega)]; rfl, fun j hj => frozen_arr h1 (h5 _ (by omega)), fun v' hv' => ?_⟩
          · refine h.turn hg he _ (fun k hk => setCells_other _ _ _ _ _ hk) r1 r2 r3 r4 ⟨arr', fr, k1, by omega, by simp; omega, fun hx => ?_, fun o ho => h5 o (by omega), fun j v hj => ?_⟩
            · obtain ⟨q1, q2, q3⟩ := h4 hx
              exact ⟨by simp; omega, q2, q3⟩
            · rw [k3]
              by_cases hj1 : j < a.off
              · rw [List.append_assoc, List.getElem?_append_left (by simp; omega), List.getElem?_take, if_pos hj1] at hj
                rw [if_neg (by omega)]
                exact h6 j v hj
              · by_cases hj2 : j < a.off + vs.length
                · rw [List.append_assoc, List.getElem?_append_right (by simp; omega), List.getElem?_append_left (by simp; omega)] at hj
                  simp only [List.length_take, show min a.off cs.length = a.off by omega] at hj
                  rw [if_pos (by omega), show e.d + j - (a.off + e.d) = j - a.off by omega]
                  exact hv.get hj
                · rw [List.getElem?_append_right (by simp; omega), List.getElem?_drop] at hj
                  simp only [List.length_append, List.length_take, show min a.off cs.length = a.off by omega] at hj
                  rw [show a.off + vs.length + (j - (a.off + vs.length)) = j by omega] at hj
                  rw [if_neg (by omega)]
                  exact h6 j v hj
          · obtain ⟨i, hi⟩ := List.getElem?_of_mem hv'
            have hlt : i < vs.length := by have := (List.getElem?_eq_some_iff.1 hi).1; omega
            have hx : vs[i]? = some (vs[i]'hlt) := List.getElem?_eq_getElem _
            rw [oneC_eq _ _ (hv.2 i _ _ hx hi)]
            exact (allL_iff _ _).1 hall _ (List.mem_of_getElem? hx)
        · rw [if_neg hlen] at hc; cases hc
      · rw [Bool.eq_false_iff.2 hall] at hc
        cases hc
    · cases hc
theorem Sat.write (h : Sat G F W E S w) {a a' : Addr} (ha : AR E a a') {vs vs' : List Value} (hv : VL E vs vs') {S' : SW} (hc : S.store a vs = some S') :
    ∃ w', (∀ P, (storeCells a' vs').run P w = .ok () w') ∧ Sat G F W E S' w' ∧ S'.n = S.n := by
  obtain ⟨b, o, rfl, h1, h2, h3, h4, h5⟩ := h.write2 ha hv hc
  refine ⟨_, fun P => ?_, h1, h2⟩
  have := run_storeCells_cells (P := P) b o vs' 0 w (by simpa using h3) (by simpa using h4) h5
  simpa using this
end
end Go.Proofs.YtaeophaecclnbaaGreatDoor
namespace Go.Proofs.YtaeophaecclnbaaGreatDoor
open Go

inductive DR (E : Env) : Deferred → Deferred → Prop
  | fn {f : FuncId} {cap cap' args args' : Array Value} (hc : VL E cap.toList cap'.toList) (ha : VL E args.toList args'.toList) : DR E ⟨.fn (.func f) cap, args⟩ ⟨.fn (.func f) cap', args'⟩
  | mark {r : Nat} {e : Ent} (h : E r = some e) : DR E ⟨.collected r, #[]⟩ ⟨.collected e.b, #[]⟩
theorem DR.mono {E E' : Env} {d d' : Deferred} (h : DR E d d') (hE : E.le E') : DR E' d d' := by
  cases h with
  | fn hc ha => exact .fn (hc.mono hE) (ha.mono hE)
  | mark h => exact .mark (hE _ _ h)
def OpOk (P : Program) (G : Nat) (F : Nat → Option Obj) (W : World) (E : Env) (S S' : SW) (w : World) (x : ONext) (r : Result Next) : Prop :=
  match x with
  | .val v => ∃ v' w' E', r = .ok (.value v') w' ∧ Ext S.n E E' ∧ S.n ≤ S'.n ∧ Sat G F W E' S' w' ∧ VR E' v v'
  | .skip => ∃ w' E', r = .ok .skip w' ∧ Ext S.n E E' ∧ S.n ≤ S'.n ∧ Sat G F W E' S' w'
  | .enter f args => ∃ args', r = .ok (.enter f args') w ∧ VL E args args'.toList ∧ S' = S
  | .round l args => ∃ e args', E l = some e ∧ r = (Instr.yield e.b args').run P w ∧ VL E args args'.toList ∧ S' = S
  | .defer d => ∃ d', r = .ok (.defer d') w ∧ DR E d d' ∧ S' = S
  | .recover => r = .ok .recover w ∧ S' = S
  | .panic v => ∃ v', r = .halt (.panic v') w ∧ VR E v v' ∧ S' = S
section
variable {P : Program} {G : Nat} {F : Nat → Option Obj} {W : World} {E : Env} {S S' : SW} {w : World}
theorem OpOk.val (h : Sat G F W E S w) {v v' : Value} (hv : VR E v v') {r : Result Next} (hr : r = .ok (.value v') w) : OpOk P G F W E S S w (.val v) r :=
  ⟨v', w, E, hr, Ext.refl _ _, Nat.le_refl _, h, hv⟩
/-! ### Types -/
theorem zeroOf_some {t : TypeId} {z : List Value} (h : zeroOf P t = some z) : ∃ i v, P.info? t = some i ∧ i.zero = some v ∧ z = v.cells.toList ∧ VL E z z := by
  unfold zeroOf at h
  split at h
  · rename_i i hi
    split at h
    · rename_i v hv
      by_cases hp : allPlain v.cells.toList = true
      · rw [hp] at h
        cases h
        refine ⟨i, v, hi, hv, rfl, rfl, fun k x y hx hy => ?_⟩
        rw [hx] at hy; cases hy
        exact plain_refl _ _ ((allL_iff _ _).1 hp x (List.mem_of_getElem? hx))
      · rw [Bool.eq_false_iff.2 hp] at h; cases h
    · cases h
  · cases h
theorem run_zero {t : TypeId} {i : TypeInfo} {v : Value} (hi : P.info? t = some i) (hz : i.zero = some v) (w : World) : (zeroValue t).run P w = .ok v w := by
  simp [zeroValue, typeInfo, hi, hz]
theorem sizeT_some {t : TypeId} {z : Nat} (h : sizeT P t = some z) : ∃ i, P.info? t = some i ∧ i.size = z := by
  unfold sizeT at h
  split at h
  · cases h; exact ⟨_, by assumption, rfl⟩
  · cases h
theorem run_size {t : TypeId} {i : TypeInfo} (hi : P.info? t = some i) (w : World) : (sizeOf t).run P w = .ok i.size w := by simp [sizeOf, typeInfo, hi]
theorem run_agg {t : TypeId} {d : TypeDesc} (hd : P.underlying t = some d) (w : World) : (isAgg t).run P w = .ok (isAggD d) w := by
  cases d <;> simp [isAgg, run_underlying hd, isAggD]
theorem run_loadN {l' : List Value} {a' : Addr} (h : ∀ (j : Nat) v', l'[j]? = some v' → w.cell? (a'.add j) = some v') {n : Nat} (hn : l'.length = n) : (loadCells a' n).run P w = .ok l'.toArray w := by
  subst hn; exact run_loadCells_list w a' l' h
theorem Addr.add_zero' (a : Addr) : a.add 0 = a := rfl
/-- A variable read. -/
theorem Sat.loadVar (h : Sat G F W E S w) {t : TypeId} {a a' : Addr} (ha : AR E a a') {v : Value} (hv : S.loadVar P t a = some v) : ∃ v', (loadVar t a').run P w = .ok v' w ∧ VR E v v' := by
  unfold SW.loadVar at hv
  split at hv
  · rename_i d i hd hi
    split at hv
    · rename_i hag
      split at hv
      · rename_i l hl
        cases hv
        obtain ⟨hn, l', hL, hc⟩ := h.read ha hl
        refine ⟨.agg l'.toArray, ?_, .agg' (by simpa using hL)⟩
        simp [Go.loadVar, run_agg hd, hag, run_size hi, run_loadN hc (hL.1.symm.trans hn)]
      · cases hv
    · rename_i hag
      split at hv
      · rename_i u hl
        cases hv
        obtain ⟨hn, l', hL, hc⟩ := h.read ha hl
        obtain ⟨v', m', rfl, hr, _⟩ := hL.inv_cons
        have := hc 0 v' rfl
        rw [Addr.add_zero'] at this
        exact ⟨v', by simp [Go.loadVar, run_agg hd, hag, this], hr⟩
      · cases hv
  · cases hv
theorem cells_VL {v v' : Value} (h : VR E v v') : VL E v.cells.toList v'.cells.toList := by
  cases h with
  | agg ha ha' => exact ⟨ha, ha'⟩
  | _ => exact LR.cons (by first | (constructor; done) | (constructor <;> assumption)) LR.nil
theorem cells_size {v v' : Value} (h : VR E v v') : v'.cells.size = v.cells.size := by
  have := (cells_VL h).1
  simpa using this.symm
/-- A variable written. -/
theorem Sat.storeVar (h : Sat G F W E S w) {t : TypeId} {a a' : Addr} (ha : AR E a a') {v v' : Value} (hv : VR E v v') (hs : S.storeVar P t a v = some S') :
    ∃ w', (storeVar t a' v').run P w = .ok () w' ∧ Sat G F W E S' w' ∧ S'.n = S.n := by
  unfold SW.storeVar at hs
  split at hs
  · rename_i i hi
    by_cases hl : Nat.beq v.cells.toList.length i.size = true
    · rw [hl, cond_true] at hs
      obtain ⟨w', hr, hsat, hn⟩ := h.write ha (cells_VL hv) hs
      refine ⟨w', ?_, hsat, hn⟩
      have h1 : v'.cells.size = i.size := (cells_size hv).trans (by simpa using Nat.eq_of_beq_eq_true hl)
      simp [Go.storeVar, run_size hi, h1, hr P]
    · rw [Bool.eq_false_iff.2 hl] at hs; cases hs
  · cases hs
/-- A new row. -/
theorem Sat.layRow (h : Sat G F W E S w) {cs : List Value} {arr : Array Value} (hc : VL E cs arr.toList) (t : TypeId) :
    Sat G F W (E.put S.n ⟨w.heap.size, 0, arr.size⟩) (S.new (.cells cs t true)) (w.alloc (.cells arr t)) := by
  have hle : E.le (E.put S.n ⟨w.heap.size, 0, arr.size⟩) := Env.put_le (h.new _ (Nat.le_refl _)) _
  have hl : cs.length = arr.size := by simpa using hc.1
  refine h.lay _ _ _ rfl ⟨arr, (0, 0), ?_, by simp, by simp [hl], fun _ => ⟨hl, rfl, rfl⟩, fun o _ ho => by omega, fun j v hj => ?_⟩
  · show (w.heap.push _)[w.heap.size]? = _
    simp
  · obtain ⟨v', h1, h2⟩ := hc.get hj
    exact ⟨v', by simpa using h1, h2.mono hle⟩
theorem VR.new (E : Env) (n b d k : Nat) : VR (E.put n ⟨b, d, k⟩) (.pointer (some ⟨n, 0, none⟩)) (.pointer (some ⟨b, d, none⟩)) :=
  .ptr ⟨rfl, _, Env.put_same _ _ _, by simp⟩
/-! ### Parts -/
theorem fill_foldl (off : Nat) : ∀ (l l' : List (Value × Nat)), LR (fun p q => VR E p.1 q.1 ∧ p.2 = q.2) l l' → ∀ (c c' : Array Value), VL E c.toList c'.toList →
    VL E (l.foldl (fun cs p => cs.setIfInBounds (off + p.2) p.1) c).toList (l'.foldl (fun cs p => cs.setIfInBounds (off + p.2) p.1) c').toList
  | [], l', hl, c, c', hc => by rw [LR.inv_nil hl]; exact hc
  | p :: l, l', hl, c, c', hc => by
    obtain ⟨q, m, rfl, ⟨h1, h2⟩, hm⟩ := hl.inv_cons
    simp only [List.foldl_cons]
    refine fill_foldl off l m hm _ _ ⟨by simpa using hc.1, fun i x y hx hy => ?_⟩
    rw [← h2] at hy
    have hs := hc.1
    simp at hs
    simp only [Array.getElem?_toList] at hx hy
    by_cases hi : off + p.2 = i
    · subst hi
      by_cases hlt : off + p.2 < c.size
      · rw [Array.getElem?_setIfInBounds_self_of_lt hlt] at hx
        rw [Array.getElem?_setIfInBounds_self_of_lt (by omega)] at hy
        cases hx; cases hy; exact h1
      · rw [Array.getElem?_eq_none (by simp; omega)] at hx; cases hx
    · rw [Array.getElem?_setIfInBounds_ne hi] at hx hy
      exact hc.2 i x y (by simpa using hx) (by simpa using hy)
theorem fill_rel (place : Nat → Option (Nat × Nat)) : ∀ (ps ps' : List (Nat × Value)), LR (fun p q => p.1 = q.1 ∧ VR E p.2 q.2) ps ps' → ∀ (c c' : Array Value), VL E c.toList c'.toList → ∀ r, Instr.fill place c ps = some r →
    ∃ r', Instr.fill place c' ps' = some r' ∧ VL E r.toList r'.toList
  | [], ps', hp, c, c', hc, r, h => by
    rw [LR.inv_nil hp]
    simp only [Instr.fill] at h
    cases h
    exact ⟨c', rfl, hc⟩
  | (i, v) :: ps, ps', hp, c, c', hc, r, h => by
    obtain ⟨⟨i', v'⟩, m, rfl, ⟨h1, h2⟩, hm⟩ := hp.inv_cons
    simp only at h1 h2
    subst h1
    simp only [Instr.fill] at h ⊢
    cases hpl : place i with
    | none => rw [hpl] at h; cases h
    | some os =>
      obtain ⟨off, size⟩ := os
      rw [hpl] at h
      simp only at h ⊢
      have hs := cells_size h2
      have hcs : c'.size = c.size := by have := hc.1; simpa using this.symm
      rw [hs, hcs]
      split at h
      · cases h
      · rename_i hno
        rw [if_neg hno]
        refine fill_rel place ps m hm _ _ ?_ r h
        have := fill_foldl (E := E) off v.cells.toList.zipIdx v'.cells.toList.zipIdx ?_ c c' hc
        · rw [← Array.foldl_toList, ← Array.foldl_toList]
          simpa using this
        · have hL := cells_VL h2
          refine ⟨by simp [hs], fun k x y hx hy => ?_⟩
          rw [List.getElem?_zipIdx] at hx hy
          cases h3 : v.cells.toList[k]? with
          | none => rw [h3] at hx; cases hx
          | some a =>
            obtain ⟨b, h4, hr⟩ := hL.get h3
            rw [h3] at hx; rw [h4] at hy
            simp at hx hy
            subst hx; subst hy
            exact ⟨hr, rfl⟩
theorem run_mapM_places : ∀ (fs : List Field) (l : List (Nat × Nat)), fs.mapM (fun f => match sizeT P f.type with | some n => some (f.offset, n) | none => none) = some l →
    (fs.mapM fun f => (do pure (f.offset, ← sizeOf f.type) : Sem (Nat × Nat))).run P w = .ok l w
  | [], l, h => by simp at h; subst h; simp
  | f :: fs, l, h => by
    simp only [List.mapM_cons] at h ⊢
    cases hz : sizeT P f.type with
    | none => rw [hz] at h; simp at h
    | some z =>
      rw [hz] at h
      cases hm : fs.mapM (fun f => match sizeT P f.type with | some n => some (f.offset, n) | none => none) with
      | none => rw [hm] at h; simp at h
      | some m =>
        rw [hm] at h
        simp at h
        subst h
        obtain ⟨i, hi, rfl⟩ := sizeT_some hz
        have := run_mapM_places fs m hm
        simp only [Sem.run_bind, run_size hi, Result.andThen_ok, Sem.run_pure, this]
theorem build_ok {t : TypeId} {ps ps' : List (Nat × Value)} (hp : LR (fun p q => p.1 = q.1 ∧ VR E p.2 q.2) ps ps') {v : Value} (h : buildS P t ps = some v) :
    ∃ v', (Instr.build t ps'.toArray).run P w = .ok v' w ∧ VR E v v' := by
  unfold buildS at h
  split at h
  · rename_i z fs hz hd
    obtain ⟨i, v0, hi, hv0, rfl, hzz⟩ := zeroOf_some (E := E) hz
    split at h
    · rename_i places hpl
      split at h
      · rename_i cs hcs
        cases h
        obtain ⟨r', hr', hL⟩ := fill_rel (E := E) (fun i => places[i]?) ps ps' hp v0.cells.toList.toArray v0.cells (by simpa using hzz) cs hcs
        refine ⟨.agg r', ?_, .agg' hL⟩
        have hm := run_mapM_places (w := w) fs.toList places hpl
        simp only [Instr.build, Sem.run_bind, run_zero hi hv0, Result.andThen_ok, run_underlying hd, Array.mapM_eq_mapM_toList, Sem.run_map, hm]
        simp only [List.getElem?_toArray, hr']
        rfl
      · cases h
    · cases h
  · rename_i z k e hz hd
    obtain ⟨i, v0, hi, hv0, rfl, hzz⟩ := zeroOf_some (E := E) hz
    split at h
    · rename_i n hn
      obtain ⟨j, hj, rfl⟩ := sizeT_some hn
      split at h
      · rename_i cs hcs
        cases h
        obtain ⟨r', hr', hL⟩ := fill_rel (E := E) _ ps ps' hp v0.cells.toList.toArray v0.cells (by simpa using hzz) cs hcs
        refine ⟨.agg r', ?_, .agg' hL⟩
        simp only [Instr.build, Sem.run_bind, run_zero hi hv0, Result.andThen_ok, run_underlying hd, run_size hj, hr']
        rfl
      · cases h
    · cases h
  · cases h
/-- The same cells again and again. -/
theorem repL_length (n : Nat) (l : List Value) : (repL n l).length = n * l.length := by
  induction n with
  | zero => show ([] : List Value).length = _; simp
  | succ n ih =>
    show (l ++ repL n l).length = _
    rw [List.length_append, ih, Nat.succ_mul, Nat.add_comm]
theorem repL_get (l : List Value) (hl : 0 < l.length) : ∀ (n i : Nat), i < n * l.length → (repL n l)[i]? = l[i % l.length]?
  | 0, i, h => by omega
  | n + 1, i, h => by
    show (l ++ repL n l)[i]? = _
    by_cases hi : i < l.length
    · rw [List.getElem?_append_left hi, Nat.mod_eq_of_lt hi]
    · rw [List.getElem?_append_right (by omega), repL_get l hl n _ (by rw [Nat.succ_mul] at h; omega), Nat.mod_eq_sub_mod (Nat.le_of_not_lt hi)]
theorem zeros_eq (zero : Array Value) (n : Nat) : ((Array.range (n * zero.size)).map (zero[· % zero.size]!)).toList = repL n zero.toList := by
  apply List.ext_getElem?
  intro i
  by_cases hi : i < n * zero.size
  · have h0 : 0 < zero.size := Nat.pos_of_mul_pos_right (Nat.lt_of_le_of_lt (Nat.zero_le _) hi) |> fun h => by
      rcases Nat.eq_zero_or_pos zero.size with h' | h'
      · rw [h'] at hi; simp at hi
      · exact h'
    rw [repL_get _ (by simpa using h0) _ _ (by simpa using hi)]
    have hm : i % zero.size < zero.size := Nat.mod_lt _ h0
    simp [hi, hm]
  · rw [List.getElem?_eq_none (by simpa using hi), List.getElem?_eq_none (by rw [repL_length]; simpa using hi)]
end
end Go.Proofs.YtaeophaecclnbaaGreatDoor
namespace Go.Proofs.YtaeophaecclnbaaGreatDoor
open Go
section
variable {P : Program} {G : Nat} {F : Nat → Option Obj} {W : World} {E : Env} {S S' : SW} {w : World}
/-! ### Are they the same? -/
theorem sameP_ok (h : Sat G F W E S w) {a b a' b' : Addr} (ha : AR E a a') (hb : AR E b b') {z : Nat} {r : Bool} (hr : sameP S z a b = some r) : z ≠ 0 ∧ (sameAddr a' b').run P w = .ok r w := by
  unfold sameP at hr
  split at hr
  · rename_i cs t h1
    split at hr
    · rename_i ds u h2
      by_cases hz : Nat.beq z 0 = true
      · rw [hz] at hr; cases hr
      rw [Bool.eq_false_iff.2 hz] at hr
      cases hr
      refine ⟨fun hc => hz (by rw [hc]; rfl), ?_⟩
      obtain ⟨e, arr, fr, he, rfl, k1, k2, k3, k4, k5, _⟩ := h.row ha h1
      obtain ⟨f, arr', fr', hf, rfl, q1, q2, q3, q4, q5, _⟩ := h.row hb h2
      unfold sameAddr
      by_cases hbl : a.block = b.block
      · rw [hbl] at he
        rw [he] at hf; cases hf
        simp only [hbl, beq_self_eq_true, if_true, Sem.run_pure, Nat.beq_refl, Bool.true_and]
        congr 1
        by_cases ho : a.off = b.off
        · simp [ho]
        · have h3 : Nat.beq a.off b.off = false := by rw [Bool.eq_false_iff]; exact fun h => ho (Nat.eq_of_beq_eq_true h)
          rw [h3, beq_eq_false_iff_ne]
          intro hc
          injection hc with _ hc _
          omega
      · have hne : e.b ≠ f.b := fun hc => hbl (h.inj _ _ _ _ _ _ h1 h2 he hf hc)
        have h3 : Nat.beq a.block b.block = false := by rw [Bool.eq_false_iff]; exact fun h => hbl (Nat.eq_of_beq_eq_true h)
        have hfr := (k4 rfl).2.2
        have hfr' := (q4 rfl).2.2
        subst hfr
        subst hfr'
        have f1 : w.frozen? ⟨e.b, a.off + e.d, none⟩ = false := frozen_arr k1 (by simp)
        have f2 : w.frozen? ⟨e.b, arr.size, none⟩ = false := frozen_arr k1 (by simp)
        have g1 : w.frozen? ⟨f.b, b.off + f.d, none⟩ = false := frozen_arr q1 (by simp)
        have g2 : w.frozen? ⟨f.b, arr'.size, none⟩ = false := frozen_arr q1 (by simp)
        have s1 : w.shape? e.b = some (t, arr.size) := by simp [World.shape?, k1]
        have s2 : w.shape? f.b = some (u, arr'.size) := by simp [World.shape?, q1]
        simp [hne, h3, f1, f2, g1, g2, s1, s2, noView, viewAt, mayBeOne, stringish]
    · cases hr
  · cases hr
theorem eq_ok' (h : Sat G F W E S w) {t : TypeId} {x y x' y' : Value} (hx : VR E x x') (hy : VR E y y') {b : Bool} (he : eqS P S t x y = some b) (d : Nat) : (Op.equalIn (d + 1) t x' y').run P w = .ok b w := by
  unfold eqS at he
  split at he
  · rename_i hd; cases he; cases hx; cases hy; simp [Op.equalIn, run_underlying hd]
  · rename_i hd; cases he; cases hx; cases hy; simp [Op.equalIn, run_underlying hd]
  · rename_i el a c hd
    split at he
    · rename_i z hz
      cases hx with | ptr ha => cases hy with | ptr hb =>
      obtain ⟨hz0, hr⟩ := sameP_ok (P := P) h ha hb he
      obtain ⟨i, hi, rfl⟩ := sizeT_some hz
      simp [Op.equalIn, run_underlying hd, run_size hi, hz0, hr]
    · cases he
  · rename_i hd; cases he; cases hx; cases hy; simp [Op.equalIn, run_underlying hd]
  · rename_i hd; cases he; cases hx; cases hy; simp [Op.equalIn, run_underlying hd]
  · rename_i hd; cases he; cases hx; cases hy; simp [Op.equalIn, run_underlying hd]
  · rename_i hd; cases he; cases hx; cases hy; simp [Op.equalIn, run_underlying hd]
  · rename_i hd; cases he; cases hx; cases hy; simp [Op.equalIn, run_underlying hd]
  · rename_i hd; cases he; cases hx; cases hy; simp [Op.equalIn, run_underlying hd]
  · rename_i hd; cases he; cases hx; cases hy; simp [Op.equalIn, run_underlying hd]
  · rename_i hd; cases he; cases hx; cases hy; simp [Op.equalIn, run_underlying hd]
  · rename_i t1 v1 t2 v2 hd
    by_cases hc : Nat.beq t1 t2 = true
    · rw [hc] at he; cases he
    · rw [Bool.eq_false_iff.2 hc] at he
      cases he
      cases hx; cases hy
      have hne : t1 ≠ t2 := fun e => hc (by rw [e]; exact Nat.beq_refl _)
      simp [Op.equalIn, run_underlying hd, hne]
  · cases he
theorem eq_ok (h : Sat G F W E S w) {t : TypeId} {x y x' y' : Value} (hx : VR E x x') (hy : VR E y y') {b : Bool} (he : eqS P S t x y = some b) : (Op.equal t x' y').run P w = .ok b w :=
  eq_ok' h hx hy he 9999
/-! ### Slices -/
def OR (R : Value → Value → Prop) : Option Value → Option Value → Prop
  | none, none => True
  | some x, some y => R x y
  | _, _ => False
theorem run_bnd {d y n : Nat} {lo lo' : Option Value} (ho : OR (VR E) lo lo') (h : bndS d y lo = some n) (code : BoundsCode) :
    (match lo' with
      | some v => (Instr.sliceBound v y code).run P w
      | none => .ok d w) = .ok n w ∧ (lo = none → n = d) ∧ (∀ v, lo = some v → n ≤ y) := by
  cases lo with
  | none =>
    cases lo' with
    | none => simp only [bndS] at h; cases h; exact ⟨rfl, fun _ => rfl, fun _ h => by cases h⟩
    | some v => exact ho.elim
  | some x =>
    cases lo' with
    | none => exact ho.elim
    | some x' =>
      unfold bndS at h
      split at h
      · rename_i heq; cases heq
      · rename_i k m heq
        cases heq
        by_cases hle : Nat.ble m y = true
        · rw [hle] at h
          cases h
          have hle' := Nat.le_of_ble_eq_true hle
          cases (show VR E (.int k (.ofNat n)) x' from ho)
          refine ⟨?_, fun h => (by cases h), fun _ _ => hle'⟩
          have h2 : ((n : Int)) ≤ (y : Int) := by omega
          simp [Instr.sliceBound, asIntOf, h2]
        · rw [Bool.eq_false_iff.2 hle] at h; cases h
      · cases h
theorem slice_exact {E : Env} {a a' : Addr} {cap : Nat} {h l m : Nat} (hs : a.spot = none) (hor : cap = 0 ∨ AR E a a') (hcap : m < CAPX) (hm : m ≤ cap) (hh : h ≤ m) (hl : l ≤ h) (z : Nat) :
    VR E (.slice (some (bif Nat.beq m l then a else a.add (l * z))) (h - l) (m - l)) (.slice (some (if m = l then a' else a'.add (l * z))) (h - l) (m - l)) := by
  refine .sl ⟨?_, by omega, ?_, .inl ⟨by omega, rfl⟩⟩
  · by_cases hml : m = l
    · simp [hml, hs]
    · have : Nat.beq m l = false := by rw [Bool.eq_false_iff]; exact fun h => hml (Nat.eq_of_beq_eq_true h)
      rw [this]; exact Addr.add_spot hs _
  · by_cases hml : m = l
    · exact .inl (by omega)
    · have : Nat.beq m l = false := by rw [Bool.eq_false_iff]; exact fun h => hml (Nat.eq_of_beq_eq_true h)
      rw [this, if_neg hml]
      exact .inr ((hor.resolve_left (by omega)).add _)
theorem run_bnds (isSlice : Bool) {y d : Nat} {lo lo' hi hi' : Option Value} {h l : Nat} (hlo : OR (VR E) lo lo') (hhi : OR (VR E) hi hi') (h1 : bndS d y hi = some h) (h2 : bndS 0 h lo = some l) (hd : d ≤ y) :
    (Instr.sliceBounds isSlice d y lo' hi' none).run P w = .ok (l, h, y) w ∧ h ≤ y ∧ l ≤ h := by
  have hh : h ≤ y := by
    cases hi with
    | none => simp only [bndS] at h1; cases h1; exact hd
    | some v => exact (run_bnd (P := P) (w := w) hhi h1 .sliceAcap).2.2 v rfl
  have hl : l ≤ h := by
    cases lo with
    | none => simp only [bndS] at h2; cases h2; omega
    | some v => exact (run_bnd (P := P) (w := w) hlo h2 .sliceB).2.2 v rfl
  refine ⟨?_, hh, hl⟩
  have r1 := (run_bnd (P := P) (w := w) hhi h1 (if isSlice then .sliceAcap else .sliceAlen)).1
  have r2 := (run_bnd (P := P) (w := w) hlo h2 .sliceB).1
  unfold Instr.sliceBounds
  cases hi' with
  | none =>
    cases lo' with
    | none => simp only at r1 r2; cases r1; cases r2; simp
    | some u => simp only at r1 r2; cases r1; simp [r2]
  | some v =>
    cases lo' with
    | none => simp only at r1 r2; cases r2; simp [r1]
    | some u => simp only at r1 r2; simp [r1, r2]
theorem run_bnds3 {len y m : Nat} {k : IntKind} {lo lo' : Option Value} {hi hi' : Value} {h l : Nat} (hlo : OR (VR E) lo lo') (hhi : VR E hi hi') (hm : m ≤ y) (h1 : bndS 0 m (some hi) = some h) (h2 : bndS 0 h lo = some l) :
    (Instr.sliceBounds true len y lo' (some hi') (some (.int k (.ofNat m)))).run P w = .ok (l, h, m) w ∧ h ≤ m ∧ l ≤ h := by
  have q1 := run_bnd (P := P) (w := w) (lo := some hi) (lo' := some hi') hhi h1 .slice3B
  have hh := q1.2.2 hi rfl
  have hl : l ≤ h := by
    cases lo with
    | none => simp only [bndS] at h2; cases h2; omega
    | some v => exact (run_bnd (P := P) (w := w) hlo h2 .sliceB).2.2 v rfl
  refine ⟨?_, hh, hl⟩
  have r1 := q1.1
  have r2 := (run_bnd (P := P) (w := w) hlo h2 .slice3C).1
  have r0 : (Instr.sliceBound (.int k (m : Int)) y .slice3Acap).run P w = .ok m w := by
    have : ((m : Int)) ≤ (y : Int) := by omega
    simp [Instr.sliceBound, asIntOf, this]
  simp only at r1
  unfold Instr.sliceBounds
  cases lo' with
  | none => simp only at r2; cases r2; simp [r0, r1]
  | some u => simp only at r2; simp [r0, r1, r2]
theorem sl_cap {a : Addr} {len cap : Nat} {a' : Addr} {cap' : Nat} (hc : CR E a len cap a' cap') : cap < CAPX → cap' = cap := fun h => by
  rcases hc.2.2.2 with ⟨_, h⟩ | ⟨z, e, h1, _⟩
  · exact h
  · omega
theorem slE_ok {a a' : Addr} {len cap z : Nat} {lo lo' hi hi' : Option Value} (hlo : OR (VR E) lo lo') (hhi : OR (VR E) hi hi') {v : Value} (hs : a.spot = none) (hor : cap = 0 ∨ AR E a a') (hcap : cap < CAPX) (hlen : len ≤ cap) (h : slE z a len cap lo hi = some v) (b : Bool) :
    ∃ hh l, (Instr.sliceBounds b len cap lo' hi' none).run P w = .ok (l, hh, cap) w ∧ VR E v (.slice (some (if cap = l then a' else a'.add (l * z))) (hh - l) (cap - l)) := by
  unfold slE at h
  split at h
  · cases h
  · rename_i hh h1
    split at h
    · cases h
    · rename_i l h2
      cases h
      obtain ⟨hr, hle1, hle2⟩ := run_bnds (P := P) (w := w) b hlo hhi h1 h2 hlen
      exact ⟨hh, l, hr, slice_exact hs hor hcap (Nat.le_refl _) hle1 hle2 z⟩
theorem slice_ok {t : TypeId} {x x' : Value} (hx : VR E x x') {lo lo' hi hi' mx mx' : Option Value} (hlo : OR (VR E) lo lo') (hhi : OR (VR E) hi hi') (hmx : OR (VR E) mx mx') {v : Value} (h : sliceS P t x lo hi mx = some v) :
    ∃ v', (Instr.sliceAt t x' lo' hi' mx').run P w = .ok v' w ∧ VR E v v' := by
  unfold sliceS at h
  split at h
  · rename_i el a len cap hd
    cases hx with | sl hc =>
    rename_i a' cap'
    split at h
    · cases h
    · rename_i z hz
      obtain ⟨i, hsi, rfl⟩ := sizeT_some hz
      have hsat : (Instr.sliceAt t (.slice (some a') len cap') lo' hi' mx').run P w = (Instr.slice t (.slice (some a') len cap') lo' hi' mx').run P w := by
        simp [Instr.sliceAt, run_underlying hd]
      rw [hsat]
      have hlen := hc.2.1
      split at h
      · rename_i k m
        cases mx' with
        | none => exact hmx.elim
        | some mv =>
        cases (show VR E (.int k (.ofNat m)) mv from hmx)
        unfold sl3 at h
        by_cases hm : (Nat.ble m (bif Nat.ble CAPX cap then len else cap) && Nat.blt m CAPX) = true
        · rw [hm, cond_true] at h
          rw [Bool.and_eq_true] at hm
          have hm' := Nat.le_of_ble_eq_true hm.1
          have hmX : m < CAPX := Nat.le_of_ble_eq_true hm.2
          have hmc : m ≤ cap' := by
            by_cases hX : Nat.ble CAPX cap = true
            · rw [hX, cond_true] at hm'; omega
            · rw [Bool.eq_false_iff.2 hX, cond_false] at hm'
              have := sl_cap hc (by rw [Nat.ble_eq] at hX; omega)
              omega
          split at h
          · cases h
          · rename_i hiv
            cases hi' with
            | none => exact hhi.elim
            | some hiv' =>
            split at h
            · cases h
            · rename_i hh h1
              split at h
              · cases h
              · rename_i l h2
                cases h
                obtain ⟨hr, hle1, hle2⟩ := run_bnds3 (P := P) (w := w) (len := len) (k := k) hlo hhi hmc h1 h2
                exact ⟨_, by simp only [Instr.slice, Sem.run_bind, run_underlying hd, Result.andThen_ok, hr, run_size hsi, Option.map_some]; rfl, by
                  have := slice_exact (E := E) (a' := a') hc.1 hc.2.2.1 hmX hmc hle1 hle2 i.size
                  split <;> simp_all⟩
        · rw [Bool.eq_false_iff.2 hm] at h; cases h
      · cases h
      · cases mx' with
        | some _ => exact hmx.elim
        | none =>
        by_cases hX : Nat.ble CAPX cap = true
        · rw [hX, cond_true] at h
          unfold slX at h
          by_cases hz' : Nat.beq cap (CAPX + i.size) = true
          · rw [hz', cond_true] at h
            have hz'' := Nat.eq_of_beq_eq_true hz'
            split at h
            · cases h
            · rename_i hh h1
              split at h
              · cases h
              · rename_i l h2
                cases h
                have h1' : bndS len cap' hi = some hh := by
                  cases hi with
                  | none => exact h1
                  | some hv =>
                    unfold bndS at h1 ⊢
                    split at h1
                    · rename_i heq; cases heq
                    · rename_i k n heq
                      cases heq
                      by_cases hle : Nat.ble n len = true
                      · rw [hle] at h1
                        cases h1
                        have := Nat.le_of_ble_eq_true hle
                        rw [show Nat.ble hh cap' = true from by rw [Nat.ble_eq]; omega]
                        rfl
                      · rw [Bool.eq_false_iff.2 hle] at h1; cases h1
                    · cases h1
                obtain ⟨hr, hle1, hle2⟩ := run_bnds (P := P) (w := w) true hlo hhi h1' h2 hlen
                have hhl : hh ≤ len := by
                  cases hi with
                  | none => simp only [bndS] at h1; cases h1; omega
                  | some hv => exact (run_bnd (P := P) (w := w) hhi h1 .sliceAcap).2.2 hv rfl
                refine ⟨_, by simp only [Instr.slice, Sem.run_bind, run_underlying hd, Result.andThen_ok, hr, run_size hsi, Option.map_some]; rfl, ?_⟩
                obtain ⟨hs, _, hor, hcx⟩ := hc
                rcases hcx with ⟨hcx, _⟩ | ⟨z, e, hcz, he, heq⟩
                · omega
                have hzz : z = i.size := by omega
                subst hzz
                have hk : (a.add (l * i.size)).off + (cap' - l) * i.size = e.k := by
                  rw [Addr.add_off, ← heq, Nat.sub_mul, Nat.add_assoc]
                  congr 1
                  have : l * i.size ≤ cap' * i.size := Nat.mul_le_mul_right _ (by omega)
                  omega
                have hsome : (if cap' = l then some a' else some (a'.add (l * i.size))) = some (if cap' = l then a' else a'.add (l * i.size)) := by split <;> rfl
                have goal : VR E (.slice (some (a.add (l * i.size))) (hh - l) (CAPX + i.size)) (.slice (some (if cap' = l then a' else a'.add (l * i.size))) (hh - l) (cap' - l)) := by
                  refine .sl ⟨Addr.add_spot hs _, by omega, ?_, .inr ⟨i.size, e, rfl, by rw [Addr.add_block]; exact he, hk⟩⟩
                  by_cases hcl : cap' = l
                  · exact .inl (by omega)
                  · rw [if_neg hcl]
                    exact .inr ((hor.resolve_left (by omega)).add _)
                first | exact goal | (rw [hsome]; exact goal) | simpa [hsome] using goal
          · rw [Bool.eq_false_iff.2 hz'] at h; cases h
        · rw [Bool.eq_false_iff.2 hX, cond_false] at h
          have hcap : cap < CAPX := by rw [Nat.ble_eq] at hX; omega
          cases sl_cap hc hcap
          obtain ⟨hh, l, hr, hv⟩ := slE_ok (P := P) (w := w) hlo hhi hc.1 hc.2.2.1 hcap hlen h true
          refine ⟨_, by simp only [Instr.slice, Sem.run_bind, run_underlying hd, Result.andThen_ok, hr, run_size hsi, Option.map_some]; rfl, ?_⟩
          split <;> simp_all
  · rename_i n el a hd
    cases hx with | ptr ha =>
    rename_i a'
    split at h
    · cases h
    · rename_i z hz
      obtain ⟨i, hsi, rfl⟩ := sizeT_some hz
      split at h
      · cases h
      · cases mx' with
        | some _ => exact hmx.elim
        | none =>
        by_cases hX : Nat.ble CAPX n = true
        · rw [hX] at h; cases h
        · rw [Bool.eq_false_iff.2 hX, cond_false] at h
          have hcap : n < CAPX := by rw [Nat.ble_eq] at hX; omega
          obtain ⟨hh, l, hr, hv⟩ := slE_ok (P := P) (w := w) hlo hhi ha.1 (.inr ha) hcap (Nat.le_refl _) h false
          refine ⟨_, by simp only [Instr.sliceAt, Sem.run_bind, run_underlying hd, Result.andThen_ok, Instr.sureAddr, Sem.run_pure, hr, run_size hsi]; rfl, ?_⟩
          split <;> simp_all
  · cases h
end
end Go.Proofs.YtaeophaecclnbaaGreatDoor
namespace Go.Proofs.YtaeophaecclnbaaGreatDoor
open Go
section
variable {P : Program} {G : Nat} {F : Nat → Option Obj} {W : World} {E : Env} {S S' : SW} {w : World}
theorem indexAt_ok {t : TypeId} {x x' i i' : Value} (hx : VR E x x') (hi : VR E i i') {v : Value} (h : indexAtS P t x i = some v) : ∃ v', (Instr.indexAt t x' i').run P w = .ok v' w ∧ VR E v v' := by
  unfold indexAtS at h
  split at h
  · rename_i el a len cap k n hd
    cases hi
    cases hx with | sl hc =>
    rename_i a' cap'
    split at h
    · rename_i z hz
      obtain ⟨j, hj, rfl⟩ := sizeT_some hz
      by_cases hlt : Nat.blt n len = true
      · rw [hlt] at h
        cases h
        have hlt' : n < len := Nat.le_of_ble_eq_true hlt
        refine ⟨.pointer (some (a'.add (n * j.size))), ?_, .ptr ((hc.2.2.1.resolve_left (by have := hc.2.1; omega)).add _)⟩
        simp [Instr.indexAt, asIntOf, run_underlying hd, run_size hj]
        intro hc'; omega
      · rw [Bool.eq_false_iff.2 hlt] at h; cases h
    · cases h
  · rename_i len el a k n hd
    cases hi
    cases hx with | ptr ha =>
    rename_i a'
    split at h
    · rename_i z hz
      obtain ⟨j, hj, rfl⟩ := sizeT_some hz
      by_cases hlt : Nat.blt n len = true
      · rw [hlt] at h
        cases h
        have hlt' : n < len := Nat.le_of_ble_eq_true hlt
        refine ⟨.pointer (some (a'.add (n * j.size))), ?_, .ptr (ha.add _)⟩
        simp [Instr.indexAt, asIntOf, run_underlying hd, run_size hj, Instr.sureAddr]
        intro hc'; omega
      · rw [Bool.eq_false_iff.2 hlt] at h; cases h
    · cases h
  · cases h
theorem fieldAt_ok {t : TypeId} {x x' : Value} (hx : VR E x x') {f : Nat} {v : Value} (h : fieldAtS P t x f = some v) : ∃ v', (Instr.fieldAt t x' f).run P w = .ok v' w ∧ VR E v v' := by
  unfold fieldAtS at h
  split at h
  · rename_i fs a hd
    cases hx with | ptr ha =>
    rename_i a'
    split at h
    · rename_i fd hfd
      split at h
      · rename_i z hz
        obtain ⟨j, hj, rfl⟩ := sizeT_some hz
        by_cases hz0 : Nat.beq j.size 0 = true
        · rw [hz0] at h; cases h
        · rw [Bool.eq_false_iff.2 hz0] at h
          cases h
          have hz1 : j.size ≠ 0 := fun hc => hz0 (by rw [hc]; rfl)
          have hfd' : fs[f]? = some fd := by simpa using hfd
          refine ⟨.pointer (some (a'.add fd.offset)), ?_, .ptr (ha.add _)⟩
          simp [Instr.fieldAt, run_underlying hd, hfd', Instr.sureAddr, fieldPlace, run_size hj, hz1]
      · cases h
    · cases h
  · cases h
theorem part_ok {t : TypeId} {cs : List Value} {arr : Array Value} (hc : VL E cs arr.toList) {off : Nat} {v : Value} (h : partS P t cs off = some v) : ∃ v', (part t arr off).run P w = .ok v' w ∧ VR E v v' := by
  unfold partS at h
  split at h
  · rename_i d i hd hi
    split at h
    · rename_i hag
      split at h
      · rename_i l hl
        rw [dropR_eq] at hl
        split at hl
        · cases hl
          split at h
          · rename_i r hr
            rw [takeR_eq] at hr
            split at hr
            · cases hr
              cases h
              refine ⟨.agg (arr.extract off (off + i.size)), by simp [part, run_agg hd, hag, run_size hi], .agg' ?_⟩
              have := (hc.drop off).take i.size
              simpa [Array.toList_extract, List.extract] using this
            · cases hr
          · cases h
        · cases hl
      · cases h
    · rename_i hag
      split at h
      · rename_i u l hl
        rw [dropR_eq] at hl
        split at hl
        · rename_i hle
          injection hl with hl
          cases h
          have hu : cs[off]? = some v := by
            have : (cs.drop off)[0]? = some v := by rw [hl]; rfl
            simpa using this
          obtain ⟨v', h1, h2⟩ := hc.get hu
          exact ⟨v', by simp [part, run_agg hd, hag, show arr[off]? = some v' by simpa using h1], h2⟩
        · cases hl
      · cases h
  · cases h
theorem field_ok {t : TypeId} {x x' : Value} (hx : VR E x x') {f : Nat} {v : Value} (h : fieldS P t x f = some v) : ∃ v', (Instr.field t x' f).run P w = .ok v' w ∧ VR E v v' := by
  unfold fieldS at h
  split at h
  · rename_i fs cs hd
    cases hx with | agg ha ha' =>
    rename_i arr
    split at h
    · rename_i fd hfd
      obtain ⟨v', h1, h2⟩ := part_ok (w := w) (P := P) (arr := arr) ⟨ha, ha'⟩ h
      have hfd' : fs[f]? = some fd := by simpa using hfd
      exact ⟨v', by simp [Instr.field, run_underlying hd, hfd', asAgg, h1], h2⟩
    · cases h
  · cases h
theorem index_ok {t : TypeId} {x x' i i' : Value} (hx : VR E x x') (hi : VR E i i') {v : Value} (h : indexS P t x i = some v) : ∃ v', (Instr.index t x' i').run P w = .ok v' w ∧ VR E v v' := by
  unfold indexS at h
  split at h
  · rename_i len el cs k n hd
    cases hi
    cases hx with | agg ha ha' =>
    rename_i arr
    split at h
    · rename_i z hz
      obtain ⟨j, hj, rfl⟩ := sizeT_some hz
      by_cases hlt : Nat.blt n len = true
      · rw [hlt] at h
        have hlt' : n < len := Nat.le_of_ble_eq_true hlt
        obtain ⟨v', h3, h4⟩ := part_ok (w := w) (P := P) (arr := arr) ⟨ha, ha'⟩ h
        exact ⟨v', by simp [Instr.index, asIntOf, run_underlying hd, run_size hj, h3]; intro hc'; omega, h4⟩
      · rw [Bool.eq_false_iff.2 hlt] at h; cases h
    · cases h
  · cases h
/-! ### Without looking at the world -/
theorem prun_ok {α : Type} {s : Sem α} {a : α} (h : prun P s = some (.ok a)) (w : World) : s.run P w = .ok a w := by
  induction s with
  | pure b => simp [prun] at h; subst h; rfl
  | program k ih => simp only [prun] at h; simp only [Sem.run]; exact ih _ h
  | mark m k ih => simp only [prun] at h; simp only [Sem.run]; exact ih h
  | halt x => cases x <;> simp [prun] at h
  | _ => simp [prun] at h
theorem prun_err {α : Type} {s : Sem α} {v : Value} (h : prun P s = some (.error v)) (w : World) : s.run P w = .halt (.panic v) w := by
  induction s with
  | pure b => simp [prun] at h
  | program k ih => simp only [prun] at h; simp only [Sem.run]; exact ih _ h
  | mark m k ih => simp only [prun] at h; simp only [Sem.run]; exact ih h
  | halt x => cases x <;> simp [prun] at h; subst h; rfl
  | _ => simp [prun] at h
/-! ### Maps -/
theorem natBeq_iff {a b : Nat} : Nat.beq a b = true ↔ a = b := ⟨Nat.eq_of_beq_eq_true, fun h => by rw [h]; exact Nat.beq_refl _⟩
theorem intEq_iff {a b : Int} : intEq a b = true ↔ a = b := by
  unfold intEq
  split
  · rw [natBeq_iff]
    exact ⟨fun h => by rw [h], fun h => by injection h⟩
  · rw [natBeq_iff]
    exact ⟨fun h => by rw [h], fun h => by injection h⟩
  · rename_i h1 h2
    refine ⟨fun h => (by cases h), fun h => ?_⟩
    subst h
    cases a with
    | ofNat m => exact (h1 m m rfl rfl).elim
    | negSucc m => exact (h2 m m rfl rfl).elim
theorem kindEq_iff {a b : IntKind} : kindEq a b = true ↔ a = b := by cases a <;> cases b <;> simp [kindEq]
theorem findI_ok {k : IntKind} {n : Int} {d : TypeDesc} (hd : isIntD d = true) : ∀ (es fs : List MapEntry) (i : Nat) (r : Option Nat), LR (MR E) es fs → findI k n es i = some r →
    Instr.findNow d (.int k n) fs i = some (match r with | some j => (fs[j - i]?).map fun f => (j, f.val) | none => none) ∧ (∀ j, r = some j → i ≤ j ∧ ∃ e f, es[j - i]? = some e ∧ fs[j - i]? = some f)
  | [], fs, i, r, hl, h => by
    rw [LR.inv_nil hl]
    cases (show some none = some r from h)
    exact ⟨by simp [Instr.findNow], fun j hj => by cases hj⟩
  | e :: es, fs, i, r, hl, h => by
    obtain ⟨f, gs, rfl, hef, hg⟩ := hl.inv_cons
    have h' : (Option.rec none (fun b => Bool.rec (findI k n es (i + 1)) (some (some i)) b) (isInt k n e.key) : Option (Option Nat)) = some r := h
    have hk := hef.key
    unfold isInt at h'
    split at h'
    · rename_i j m hkey
      rw [hkey] at hk
      by_cases hkk : kindEq k j = true
      · rw [hkk] at h'
        have hkj := kindEq_iff.1 hkk
        subst hkj
        generalize hfk : f.key = fk at hk
        cases hk
        have hsame : Instr.sameNow d (.int k n) f.key = some (n == m) := by
          rw [hfk]
          cases d <;> simp [isIntD] at hd
          simp [Instr.sameNow]
        by_cases hnm : intEq n m = true
        · simp only [hnm, cond_true] at h'
          cases (show some (some i) = some r from h')
          have hnm' := intEq_iff.1 hnm
          subst hnm'
          refine ⟨by simp [Instr.findNow, hsame], fun j hj => by cases hj; exact ⟨Nat.le_refl _, e, f, by simp, by simp⟩⟩
        · simp only [Bool.eq_false_iff.2 hnm, cond_true] at h'
          obtain ⟨h1, h2⟩ := findI_ok hd es gs (i + 1) r hg h'
          have hne : (n == m) = false := by rw [beq_eq_false_iff_ne]; exact fun hc => hnm (intEq_iff.2 hc)
          refine ⟨?_, fun j hj => ?_⟩
          · simp only [Instr.findNow, hsame, hne]
            rw [h1]
            cases r with
            | none => rfl
            | some j =>
              obtain ⟨hle, _⟩ := h2 j rfl
              show some (Option.map _ gs[j - (i + 1)]?) = some (Option.map _ (f :: gs)[j - i]?)
              rw [show j - i = (j - (i + 1)) + 1 by omega]
              simp
          · obtain ⟨hle, e', f', he', hf'⟩ := h2 j hj
            rw [show j - i = (j - (i + 1)) + 1 by omega]
            exact ⟨by omega, e', f', by simpa using he', by simpa using hf'⟩
      · rw [Bool.eq_false_iff.2 hkk] at h'
        cases (show none = some r from h')
    · cases (show none = some r from h')
/-- The same keys: found at the same place. -/
theorem findNow_keys {d : TypeDesc} {k : Value} : ∀ (es fs : List MapEntry) (i : Nat), es.map (·.key) = fs.map (·.key) →
    Instr.findNow d k fs i = (Instr.findNow d k (keysOnly es) i).map fun r => r.bind fun p => (fs[p.1 - i]?).map fun f => (p.1, f.val)
  | [], fs, i, h => by
    have : fs = [] := by simpa using h.symm
    subst this
    simp [Instr.findNow, keysOnly]
  | e :: es, fs, i, h => by
    cases fs with
    | nil => simp at h
    | cons f gs =>
      simp only [List.map_cons, List.cons.injEq] at h
      obtain ⟨h1, h2⟩ := h
      simp only [keysOnly, List.map_cons, Instr.findNow, ← h1]
      cases hs : Instr.sameNow d k e.key with
      | none => rfl
      | some b =>
        cases b with
        | true => simp
        | false =>
          simp only
          rw [findNow_keys es gs (i + 1) h2]
          show _ = Option.map _ (Instr.findNow d k (keysOnly es) (i + 1))
          cases hr : Instr.findNow d k (keysOnly es) (i + 1) with
          | none => rfl
          | some r =>
            cases r with
            | none => rfl
            | some p =>
              obtain ⟨j, u⟩ := p
              have hj : i + 1 ≤ j := findNow_ge (keysOnly es) (i + 1) j u hr
              simp only [Option.map_some, Option.bind_some]
              rw [show j - i = (j - (i + 1)) + 1 by omega]
              simp
where
  findNow_ge {d : TypeDesc} {k : Value} : ∀ (es : List MapEntry) (i j : Nat) (u : Value), Instr.findNow d k es i = some (some (j, u)) → i ≤ j
    | [], i, j, u, h => by simp [Instr.findNow] at h
    | e :: es, i, j, u, h => by
      simp only [Instr.findNow] at h
      split at h
      · cases h; exact Nat.le_refl _
      · have := findNow_ge es (i + 1) j u h; omega
      · cases h
theorem prun_bind {α β : Type} {s : Sem α} {f : α → Sem β} {r : Except Value β} (h : prun P (s >>= f) = some r) : (∃ a, prun P s = some (.ok a) ∧ prun P (f a) = some r) ∨ (∃ v, prun P s = some (.error v) ∧ r = .error v) := by
  change prun P (s.bind f) = some r at h
  induction s with
  | pure a => exact .inl ⟨a, rfl, h⟩
  | program k ih => exact ih _ h
  | mark m k ih => exact ih h
  | halt x => cases x <;> simp [Sem.bind, prun] at h; exact .inr ⟨_, rfl, h.symm⟩
  | _ => simp [Sem.bind, prun] at h
theorem prun_ok_bind {α β : Type} {s : Sem α} {f : α → Sem β} {a : α} (h : prun P s = some (.ok a)) : prun P (s >>= f) = prun P (f a) := by
  change prun P (s.bind f) = _
  induction s with
  | pure b => simp [prun] at h; subst h; rfl
  | program k ih => exact ih _ h
  | mark m k ih => exact ih h
  | halt x => cases x <;> simp [prun] at h
  | _ => simp [prun] at h
theorem findAsking_keys {kt : TypeId} {k : Value} : ∀ (es fs : List MapEntry) (i : Nat) (r : Option (Nat × Value)), es.map (·.key) = fs.map (·.key) → prun P (Instr.findAsking kt k (keysOnly es) i) = some (.ok r) →
    (Instr.findAsking kt k fs i).run P w = .ok (r.bind fun p => (fs[p.1 - i]?).map fun f => (p.1, f.val)) w ∧ ∀ p, r = some p → i ≤ p.1
  | [], fs, i, r, h, hp => by
    have : fs = [] := by simpa using h.symm
    subst this
    simp only [keysOnly, List.map_nil, Instr.findAsking] at hp ⊢
    cases (show some (Except.ok none) = some (Except.ok r) from hp)
    exact ⟨rfl, fun p hp => by cases hp⟩
  | e :: es, fs, i, r, h, hp => by
    cases fs with
    | nil => simp at h
    | cons f gs =>
      simp only [List.map_cons, List.cons.injEq] at h
      obtain ⟨h1, h2⟩ := h
      simp only [keysOnly, List.map_cons, Instr.findAsking] at hp ⊢
      rcases prun_bind hp with ⟨b, hb, hp'⟩ | ⟨v, _, hv⟩
      · have hrun := prun_ok hb w
        rw [h1] at hrun
        simp only [Sem.run_bind, hrun, Result.andThen_ok]
        cases b with
        | true =>
          simp only [if_true] at hp' ⊢
          cases (show some (Except.ok (some (i, Value.nilIface))) = some (Except.ok r) from hp')
          exact ⟨by simp, fun p hp => by cases hp; exact Nat.le_refl _⟩
        | false =>
          simp only [Bool.false_eq_true, if_false] at hp' ⊢
          obtain ⟨q1, q2⟩ := findAsking_keys es gs (i + 1) r h2 hp'
          refine ⟨?_, fun p hp => by have := q2 p hp; omega⟩
          rw [q1]
          congr 1
          cases r with
          | none => rfl
          | some p =>
            have := q2 p rfl
            simp only [Option.bind_some]
            rw [show p.1 - i = (p.1 - (i + 1)) + 1 by omega]
            simp
      · cases hv
end
end Go.Proofs.YtaeophaecclnbaaGreatDoor

/- The executor: what symbolic worlds say of worlds. -/
import Derived.Test.YtfjippjkikcpfaaGreatDoorExB
namespace Go.Proofs.YtfjippjkikcpfaaGreatDoor
open Go

structure MR (E : Env) (e f : MapEntry) : Prop where
  key : VR E e.key f.key
  val : VR E e.val f.val
  born : f.born = e.born
theorem MR.mono {E E' : Env} {e f : MapEntry} (h : MR E e f) (hE : E.le E') : MR E' e f := ⟨h.key.mono hE, h.val.mono hE, h.born⟩
def TR (E : Env) (tr : Tr Value) (a : Array Value) : Prop := ∀ t, VR E (evS tr (.tmp t)) (a.getD t undef)
theorem TR.mono {E E' : Env} {tr : Tr Value} {a : Array Value} (h : TR E tr a) (hE : E.le E') : TR E' tr a := fun t => (h t).mono hE
theorem VR.undef {E : Env} : VR E undef undef := plain_refl 1 _ rfl
theorem evS_tmp (tr : Tr Value) (t : Nat) : evS tr (.tmp t) = (tr.get t).getD undef := by
  show (Option.rec undef (fun v => v) (tr.get t) : Value) = _
  cases tr.get t <;> rfl
def ObjR (E : Env) (w : World) (e : Ent) : SObj → Prop
  | .cells cs t x => ∃ arr fr, w.heap[e.b]? = some (.cells arr t fr) ∧ arr.size = e.d + e.k ∧ cs.length ≤ e.k ∧ (x = true → cs.length = e.k ∧ e.d = 0 ∧ fr = (0, 0)) ∧
      (∀ o, o < arr.size → ¬ (fr.1 ≤ o ∧ o < fr.2)) ∧ ∀ j v, cs[j]? = some v → ∃ v', arr[e.d + j]? = some v' ∧ VR E v v'
  | .map es c => ∃ arr, w.heap[e.b]? = some (.map arr c) ∧ LR (MR E) es arr.toList
  | .strIter s p => e.d = 0 ∧ w.heap[e.b]? = some (.stringIter s p)
  | .dfr => w.heap[e.b]? = some (.deferred (some []))
  | .loop st pd tr nt ps as_ b => ∃ r, w.heap[e.b]? = some (.loop r) ∧ r.state = st ∧ r.pending = pd ∧ r.params.toList = ps ∧ r.assign = as_ ∧ r.body = b ∧ r.tmps.size = nt ∧ TR E tr r.tmps
theorem ObjR.lt {E : Env} {w : World} {e : Ent} {o : SObj} (h : ObjR E w e o) : e.b < w.heap.size := by
  have : ∃ x, w.heap[e.b]? = some x := by
    cases o with
    | cells => obtain ⟨_, _, h, _⟩ := h; exact ⟨_, h⟩
    | map => obtain ⟨_, h, _⟩ := h; exact ⟨_, h⟩
    | strIter => exact ⟨_, h.2⟩
    | dfr => exact ⟨_, h⟩
    | loop => obtain ⟨_, h, _⟩ := h; exact ⟨_, h⟩
  exact (Array.getElem?_eq_some_iff.1 this.choose_spec).1
theorem ObjR.mono {E E' : Env} {w w' : World} {e : Ent} {o : SObj} (h : ObjR E w e o) (hE : E.le E') (hw : w'.heap[e.b]? = w.heap[e.b]?) : ObjR E' w' e o := by
  cases o with
  | cells => obtain ⟨arr, fr, h1, h2, h3, h4, h5, h6⟩ := h; exact ⟨arr, fr, hw.trans h1, h2, h3, h4, h5, fun j v hj => let ⟨v', a, b⟩ := h6 j v hj; ⟨v', a, b.mono hE⟩⟩
  | map => obtain ⟨arr, h1, h2⟩ := h; exact ⟨arr, hw.trans h1, h2.mono fun _ _ h => h.mono hE⟩
  | strIter => exact ⟨h.1, hw.trans h.2⟩
  | dfr => exact hw.trans h
  | loop => obtain ⟨r, h1, h2, h3, h4, h5, h6, h7, h8⟩ := h; exact ⟨r, hw.trans h1, h2, h3, h4, h5, h6, h7, h8.mono hE⟩

/-- F: blocks that stay as they are. -/
structure Sat (G : Nat) (F : Nat → Option Obj) (W : World) (E : Env) (S : SW) (w : World) : Prop where
  new : ∀ i, S.n ≤ i → E i = none
  glob : ∀ g, g < G → ∃ e, E g = some e ∧ e.b = g ∧ e.d = 0
  obj : ∀ i o, S.h.get i = some o → ∃ e, E i = some e ∧ ObjR E w e o
  inj : ∀ i j o o' e e', S.h.get i = some o → S.h.get j = some o' → E i = some e → E j = some e' → e.b = e'.b → i = j
  own : ∀ i o e, S.h.get i = some o → E i = some e → F e.b = none
  far : ∀ k o, F k = some o → w.heap[k]? = some o
  size : W.heap.size ≤ w.heap.size
  os : w.os = W.os
  tape : w.tape = W.tape
  output : w.output = W.output
section
variable {G : Nat} {F : Nat → Option Obj} {W : World} {E : Env} {S : SW} {w : World}
theorem Sat.same (h : Sat G F W E S w) {w' : World} (hh : w'.heap = w.heap) (ho : w'.os = w.os) (ht : w'.tape = w.tape) (hp : w'.output = w.output) : Sat G F W E S w' :=
  ⟨h.new, h.glob, fun i o hi => let ⟨e, he, hr⟩ := h.obj i o hi; ⟨e, he, hr.mono (Env.le.refl E) (by rw [hh])⟩, h.inj, h.own, fun k o hk => by rw [hh]; exact h.far k o hk,
    by rw [hh]; exact h.size, ho.trans h.os, ht.trans h.tape, hp.trans h.output⟩
theorem Sat.drew (h : Sat G F W E S w) : Sat G F W E S w.drew := h.same rfl rfl rfl rfl
/-- What an env says of names that are there stays. -/
def Ext (n : Nat) (E E' : Env) : Prop := ∀ i, i < n → E' i = E i
theorem Ext.refl (n : Nat) (E : Env) : Ext n E E := fun _ _ => rfl
theorem Ext.trans {n m : Nat} {E E' E'' : Env} (h : Ext n E E') (h' : Ext m E' E'') (hn : n ≤ m) : Ext n E E'' := fun i hi => (h' i (by omega)).trans (h i hi)
theorem Ext.le {n : Nat} {E E' : Env} (h : Ext n E E') (hn : ∀ i, n ≤ i → E i = none) : E.le E' := fun i e he => by
  by_cases hi : i < n
  · rw [h i hi]; exact he
  · rw [hn i (by omega)] at he; cases he
/-- One block turned or laid, one name laid or kept. -/
theorem Sat.step (h : Sat G F W E S w) {E' : Env} {S' : SW} {w' : World} (k0 i0 : Nat) (hE : E.le E') (hnew : ∀ i, S'.n ≤ i → E' i = none)
    (hw : ∀ k, k ≠ k0 → k < w.heap.size → w'.heap[k]? = w.heap[k]?) (hs : w.heap.size ≤ w'.heap.size)
    (hold : ∀ i o, i ≠ i0 → S'.h.get i = some o → S.h.get i = some o ∧ ∀ e, E i = some e → e.b ≠ k0)
    (h0 : ∀ o, S'.h.get i0 = some o → ∃ e, E' i0 = some e ∧ e.b = k0 ∧ ObjR E' w' e o) (hF : F k0 = none)
    (ho : w'.os = w.os) (ht : w'.tape = w.tape) (hp : w'.output = w.output) : Sat G F W E' S' w' := by
  have key : ∀ i o, i ≠ i0 → S'.h.get i = some o → ∃ e, E i = some e ∧ E' i = some e ∧ e.b ≠ k0 ∧ ObjR E w e o := fun i o hi hio => by
    obtain ⟨h1, h2⟩ := hold i o hi hio
    obtain ⟨e, he, hr⟩ := h.obj i o h1
    exact ⟨e, he, hE _ _ he, h2 e he, hr⟩
  refine ⟨hnew, fun g hg => ?_, fun i o hio => ?_, fun i j o o' e e' hi hj he he' hb => ?_, fun i o e hi he => ?_, fun k o hk => ?_, Nat.le_trans h.size hs, ho.trans h.os, ht.trans h.tape, hp.trans h.output⟩
  · obtain ⟨e, he, hb, hd⟩ := h.glob g hg
    exact ⟨e, hE _ _ he, hb, hd⟩
  · by_cases hi : i = i0
    · subst hi
      obtain ⟨e, he, _, hr⟩ := h0 o hio
      exact ⟨e, he, hr⟩
    · obtain ⟨e, _, he, hne, hr⟩ := key i o hi hio
      exact ⟨e, he, hr.mono hE (hw _ hne hr.lt)⟩
  · by_cases hi0 : i = i0
    · by_cases hj0 : j = i0
      · rw [hi0, hj0]
      · obtain ⟨ej, hej, hej', hne, _⟩ := key j o' hj0 hj
        subst hi0
        obtain ⟨ei, hei, hb0, _⟩ := h0 o hi
        rw [hei] at he; cases he
        rw [hej'] at he'; cases he'
        exact absurd (hb.symm.trans hb0) hne
    · obtain ⟨ei, hei, hei', hne, _⟩ := key i o hi0 hi
      rw [hei'] at he; cases he
      by_cases hj0 : j = i0
      · subst hj0
        obtain ⟨ej, hej, hb0, _⟩ := h0 o' hj
        rw [hej] at he'; cases he'
        exact absurd (hb.trans hb0) hne
      · obtain ⟨ej, hej, hej', _, _⟩ := key j o' hj0 hj
        rw [hej'] at he'; cases he'
        exact h.inj i j o o' _ _ (hold i o hi0 hi).1 (hold j o' hj0 hj).1 hei hej hb
  · by_cases hi0 : i = i0
    · subst hi0
      obtain ⟨ei, hei, hb0, _⟩ := h0 o hi
      rw [hei] at he; cases he
      rw [hb0]; exact hF
    · obtain ⟨ei, hei, hei', _, _⟩ := key i o hi0 hi
      rw [hei'] at he; cases he
      exact h.own i o _ (hold i o hi0 hi).1 hei
  · have h1 := h.far k o hk
    have hlt : k < w.heap.size := (Array.getElem?_eq_some_iff.1 h1).1
    have hne : k ≠ k0 := fun e => by subst e; rw [hF] at hk; cases hk
    exact (hw k hne hlt).trans h1
theorem Sat.free_new (h : Sat G F W E S w) : F w.heap.size = none := by
  cases hF : F w.heap.size with
  | none => rfl
  | some o =>
    have := h.far _ _ hF
    simp at this
theorem SW.new_get (S : SW) (o : SObj) (i : Nat) : (S.new o).h.get i = if i = S.n then some o else S.h.get i := by
  unfold SW.new
  rw [Tr.putK_eq]
  exact Tr.get_put _ _ _ _
theorem SW.new_n (S : SW) (o : SObj) : (S.new o).n = S.n + 1 := by unfold SW.new; rw [Tr.putK_eq]
theorem SW.set_get (S : SW) (k : Nat) (o : SObj) (i : Nat) : (S.set k o).h.get i = if i = k then some o else S.h.get i := by
  unfold SW.set
  rw [Tr.putK_eq]
  exact Tr.get_put _ _ _ _
theorem SW.set_n (S : SW) (k : Nat) (o : SObj) : (S.set k o).n = S.n := by unfold SW.set; rw [Tr.putK_eq]
theorem SW.del_get (S : SW) (k : Nat) (i : Nat) : (S.del k).h.get i = if i = k then none else S.h.get i := by
  unfold SW.del
  rw [Tr.putK_eq]
  exact Tr.get_put _ _ _ _
theorem SW.del_n (S : SW) (k : Nat) : (S.del k).n = S.n := by unfold SW.del; rw [Tr.putK_eq]
def Env.put (E : Env) (n : Nat) (e : Ent) : Env := fun i => if i = n then some e else E i
theorem Env.put_same (E : Env) (n : Nat) (e : Ent) : E.put n e n = some e := by simp [Env.put]
theorem Env.put_le {E : Env} {n : Nat} (h : E n = none) (e : Ent) : E.le (E.put n e) := fun i f hf => by
  unfold Env.put
  split
  · subst i; rw [h] at hf; cases hf
  · exact hf
theorem Env.put_ext (E : Env) (n : Nat) (e : Ent) : Ext n E (E.put n e) := fun i hi => by unfold Env.put; rw [if_neg (by omega)]
/-- A block laid, under a new name. -/
theorem Sat.lay (h : Sat G F W E S w) (o : Obj) (so : SObj) (e : Ent) (hb : e.b = w.heap.size) (hr : ObjR (E.put S.n e) (w.alloc o) e so) :
    Sat G F W (E.put S.n e) (S.new so) (w.alloc o) := by
  have hle : E.le (E.put S.n e) := Env.put_le (h.new _ (Nat.le_refl _)) e
  refine h.step w.heap.size S.n hle (fun i hi => ?_) (fun k hk hlt => ?_) (by simp) (fun i o' hi hio => ?_) (fun o' hio => ?_) h.free_new rfl rfl rfl
  · rw [SW.new_n] at hi
    unfold Env.put
    rw [if_neg (by omega)]
    exact h.new i (by omega)
  · show (w.heap.push o)[k]? = _
    rw [Array.getElem?_push, if_neg (by omega)]
  · rw [SW.new_get, if_neg hi] at hio
    refine ⟨hio, fun e' he' => ?_⟩
    obtain ⟨e'', he'', hr''⟩ := h.obj i o' hio
    rw [he''] at he'; cases he'
    have := hr''.lt
    omega
  · rw [SW.new_get, if_pos rfl] at hio
    cases hio
    exact ⟨e, Env.put_same _ _ _, hb, hr⟩
/-- A block turned. -/
theorem Sat.turn (h : Sat G F W E S w) {i : Nat} {so : SObj} {e : Ent} (hi : S.h.get i = some so) (he : E i = some e) {w' : World} (so' : SObj) (hw : ∀ k, k ≠ e.b → w'.heap[k]? = w.heap[k]?) (hs : w'.heap.size = w.heap.size)
    (ho : w'.os = w.os) (ht : w'.tape = w.tape) (hp : w'.output = w.output) (hr : ObjR E w' e so') : Sat G F W E (S.set i so') w' := by
  refine h.step e.b i (Env.le.refl E) (fun j hj => h.new j (by rw [SW.set_n] at hj; exact hj)) (fun k hk _ => hw k hk) (by omega) (fun j o' hj hjo => ?_) (fun o' hio => ?_) (h.own i so e hi he) ho ht hp
  · rw [SW.set_get, if_neg hj] at hjo
    exact ⟨hjo, fun e' he' hb => hj (h.inj j i o' so e' e hjo hi he' he hb)⟩
  · rw [SW.set_get, if_pos rfl] at hio
    cases hio
    exact ⟨e, he, rfl, hr⟩
theorem Sat.del (h : Sat G F W E S w) (i : Nat) : Sat G F W E (S.del i) w := by
  have hget : ∀ j o, (S.del i).h.get j = some o → S.h.get j = some o := fun j o hj => by
    rw [SW.del_get] at hj
    split at hj
    · cases hj
    · exact hj
  exact ⟨fun j hj => h.new j (by rw [SW.del_n] at hj; exact hj), h.glob, fun j o hj => h.obj j o (hget j o hj), fun j k o o' e e' hj hk => h.inj j k o o' e e' (hget j o hj) (hget k o' hk), fun j o e hj => h.own j o e (hget j o hj), h.far, h.size, h.os, h.tape, h.output⟩

/-! ### Cells -/
theorem AR.add {a a' : Addr} (h : AR E a a') (n : Nat) : AR E (a.add n) (a'.add n) := by
  obtain ⟨hs, e, he, rfl⟩ := h
  unfold Addr.add
  split
  · exact ⟨hs, e, he, rfl⟩
  · refine ⟨rfl, e, he, ?_⟩
    show (⟨e.b, a.off + e.d + n, none⟩ : Addr) = ⟨e.b, a.off + n + e.d, none⟩
    congr 1
    omega
theorem Addr.add_block (a : Addr) (n : Nat) : (a.add n).block = a.block := by unfold Addr.add; split <;> rfl
theorem Addr.add_off (a : Addr) (n : Nat) : (a.add n).off = a.off + n := by unfold Addr.add; split <;> simp_all
theorem Addr.add_spot {a : Addr} (h : a.spot = none) (n : Nat) : (a.add n).spot = none := by unfold Addr.add; split <;> simp_all
theorem Addr.add_none (b o n : Nat) : (⟨b, o, none⟩ : Addr).add n = ⟨b, o + n, none⟩ := by unfold Addr.add; split <;> simp_all
theorem Sat.row (h : Sat G F W E S w) {a a' : Addr} (ha : AR E a a') {cs : List Value} {t : TypeId} {x : Bool} (hg : S.h.get a.block = some (.cells cs t x)) :
    ∃ e arr fr, E a.block = some e ∧ a' = ⟨e.b, a.off + e.d, none⟩ ∧ w.heap[e.b]? = some (.cells arr t fr) ∧ arr.size = e.d + e.k ∧ cs.length ≤ e.k ∧ (x = true → cs.length = e.k ∧ e.d = 0 ∧ fr = (0, 0)) ∧
      (∀ o, o < arr.size → ¬ (fr.1 ≤ o ∧ o < fr.2)) ∧ ∀ j v, cs[j]? = some v → ∃ v', arr[e.d + j]? = some v' ∧ VR E v v' := by
  obtain ⟨_, e, he, rfl⟩ := ha
  obtain ⟨e', he', arr, fr, h1, h2, h3, h4, h5, h6⟩ := h.obj _ _ hg
  rw [he] at he'; cases he'
  exact ⟨e, arr, fr, he, rfl, h1, h2, h3, h4, h5, h6⟩
theorem cell_arr {b o : Nat} {arr : Array Value} {t : TypeId} {fr : Nat × Nat} (h : w.heap[b]? = some (.cells arr t fr)) : w.cell? ⟨b, o, none⟩ = arr[o]? := by simp [World.cell?, h]
theorem frozen_arr {b o : Nat} {arr : Array Value} {t : TypeId} {fr : Nat × Nat} (h : w.heap[b]? = some (.cells arr t fr)) (hf : ¬ (fr.1 ≤ o ∧ o < fr.2)) : w.frozen? ⟨b, o, none⟩ = false := by
  simp only [World.frozen?, h, Bool.and_eq_false_iff, decide_eq_false_iff_not]
  by_cases h1 : fr.1 ≤ o
  · exact .inr fun h2 => hf ⟨h1, h2⟩
  · exact .inl h1
theorem cells_some {a : Addr} {n : Nat} {l : List Value} (h : S.cells a n = some l) : a.spot = none ∧ ∃ cs t x, S.h.get a.block = some (.cells cs t x) ∧ a.off + n ≤ cs.length ∧ l = (cs.drop a.off).take n := by
  unfold SW.cells at h
  split at h
  · rename_i cs t x hs hg
    rw [dropR_eq] at h
    by_cases h1 : a.off ≤ cs.length
    · rw [if_pos h1] at h
      simp only at h
      rw [takeR_eq] at h
      by_cases h2 : n ≤ (cs.drop a.off).length
      · rw [if_pos h2] at h
        cases h
        simp at h2
        exact ⟨hs, cs, t, x, hg, by omega, rfl⟩
      · rw [if_neg h2] at h; cases h
    · rw [if_neg h1] at h; cases h
  · cases h
/-- Cells read. -/
theorem Sat.read (h : Sat G F W E S w) {a a' : Addr} (ha : AR E a a') {n : Nat} {l : List Value} (hc : S.cells a n = some l) :
    l.length = n ∧ ∃ l' : List Value, VL E l l' ∧ ∀ (j : Nat) v', l'[j]? = some v' → w.cell? (a'.add j) = some v' := by
  obtain ⟨_, cs, t, x, hg, hlen, rfl⟩ := cells_some hc
  obtain ⟨e, arr, fr, he, rfl, h1, h2, h3, h4, h5, h6⟩ := h.row ha hg
  have hl : ((cs.drop a.off).take n).length = n := by simp; omega
  refine ⟨hl, (arr.toList.drop (a.off + e.d)).take n, ⟨by rw [hl]; simp; omega, fun i v v' hv hv' => ?_⟩, fun j v' hj => ?_⟩
  · rw [List.getElem?_take, List.getElem?_drop] at hv hv'
    split at hv
    · rename_i hi
      rw [if_pos hi] at hv'
      obtain ⟨u, hu, hr⟩ := h6 _ _ hv
      rw [show a.off + e.d + i = e.d + (a.off + i) by omega, Array.getElem?_toList, hu] at hv'
      cases hv'
      exact hr
    · cases hv
  · rw [List.getElem?_take, List.getElem?_drop] at hj
    split at hj
    · rw [Addr.add_none, cell_arr h1]
      simpa using hj
    · cases hj
theorem setCell_heap (w : World) (b o : Nat) (v : Value) {arr : Array Value} {t : TypeId} {fr : Nat × Nat} (h : w.heap[b]? = some (.cells arr t fr)) :
    (w.setCell ⟨b, o, none⟩ v).heap[b]? = some (.cells (arr.setIfInBounds o v) t fr) := by
  obtain ⟨hlt, hk⟩ := Array.getElem?_eq_some_iff.1 h
  show (w.heap.modify b _)[b]? = _
  rw [Array.getElem?_eq_getElem (by rw [Array.size_modify]; exact hlt), Array.getElem_modify_self, hk]
  rfl
theorem setCell_heap_other (w : World) (b o : Nat) (v : Value) {k : Nat} (h : k ≠ b) : (w.setCell ⟨b, o, none⟩ v).heap[k]? = w.heap[k]? := by
  show (w.heap.modify b _)[k]? = _
  rw [Array.getElem?_modify, if_neg (Ne.symm h)]
theorem setCells_heap (b : Nat) {t : TypeId} {fr : Nat × Nat} : ∀ (vs : List Value) (o : Nat) (w : World) (arr : Array Value), w.heap[b]? = some (.cells arr t fr) → o + vs.length ≤ arr.size →
    ∃ arr', (w.setCells b o vs).heap[b]? = some (.cells arr' t fr) ∧ arr'.size = arr.size ∧ ∀ j, arr'[j]? = if o ≤ j ∧ j < o + vs.length then vs[j - o]? else arr[j]?
  | [], o, w, arr, h, _ => ⟨arr, h, rfl, fun j => by rw [if_neg (by simp)]⟩
  | v :: r, o, w, arr, h, hl => by
    simp only [List.length_cons] at hl
    obtain ⟨arr', h1, h2, h3⟩ := setCells_heap b r (o + 1) (w.setCell ⟨b, o, none⟩ v) _ (setCell_heap w b o v h) (by simp; omega)
    refine ⟨arr', h1, by simpa using h2, fun j => ?_⟩
    rw [h3 j]
    simp only [List.length_cons]
    by_cases hj : o + 1 ≤ j ∧ j < o + 1 + r.length
    · rw [if_pos hj, if_pos (by omega), show j - o = (j - (o + 1)) + 1 by omega]
      simp
    · rw [if_neg hj]
      by_cases hj0 : j = o
      · subst hj0
        rw [if_pos (by omega)]
        simp [show j < arr.size by omega]
      · rw [if_neg (by omega), Array.getElem?_setIfInBounds_ne (by omega)]
theorem setCells_other (b : Nat) : ∀ (vs : List Value) (o : Nat) (w : World) (k : Nat), k ≠ b → (w.setCells b o vs).heap[k]? = w.heap[k]?
  | [], _, _, _, _ => rfl
  | v :: r, o, w, k, h => by rw [World.setCells, setCells_other b r _ _ _ h, setCell_heap_other w b o v h]
theorem setCells_rest (b : Nat) : ∀ (vs : List Value) (o : Nat) (w : World), (w.setCells b o vs).heap.size = w.heap.size ∧ (w.setCells b o vs).os = w.os ∧ (w.setCells b o vs).tape = w.tape ∧ (w.setCells b o vs).output = w.output
  | [], _, _ => ⟨rfl, rfl, rfl, rfl⟩
  | v :: r, o, w => by
    obtain ⟨h1, h2, h3, h4⟩ := setCells_rest b r (o + 1) (w.setCell ⟨b, o, none⟩ v)
    exact ⟨h1.trans (by simp [World.setCell]), h2, h3, h4⟩
theorem oneC_eq (v v' : Value) (h : VR E v v') : v'.oneCell' = oneC v := by cases h <;> rfl
/-- Cells written. -/
theorem Sat.write2 (h : Sat G F W E S w) {a a' : Addr} (ha : AR E a a') {vs vs' : List Value} (hv : VL E vs vs') {S' : SW} (hc : S.store a vs = some S') :
    ∃ b o, a' = ⟨b, o, none⟩ ∧ Sat G F W E S' (w.setCells b o vs') ∧ S'.n = S.n ∧ (∀ j, j < vs'.length → (w.cell? ⟨b, o + j, none⟩).isSome = true) ∧ (∀ j, j < vs'.length → w.frozen? ⟨b, o + j, none⟩ = false) ∧ (∀ v ∈ vs', v.oneCell' = true) := by
  unfold SW.store at hc
  split at hc
  · cases hc
    rw [LR.inv_nil hv]
    obtain ⟨_, e, he, rfl⟩ := ha
    exact ⟨e.b, a.off + e.d, rfl, h, rfl, fun j hj => by simp at hj, fun j hj => by simp at hj, fun v hv => by cases hv⟩
  · split at hc
    · rename_i cs t x hs hg
      by_cases hall : allL oneC vs = true
      · rw [hall, cond_true] at hc
        rw [setR_eq] at hc
        by_cases hlen : a.off + vs.length ≤ cs.length
        · rw [if_pos hlen] at hc
          cases hc
          obtain ⟨e, arr, fr, he, rfl, h1, h2, h3, h4, h5, h6⟩ := h.row ha hg
          have hl' := hv.1
          obtain ⟨arr', k1, k2, k3⟩ := setCells_heap e.b vs' (a.off + e.d) w arr h1 (by omega)
          obtain ⟨r1, r2, r3, r4⟩ := setCells_rest e.b vs' (a.off + e.d) w
          refine ⟨e.b, a.off + e.d, rfl, ?_, SW.set_n _ _ _, fun j hj => by rw [cell_arr h1, Array.getElem?_eq_getElem (by omega)]; rfl, fun j hj => frozen_arr h1 (h5 _ (by omega)), fun v' hv' => ?_⟩
          · refine h.turn hg he _ (fun k hk => setCells_other _ _ _ _ _ hk) r1 r2 r3 r4 ⟨arr', fr, k1, by omega, by simp; omega, fun hx => ?_, fun o ho => h5 o (by omega), fun j v hj => ?_⟩
            · obtain ⟨q1, q2, q3⟩ := h4 hx
              exact ⟨by simp; omega, q2, q3⟩
            · rw [k3]
              by_cases hj1 : j < a.off
              · rw [List.append_assoc, List.getElem?_append_left (by simp; omega), List.getElem?_take, if_pos hj1] at hj
                rw [if_neg (by omega)]
                exact h6 j v hj
              · by_cases hj2 : j < a.off + vs.length
                · rw [List.append_assoc, List.getElem?_append_right (by simp; omega), List.getElem?_append_left (by simp; omega)] at hj
                  simp only [List.length_take, show min a.off cs.length = a.off by omega] at hj
                  rw [if_pos (by omega), show e.d + j - (a.off + e.d) = j - a.off by omega]
                  exact hv.get hj
                · rw [List.getElem?_append_right (by simp; omega), List.getElem?_drop] at hj
                  simp only [List.length_append, List.length_take, show min a.off cs.length = a.off by omega] at hj
                  rw [show a.off + vs.length + (j - (a.off + vs.length)) = j by omega] at hj
                  rw [if_neg (by omega)]
                  exact h6 j v hj
          · obtain ⟨i, hi⟩ := List.getElem?_of_mem hv'
            have hlt : i < vs.length := by have := (List.getElem?_eq_some_iff.1 hi).1; omega
            have hx : vs[i]? = some (vs[i]'hlt) := List.getElem?_eq_getElem _
            rw [oneC_eq _ _ (hv.2 i _ _ hx hi)]
            exact (allL_iff _ _).1 hall _ (List.mem_of_getElem? hx)
        · rw [if_neg hlen] at hc; cases hc
      · rw [Bool.eq_false_iff.2 hall] at hc
        cases hc
    · cases hc
theorem Sat.write (h : Sat G F W E S w) {a a' : Addr} (ha : AR E a a') {vs vs' : List Value} (hv : VL E vs vs') {S' : SW} (hc : S.store a vs = some S') :
    ∃ w', (∀ P, (storeCells a' vs').run P w = .ok () w') ∧ Sat G F W E S' w' ∧ S'.n = S.n := by
  obtain ⟨b, o, rfl, h1, h2, h3, h4, h5⟩ := h.write2 ha hv hc
  refine ⟨_, fun P => ?_, h1, h2⟩
  have := run_storeCells_cells (P := P) b o vs' 0 w (by simpa using h3) (by simpa using h4) h5
  simpa using this
end
end Go.Proofs.YtfjippjkikcpfaaGreatDoor

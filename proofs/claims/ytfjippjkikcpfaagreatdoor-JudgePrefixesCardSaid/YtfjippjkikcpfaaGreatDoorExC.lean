/- The executor: operations, first part. -/
import Derived.Test.YtfjippjkikcpfaaGreatDoorExW
import Derived.Laws.Entries
namespace Go.Proofs.YtfjippjkikcpfaaGreatDoor
open Go

inductive DR (E : Env) : Deferred → Deferred → Prop
  | fn {f : FuncId} {cap cap' args args' : Array Value} (hc : VL E cap.toList cap'.toList) (ha : VL E args.toList args'.toList) : DR E ⟨.fn (.func f) cap, args⟩ ⟨.fn (.func f) cap', args'⟩
  | mark {r : Nat} {e : Ent} (h : E r = some e) : DR E ⟨.collected r, #[]⟩ ⟨.collected e.b, #[]⟩
theorem DR.mono {E E' : Env} {d d' : Deferred} (h : DR E d d') (hE : E.le E') : DR E' d d' := by
  cases h with
  | fn hc ha => exact .fn (hc.mono hE) (ha.mono hE)
  | mark h => exact .mark (hE _ _ h)
def OpOk (P : Program) (G : Nat) (F : Nat → Option Obj) (W : World) (E : Env) (S S' : SW) (w : World) (x : ONext) (r : Result Next) : Prop :=
  match x with
  | .val v => ∃ v' w' E', r = .ok (.value v') w' ∧ Ext S.n E E' ∧ S.n ≤ S'.n ∧ Sat G F W E' S' w' ∧ VR E' v v'
  | .skip => ∃ w' E', r = .ok .skip w' ∧ Ext S.n E E' ∧ S.n ≤ S'.n ∧ Sat G F W E' S' w'
  | .enter f args => ∃ args', r = .ok (.enter f args') w ∧ VL E args args'.toList ∧ S' = S
  | .round l args => ∃ e args', E l = some e ∧ r = (Instr.yield e.b args').run P w ∧ VL E args args'.toList ∧ S' = S
  | .defer d => ∃ d', r = .ok (.defer d') w ∧ DR E d d' ∧ S' = S
  | .recover => r = .ok .recover w ∧ S' = S
  | .panic v => ∃ v', r = .halt (.panic v') w ∧ VR E v v' ∧ S' = S
section
variable {P : Program} {G : Nat} {F : Nat → Option Obj} {W : World} {E : Env} {S S' : SW} {w : World}
theorem OpOk.val (h : Sat G F W E S w) {v v' : Value} (hv : VR E v v') {r : Result Next} (hr : r = .ok (.value v') w) : OpOk P G F W E S S w (.val v) r :=
  ⟨v', w, E, hr, Ext.refl _ _, Nat.le_refl _, h, hv⟩
/-! ### Types -/
theorem zeroOf_some {t : TypeId} {z : List Value} (h : zeroOf P t = some z) : ∃ i v, P.info? t = some i ∧ i.zero = some v ∧ z = v.cells.toList ∧ VL E z z := by
  unfold zeroOf at h
  split at h
  · rename_i i hi
    split at h
    · rename_i v hv
      by_cases hp : allPlain v.cells.toList = true
      · rw [hp] at h
        cases h
        refine ⟨i, v, hi, hv, rfl, rfl, fun k x y hx hy => ?_⟩
        rw [hx] at hy; cases hy
        exact plain_refl _ _ ((allL_iff _ _).1 hp x (List.mem_of_getElem? hx))
      · rw [Bool.eq_false_iff.2 hp] at h; cases h
    · cases h
  · cases h
theorem run_zero {t : TypeId} {i : TypeInfo} {v : Value} (hi : P.info? t = some i) (hz : i.zero = some v) (w : World) : (zeroValue t).run P w = .ok v w := by
  simp [zeroValue, typeInfo, hi, hz]
theorem sizeT_some {t : TypeId} {z : Nat} (h : sizeT P t = some z) : ∃ i, P.info? t = some i ∧ i.size = z := by
  unfold sizeT at h
  split at h
  · cases h; exact ⟨_, by assumption, rfl⟩
  · cases h
theorem run_size {t : TypeId} {i : TypeInfo} (hi : P.info? t = some i) (w : World) : (sizeOf t).run P w = .ok i.size w := by simp [sizeOf, typeInfo, hi]
theorem run_agg {t : TypeId} {d : TypeDesc} (hd : P.underlying t = some d) (w : World) : (isAgg t).run P w = .ok (isAggD d) w := by
  cases d <;> simp [isAgg, run_underlying hd, isAggD]
theorem run_loadN {l' : List Value} {a' : Addr} (h : ∀ (j : Nat) v', l'[j]? = some v' → w.cell? (a'.add j) = some v') {n : Nat} (hn : l'.length = n) : (loadCells a' n).run P w = .ok l'.toArray w := by
  subst hn; exact run_loadCells_list w a' l' h
theorem Addr.add_zero' (a : Addr) : a.add 0 = a := rfl
/-- A variable read. -/
theorem Sat.loadVar (h : Sat G F W E S w) {t : TypeId} {a a' : Addr} (ha : AR E a a') {v : Value} (hv : S.loadVar P t a = some v) : ∃ v', (loadVar t a').run P w = .ok v' w ∧ VR E v v' := by
  unfold SW.loadVar at hv
  split at hv
  · rename_i d i hd hi
    split at hv
    · rename_i hag
      split at hv
      · rename_i l hl
        cases hv
        obtain ⟨hn, l', hL, hc⟩ := h.read ha hl
        refine ⟨.agg l'.toArray, ?_, .agg' (by simpa using hL)⟩
        simp [Go.loadVar, run_agg hd, hag, run_size hi, run_loadN hc (hL.1.symm.trans hn)]
      · cases hv
    · rename_i hag
      split at hv
      · rename_i u hl
        cases hv
        obtain ⟨hn, l', hL, hc⟩ := h.read ha hl
        obtain ⟨v', m', rfl, hr, _⟩ := hL.inv_cons
        have := hc 0 v' rfl
        rw [Addr.add_zero'] at this
        exact ⟨v', by simp [Go.loadVar, run_agg hd, hag, this], hr⟩
      · cases hv
  · cases hv
theorem cells_VL {v v' : Value} (h : VR E v v') : VL E v.cells.toList v'.cells.toList := by
  cases h with
  | agg ha ha' => exact ⟨ha, ha'⟩
  | _ => exact LR.cons (by first | (constructor; done) | (constructor <;> assumption)) LR.nil
theorem cells_size {v v' : Value} (h : VR E v v') : v'.cells.size = v.cells.size := by
  have := (cells_VL h).1
  simpa using this.symm
/-- A variable written. -/
theorem Sat.storeVar (h : Sat G F W E S w) {t : TypeId} {a a' : Addr} (ha : AR E a a') {v v' : Value} (hv : VR E v v') (hs : S.storeVar P t a v = some S') :
    ∃ w', (storeVar t a' v').run P w = .ok () w' ∧ Sat G F W E S' w' ∧ S'.n = S.n := by
  unfold SW.storeVar at hs
  split at hs
  · rename_i i hi
    by_cases hl : Nat.beq v.cells.toList.length i.size = true
    · rw [hl, cond_true] at hs
      obtain ⟨w', hr, hsat, hn⟩ := h.write ha (cells_VL hv) hs
      refine ⟨w', ?_, hsat, hn⟩
      have h1 : v'.cells.size = i.size := (cells_size hv).trans (by simpa using Nat.eq_of_beq_eq_true hl)
      simp [Go.storeVar, run_size hi, h1, hr P]
    · rw [Bool.eq_false_iff.2 hl] at hs; cases hs
  · cases hs
/-- A new row. -/
theorem Sat.layRow (h : Sat G F W E S w) {cs : List Value} {arr : Array Value} (hc : VL E cs arr.toList) (t : TypeId) :
    Sat G F W (E.put S.n ⟨w.heap.size, 0, arr.size⟩) (S.new (.cells cs t true)) (w.alloc (.cells arr t)) := by
  have hle : E.le (E.put S.n ⟨w.heap.size, 0, arr.size⟩) := Env.put_le (h.new _ (Nat.le_refl _)) _
  have hl : cs.length = arr.size := by simpa using hc.1
  refine h.lay _ _ _ rfl ⟨arr, (0, 0), ?_, by simp, by simp [hl], fun _ => ⟨hl, rfl, rfl⟩, fun o _ ho => by omega, fun j v hj => ?_⟩
  · show (w.heap.push _)[w.heap.size]? = _
    simp
  · obtain ⟨v', h1, h2⟩ := hc.get hj
    exact ⟨v', by simpa using h1, h2.mono hle⟩
theorem VR.new (E : Env) (n b d k : Nat) : VR (E.put n ⟨b, d, k⟩) (.pointer (some ⟨n, 0, none⟩)) (.pointer (some ⟨b, d, none⟩)) :=
  .ptr ⟨rfl, _, Env.put_same _ _ _, by simp⟩
/-! ### Parts -/
theorem fill_foldl (off : Nat) : ∀ (l l' : List (Value × Nat)), LR (fun p q => VR E p.1 q.1 ∧ p.2 = q.2) l l' → ∀ (c c' : Array Value), VL E c.toList c'.toList →
    VL E (l.foldl (fun cs p => cs.setIfInBounds (off + p.2) p.1) c).toList (l'.foldl (fun cs p => cs.setIfInBounds (off + p.2) p.1) c').toList
  | [], l', hl, c, c', hc => by rw [LR.inv_nil hl]; exact hc
  | p :: l, l', hl, c, c', hc => by
    obtain ⟨q, m, rfl, ⟨h1, h2⟩, hm⟩ := hl.inv_cons
    simp only [List.foldl_cons]
    refine fill_foldl off l m hm _ _ ⟨by simpa using hc.1, fun i x y hx hy => ?_⟩
    rw [← h2] at hy
    have hs := hc.1
    simp at hs
    simp only [Array.getElem?_toList] at hx hy
    by_cases hi : off + p.2 = i
    · subst hi
      by_cases hlt : off + p.2 < c.size
      · rw [Array.getElem?_setIfInBounds_self_of_lt hlt] at hx
        rw [Array.getElem?_setIfInBounds_self_of_lt (by omega)] at hy
        cases hx; cases hy; exact h1
      · rw [Array.getElem?_eq_none (by simp; omega)] at hx; cases hx
    · rw [Array.getElem?_setIfInBounds_ne hi] at hx hy
      exact hc.2 i x y (by simpa using hx) (by simpa using hy)
theorem fill_rel (place : Nat → Option (Nat × Nat)) : ∀ (ps ps' : List (Nat × Value)), LR (fun p q => p.1 = q.1 ∧ VR E p.2 q.2) ps ps' → ∀ (c c' : Array Value), VL E c.toList c'.toList → ∀ r, Instr.fill place c ps = some r →
    ∃ r', Instr.fill place c' ps' = some r' ∧ VL E r.toList r'.toList
  | [], ps', hp, c, c', hc, r, h => by
    rw [LR.inv_nil hp]
    simp only [Instr.fill] at h
    cases h
    exact ⟨c', rfl, hc⟩
  | (i, v) :: ps, ps', hp, c, c', hc, r, h => by
    obtain ⟨⟨i', v'⟩, m, rfl, ⟨h1, h2⟩, hm⟩ := hp.inv_cons
    simp only at h1 h2
    subst h1
    simp only [Instr.fill] at h ⊢
    cases hpl : place i with
    | none => rw [hpl] at h; cases h
    | some os =>
      obtain ⟨off, size⟩ := os
      rw [hpl] at h
      simp only at h ⊢
      have hs := cells_size h2
      have hcs : c'.size = c.size := by have := hc.1; simpa using this.symm
      rw [hs, hcs]
      split at h
      · cases h
      · rename_i hno
        rw [if_neg hno]
        refine fill_rel place ps m hm _ _ ?_ r h
        have := fill_foldl (E := E) off v.cells.toList.zipIdx v'.cells.toList.zipIdx ?_ c c' hc
        · rw [← Array.foldl_toList, ← Array.foldl_toList]
          simpa using this
        · have hL := cells_VL h2
          refine ⟨by simp [hs], fun k x y hx hy => ?_⟩
          rw [List.getElem?_zipIdx] at hx hy
          cases h3 : v.cells.toList[k]? with
          | none => rw [h3] at hx; cases hx
          | some a =>
            obtain ⟨b, h4, hr⟩ := hL.get h3
            rw [h3] at hx; rw [h4] at hy
            simp at hx hy
            subst hx; subst hy
            exact ⟨hr, rfl⟩
theorem run_mapM_places : ∀ (fs : List Field) (l : List (Nat × Nat)), fs.mapM (fun f => match sizeT P f.type with | some n => some (f.offset, n) | none => none) = some l →
    (fs.mapM fun f => (do pure (f.offset, ← sizeOf f.type) : Sem (Nat × Nat))).run P w = .ok l w
  | [], l, h => by simp at h; subst h; simp
  | f :: fs, l, h => by
    simp only [List.mapM_cons] at h ⊢
    cases hz : sizeT P f.type with
    | none => rw [hz] at h; simp at h
    | some z =>
      rw [hz] at h
      cases hm : fs.mapM (fun f => match sizeT P f.type with | some n => some (f.offset, n) | none => none) with
      | none => rw [hm] at h; simp at h
      | some m =>
        rw [hm] at h
        simp at h
        subst h
        obtain ⟨i, hi, rfl⟩ := sizeT_some hz
        have := run_mapM_places fs m hm
        simp only [Sem.run_bind, run_size hi, Result.andThen_ok, Sem.run_pure, this]
theorem build_ok {t : TypeId} {ps ps' : List (Nat × Value)} (hp : LR (fun p q => p.1 = q.1 ∧ VR E p.2 q.2) ps ps') {v : Value} (h : buildS P t ps = some v) :
    ∃ v', (Instr.build t ps'.toArray).run P w = .ok v' w ∧ VR E v v' := by
  unfold buildS at h
  split at h
  · rename_i z fs hz hd
    obtain ⟨i, v0, hi, hv0, rfl, hzz⟩ := zeroOf_some (E := E) hz
    split at h
    · rename_i places hpl
      split at h
      · rename_i cs hcs
        cases h
        obtain ⟨r', hr', hL⟩ := fill_rel (E := E) (fun i => places[i]?) ps ps' hp v0.cells.toList.toArray v0.cells (by simpa using hzz) cs hcs
        refine ⟨.agg r', ?_, .agg' hL⟩
        have hm := run_mapM_places (w := w) fs.toList places hpl
        simp only [Instr.build, Sem.run_bind, run_zero hi hv0, Result.andThen_ok, run_underlying hd, Array.mapM_eq_mapM_toList, Sem.run_map, hm]
        simp only [List.getElem?_toArray, hr']
        rfl
      · cases h
    · cases h
  · rename_i z k e hz hd
    obtain ⟨i, v0, hi, hv0, rfl, hzz⟩ := zeroOf_some (E := E) hz
    split at h
    · rename_i n hn
      obtain ⟨j, hj, rfl⟩ := sizeT_some hn
      split at h
      · rename_i cs hcs
        cases h
        obtain ⟨r', hr', hL⟩ := fill_rel (E := E) _ ps ps' hp v0.cells.toList.toArray v0.cells (by simpa using hzz) cs hcs
        refine ⟨.agg r', ?_, .agg' hL⟩
        simp only [Instr.build, Sem.run_bind, run_zero hi hv0, Result.andThen_ok, run_underlying hd, run_size hj, hr']
        rfl
      · cases h
    · cases h
  · cases h
/-- The same cells again and again. -/
theorem repL_length (n : Nat) (l : List Value) : (repL n l).length = n * l.length := by
  induction n with
  | zero => show ([] : List Value).length = _; simp
  | succ n ih =>
    show (l ++ repL n l).length = _
    rw [List.length_append, ih, Nat.succ_mul, Nat.add_comm]
theorem repL_get (l : List Value) (hl : 0 < l.length) : ∀ (n i : Nat), i < n * l.length → (repL n l)[i]? = l[i % l.length]?
  | 0, i, h => by omega
  | n + 1, i, h => by
    show (l ++ repL n l)[i]? = _
    by_cases hi : i < l.length
    · rw [List.getElem?_append_left hi, Nat.mod_eq_of_lt hi]
    · rw [List.getElem?_append_right (by omega), repL_get l hl n _ (by rw [Nat.succ_mul] at h; omega), Nat.mod_eq_sub_mod (Nat.le_of_not_lt hi)]
theorem zeros_eq (zero : Array Value) (n : Nat) : ((Array.range (n * zero.size)).map (zero[· % zero.size]!)).toList = repL n zero.toList := by
  apply List.ext_getElem?
  intro i
  by_cases hi : i < n * zero.size
  · have h0 : 0 < zero.size := Nat.pos_of_mul_pos_right (Nat.lt_of_le_of_lt (Nat.zero_le _) hi) |> fun h => by
      rcases Nat.eq_zero_or_pos zero.size with h' | h'
      · rw [h'] at hi; simp at hi
      · exact h'
    rw [repL_get _ (by simpa using h0) _ _ (by simpa using hi)]
    have hm : i % zero.size < zero.size := Nat.mod_lt _ h0
    simp [hi, hm]
  · rw [List.getElem?_eq_none (by simpa using hi), List.getElem?_eq_none (by rw [repL_length]; simpa using hi)]
end
end Go.Proofs.YtfjippjkikcpfaaGreatDoor

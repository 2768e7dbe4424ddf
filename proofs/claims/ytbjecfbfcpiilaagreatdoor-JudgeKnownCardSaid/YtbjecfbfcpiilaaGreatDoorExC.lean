/- The executor: operations, first part. The executor: operations on values and memory. The executor: places, parts, maps. -/
import Derived.Test.YtbjecfbfcpiilaaGreatDoorExB
import Derived.Laws.Entries
namespace Go.Proofs.YtbjecfbfcpiilaaGreatDoor
open Go

inductive DR (E : Env) : Deferred → Deferred → Prop
  | fn {f : FuncId} {cap cap' args args' : Array Value} (hc : VL E cap.toList cap'.toList) (ha : VL E args.toList args'.toList) : DR E ⟨.fn (.func f) cap, args⟩ ⟨.fn (.func f) cap', args'⟩
  | mark {r : Nat} {e : Ent} (h : E r = some e) : DR E ⟨.collected r, #[]⟩ ⟨.collected e.b, #[]⟩
theorem DR.mono {E E' : Env} {d d' : Deferred} (h : DR E d d') (hE : E.le E') : DR E' d d' := by
  cases h with
  | fn hc ha => exact .fn (hc.mono hE) (ha.mono hE)
  | mark h => exact .mark (hE _ _ h)
def OpOk (P : Program) (G : Nat) (F : Nat → Option Obj) (W : World) (E : Env) (S S' : SW) (w : World) (x : ONext) (r : Result Next) : Prop :=
  match x with
  | .val v => ∃ v' w' E', r = .ok (.value v') w' ∧ Ext S.n E E' ∧ S.n ≤ S'.n ∧ Sat G F W E' S' w' ∧ VR E' v v'
  | .skip => ∃ w' E', r = .ok .skip w' ∧ Ext S.n E E' ∧ S.n ≤ S'.n ∧ Sat G F W E' S' w'
  | .enter f args => ∃ args', r = .ok (.enter f args') w ∧ VL E args args'.toList ∧ S' = S
  | .round l args => ∃ e args', E l = some e ∧ r = (Instr.yield e.b args').run P w ∧ VL E args args'.toList ∧ S' = S
  | .defer d => ∃ d', r = .ok (.defer d') w ∧ DR E d d' ∧ S' = S
  | .recover => r = .ok .recover w ∧ S' = S
  | .panic v => ∃ v', r = .halt (.panic v') w ∧ VR E v v' ∧ S' = S
section
variable {P : Program} {G : Nat} {F : Nat → Option Obj} {W : World} {E : Env} {S S' : SW} {w : World}
theorem OpOk.val (h : Sat G F W E S w) {v v' : Value} (hv : VR E v v') {r : Result Next} (hr : r = .ok (.value v') w) : OpOk P G F W E S S w (.val v) r :=
  ⟨v', w, E, hr, Ext.refl _ _, Nat.le_refl _, h, hv⟩
/-! ### Types -/
theorem zeroOf_some {t : TypeId} {z : List Value} (h : zeroOf P t = some z) : ∃ i v, P.info? t = some i ∧ i.zero = some v ∧ z = v.cells.toList ∧ VL E z z := by
  unfold zeroOf at h
  split at h
  · rename_i i hi
    split at h
    · rename_i v hv
      by_cases hp : allPlain v.cells.toList = true
      · rw [hp] at h
        cases h
        refine ⟨i, v, hi, hv, rfl, rfl, fun k x y hx hy => ?_⟩
        rw [hx] at hy; cases hy
        exact plain_refl _ _ ((allL_iff _ _).1 hp x (List.mem_of_getElem? hx))
      · rw [Bool.eq_false_iff.2 hp] at h; cases h
    · cases h
  · cases h
theorem run_zero {t : TypeId} {i : TypeInfo} {v : Value} (hi : P.info? t = some i) (hz : i.zero = some v) (w : World) : (zeroValue t).run P w = .ok v w := by
  simp [zeroValue, typeInfo, hi, hz]
theorem sizeT_some {t : TypeId} {z : Nat} (h : sizeT P t = some z) : ∃ i, P.info? t = some i ∧ i.size = z := by
  unfold sizeT at h
  split at h
  · cases h; exact ⟨_, by assumption, rfl⟩
  · cases h
theorem run_size {t : TypeId} {i : TypeInfo} (hi : P.info? t = some i) (w : World) : (sizeOf t).run P w = .ok i.size w := by simp [sizeOf, typeInfo, hi]
theorem run_agg {t : TypeId} {d : TypeDesc} (hd : P.underlying t = some d) (w : World) : (isAgg t).run P w = .ok (isAggD d) w := by
  cases d <;> simp [isAgg, run_underlying hd, isAggD]
theorem run_loadN {l' : List Value} {a' : Addr} (h : ∀ (j : Nat) v', l'[j]? = some v' → w.cell? (a'.add j) = some v') {n : Nat} (hn : l'.length = n) : (loadCells a' n).run P w = .ok l'.toArray w := by
  subst hn; exact run_loadCells_list w a' l' h
theorem Addr.add_zero' (a : Addr) : a.add 0 = a := rfl
/-- A variable read. -/
theorem Sat.loadVar (h : Sat G F W E S w) {t : TypeId} {a a' : Addr} (ha : AR E a a') {v : Value} (hv : S.loadVar P t a = some v) : ∃ v', (loadVar t a').run P w = .ok v' w ∧ VR E v v' := by
  unfold SW.loadVar at hv
  split at hv
  · rename_i d i hd hi
    split at hv
    · rename_i hag
      split at hv
      · rename_i l hl
        cases hv
        obtain ⟨hn, l', hL, hc⟩ := h.read ha hl
        refine ⟨.agg l'.toArray, ?_, .agg' (by simpa using hL)⟩
        simp [Go.loadVar, run_agg hd, hag, run_size hi, run_loadN hc (hL.1.symm.trans hn)]
      · cases hv
    · rename_i hag
      split at hv
      · rename_i u hl
        cases hv
        obtain ⟨hn, l', hL, hc⟩ := h.read ha hl
        obtain ⟨v', m', rfl, hr, _⟩ := hL.inv_cons
        have := hc 0 v' rfl
        rw [Addr.add_zero'] at this
        exact ⟨v', by simp [Go.loadVar, run_agg hd, hag, this], hr⟩
      · cases hv
  · cases hv
theorem cells_VL {v v' : Value} (h : VR E v v') : VL E v.cells.toList v'.cells.toList := by
  cases h with
  | agg ha ha' => exact ⟨ha, ha'⟩
  | _ => exact LR.cons (by first | (constructor; done) | (constructor <;> assumption)) LR.nil
theorem cells_size {v v' : Value} (h : VR E v v') : v'.cells.size = v.cells.size := by
  have := (cells_VL h).1
  simpa using this.symm
/-- A variable written. -/
theorem Sat.storeVar (h : Sat G F W E S w) {t : TypeId} {a a' : Addr} (ha : AR E a a') {v v' : Value} (hv : VR E v v') (hs : S.storeVar P t a v = some S') :
    ∃ w', (storeVar t a' v').run P w = .ok () w' ∧ Sat G F W E S' w' ∧ S'.n = S.n := by
  unfold SW.storeVar at hs
  split at hs
  · rename_i i hi
    by_cases hl : Nat.beq v.cells.toList.length i.size = true
    · rw [hl, cond_true] at hs
      obtain ⟨w', hr, hsat, hn⟩ := h.write ha (cells_VL hv) hs
      refine ⟨w', ?_, hsat, hn⟩
      have h1 : v'.cells.size = i.size := (cells_size hv).trans (by simpa using Nat.eq_of_beq_eq_true hl)
      simp [Go.storeVar, run_size hi, h1, hr P]
    · rw [Bool.eq_false_iff.2 hl] at hs; cases hs
  · cases hs
/-- A new row. -/
theorem Sat.layRow (h : Sat G F W E S w) {cs : List Value} {arr : Array Value} (hc : VL E cs arr.toList) (t : TypeId) :
    Sat G F W (E.put S.n ⟨w.heap.size, 0, arr.size⟩) (S.new (.cells cs t true)) (w.alloc (.cells arr t)) := by
  have hle : E.le (E.put S.n ⟨w.heap.size, 0, arr.size⟩) := Env.put_le (h.new _ (Nat.le_refl _)) _
  have hl : cs.length = arr.size := by simpa using hc.1
  refine h.lay _ _ _ rfl ⟨arr, (0, 0), ?_, by simp, by simp [hl], fun _ => ⟨hl, rfl, rfl⟩, fun o _ ho => by omega, fun j v hj => ?_⟩
  · show (w.heap.push _)[w.heap.size]? = _
    simp
  · obtain ⟨v', h1, h2⟩ := hc.get hj
    exact ⟨v', by simpa using h1, h2.mono hle⟩
theorem VR.new (E : Env) (n b d k : Nat) : VR (E.put n ⟨b, d, k⟩) (.pointer (some ⟨n, 0, none⟩)) (.pointer (some ⟨b, d, none⟩)) :=
  .ptr ⟨rfl, _, Env.put_same _ _ _, by simp⟩
/-! ### Parts -/
theorem fill_foldl (off : Nat) : ∀ (l l' : List (Value × Nat)), LR (fun p q => VR E p.1 q.1 ∧ p.2 = q.2) l l' → ∀ (c c' : Array Value), VL E c.toList c'.toList →
    VL E (l.foldl (fun cs p => cs.setIfInBounds (off + p.2) p.1) c).toList (l'.foldl (fun cs p => cs.setIfInBounds (off + p.2) p.1) c').toList
  | [], l', hl, c, c', hc => by rw [LR.inv_nil hl]; exact hc
  | p :: l, l', hl, c, c', hc => by
    obtain ⟨q, m, rfl, ⟨h1, h2⟩, hm⟩ := hl.inv_cons
    simp only [List.foldl_cons]
    refine fill_foldl off l m hm _ _ ⟨by simpa using hc.1, fun i x y hx hy => ?_⟩
    rw [← h2] at hy
    have hs := hc.1
    simp at hs
    simp only [Array.getElem?_toList] at hx hy
    by_cases hi : off + p.2 = i
    · subst hi
      by_cases hlt : off + p.2 < c.size
      · rw [Array.getElem?_setIfInBounds_self_of_lt hlt] at hx
        rw [Array.getElem?_setIfInBounds_self_of_lt (by omega)] at hy
        cases hx; cases hy; exact h1
      · rw [Array.getElem?_eq_none (by simp; omega)] at hx; cases hx
    · rw [Array.getElem?_setIfInBounds_ne hi] at hx hy
      exact hc.2 i x y (by simpa using hx) (by simpa using hy)
theorem fill_rel (place : Nat → Option (Nat × Nat)) : ∀ (ps ps' : List (Nat × Value)), LR (fun p q => p.1 = q.1 ∧ VR E p.2 q.2) ps ps' → ∀ (c c' : Array Value), VL E c.toList c'.toList → ∀ r, Instr.fill place c ps = some r →
    ∃ r', Instr.fill place c' ps' = some r' ∧ VL E r.toList r'.toList
  | [], ps', hp, c, c', hc, r, h => by
    rw [LR.inv_nil hp]
    simp only [Instr.fill] at h
    cases h
    exact ⟨c', rfl, hc⟩
  | (i, v) :: ps, ps', hp, c, c', hc, r, h => by
    obtain ⟨⟨i', v'⟩, m, rfl, ⟨h1, h2⟩, hm⟩ := hp.inv_cons
    simp only at h1 h2
    subst h1
    simp only [Instr.fill] at h ⊢
    cases hpl : place i with
    | none => rw [hpl] at h; cases h
    | some os =>
      obtain ⟨off, size⟩ := os
      rw [hpl] at h
      simp only at h ⊢
      have hs := cells_size h2
      have hcs : c'.size = c.size := by have := hc.1; simpa using this.symm
      rw [hs, hcs]
      split at h
      · cases h
      · rename_i hno
        rw [if_neg hno]
        refine fill_rel place ps m hm _ _ ?_ r h
        have := fill_foldl (E := E) off v.cells.toList.zipIdx v'.cells.toList.zipIdx ?_ c c' hc
        · rw [← Array.foldl_toList, ← Array.foldl_toList]
          simpa using this
        · have hL := cells_VL h2
          refine ⟨by simp [hs], fun k x y hx hy => ?_⟩
          rw [List.getElem?_zipIdx] at hx hy
          cases h3 : v.cells.toList[k]? with
          | none => rw [h3] at hx; cases hx
          | some a =>
            obtain ⟨b, h4, hr⟩ := hL.get h3
            rw [h3] at hx; rw [h4] at hy
            simp at hx hy
            subst hx; subst hy
            exact ⟨hr, rfl⟩
theorem run_mapM_places : ∀ (fs : List Field) (l : List (Nat × Nat)), fs.mapM (fun f => match sizeT P f.type with | some n => some (f.offset, n) | none => none) = some l →
    (fs.mapM fun f => (do pure (f.offset, ← sizeOf f.type) : Sem (Nat × Nat))).run P w = .ok l w
  | [], l, h => by simp at h; subst h; simp
  | f :: fs, l, h => by
    simp only [List.mapM_cons] at h ⊢
    cases hz : sizeT P f.type with
    | none => rw [hz] at h; simp at h
    | some z =>
      rw [hz] at h
      cases hm : fs.mapM (fun f => match sizeT P f.type with | some n => some (f.offset, n) | none => none) with
      | none => rw [hm] at h; simp at h
      | some m =>
        rw [hm] at h
        simp at h
        subst h
        obtain ⟨i, hi, rfl⟩ := sizeT_some hz
        have := run_mapM_places fs m hm
        simp only [Sem.run_bind, run_size hi, Result.andThen_ok, Sem.run_pure, this]
theorem build_ok {t : TypeId} {ps ps' : List (Nat × Value)} (hp : LR (fun p q => p.1 = q.1 ∧ VR E p.2 q.2) ps ps') {v : Value} (h : buildS P t ps = some v) :
    ∃ v', (Instr.build t ps'.toArray).run P w = .ok v' w ∧ VR E v v' := by
  unfold buildS at h
  split at h
  · rename_i z fs hz hd
    obtain ⟨i, v0, hi, hv0, rfl, hzz⟩ := zeroOf_some (E := E) hz
    split at h
    · rename_i places hpl
      split at h
      · rename_i cs hcs
        cases h
        obtain ⟨r', hr', hL⟩ := fill_rel (E := E) (fun i => places[i]?) ps ps' hp v0.cells.toList.toArray v0.cells (by simpa using hzz) cs hcs
        refine ⟨.agg r', ?_, .agg' hL⟩
        have hm := run_mapM_places (w := w) fs.toList places hpl
        simp only [Instr.build, Sem.run_bind, run_zero hi hv0, Result.andThen_ok, run_underlying hd, Array.mapM_eq_mapM_toList, Sem.run_map, hm]
        simp only [List.getElem?_toArray, hr']
        rfl
      · cases h
    · cases h
  · rename_i z k e hz hd
    obtain ⟨i, v0, hi, hv0, rfl, hzz⟩ := zeroOf_some (E := E) hz
    split at h
    · rename_i n hn
      obtain ⟨j, hj, rfl⟩ := sizeT_some hn
      split at h
      · rename_i cs hcs
        cases h
        obtain ⟨r', hr', hL⟩ := fill_rel (E := E) _ ps ps' hp v0.cells.toList.toArray v0.cells (by simpa using hzz) cs hcs
        refine ⟨.agg r', ?_, .agg' hL⟩
        simp only [Instr.build, Sem.run_bind, run_zero hi hv0, Result.andThen_ok, run_underlying hd, run_size hj, hr']
        rfl
      · cases h
    · cases h
  · cases h
/-- The same cells again and again. -/
theorem repL_length (n : Nat) (l : List Value) : (repL n l).length = n * l.length := by
  induction n with
  | zero => show ([] : List Value).length = _; simp
  | succ n ih =>
    show (l ++ repL n l).length = _
    rw [List.length_append, ih, Nat.succ_mul, Nat.add_comm]
theorem repL_get (l : List Value) (hl : 0 < l.length) : ∀ (n i : Nat), i < n * l.length → (repL n l)[i]? = l[i % l.length]?
  | 0, i, h => by omega
  | n + 1, i, h => by
    show (l ++ repL n l)[i]? = _
    by_cases hi : i < l.length
    · rw [List.getElem?_append_left hi, Nat.mod_eq_of_lt hi]
    · rw [List.getElem?_append_right (by omega), repL_get l hl n _ (by rw [Nat.succ_mul] at h; omega), Nat.mod_eq_sub_mod (Nat.le_of_not_lt hi)]
theorem zeros_eq (zero : Array Value) (n : Nat) : ((Array.range (n * zero.size)).map (zero[· % zero.size]!)).toList = repL n zero.toList := by
  apply List.ext_getElem?
  intro i
  by_cases hi : i < n * zero.size
  · have h0 : 0 < zero.size := Nat.pos_of_mul_pos_right (Nat.lt_of_le_of_lt (Nat.zero_le _) hi) |> fun h => by
      rcases Nat.eq_zero_or_pos zero.size with h' | h'
      · rw [h'] at hi; simp at hi
      · exact h'
    rw [repL_get _ (by simpa using h0) _ _ (by simpa using hi)]
    have hm : i % zero.size < zero.size := Nat.mod_lt _ h0
    simp [hi, hm]
  · rw [List.getElem?_eq_none (by simpa using hi), List.getElem?_eq_none (by rw [repL_length]; simpa using hi)]
end
end Go.Proofs.YtbjecfbfcpiilaaGreatDoor
namespace Go.Proofs.YtbjecfbfcpiilaaGreatDoor
open Go
section
variable {P : Program} {G : Nat} {F : Nat → Option Obj} {W : World} {E : Env} {S S' : SW} {w : World}
/-! ### Are they the same? -/
theorem sameP_ok (h : Sat G F W E S w) {a b a' b' : Addr} (ha : AR E a a') (hb : AR E b b') {z : Nat} {r : Bool} (hr : sameP S z a b = some r) : z ≠ 0 ∧ (sameAddr a' b').run P w = .ok r w := by
  unfold sameP at hr
  split at hr
  · rename_i cs t h1
    split at hr
    · rename_i ds u h2
      by_cases hz : Nat.beq z 0 = true
      · rw [hz] at hr; cases hr
      rw [Bool.eq_false_iff.2 hz] at hr
      cases hr
      refine ⟨fun hc => hz (by rw [hc]; rfl), ?_⟩
      obtain ⟨e, arr, fr, he, rfl, k1, k2, k3, k4, k5, _⟩ := h.row ha h1
      obtain ⟨f, arr', fr', hf, rfl, q1, q2, q3, q4, q5, _⟩ := h.row hb h2
      unfold sameAddr
      by_cases hbl : a.block = b.block
      · rw [hbl] at he
        rw [he] at hf; cases hf
        simp only [hbl, beq_self_eq_true, if_true, Sem.run_pure, Nat.beq_refl, Bool.true_and]
        congr 1
        by_cases ho : a.off = b.off
        · simp [ho]
        · have h3 : Nat.beq a.off b.off = false := by rw [Bool.eq_false_iff]; exact fun h => ho (Nat.eq_of_beq_eq_true h)
          rw [h3, beq_eq_false_iff_ne]
          intro hc
          injection hc with _ hc _
          omega
      · have hne : e.b ≠ f.b := fun hc => hbl (h.inj _ _ _ _ _ _ h1 h2 he hf hc)
        have h3 : Nat.beq a.block b.block = false := by rw [Bool.eq_false_iff]; exact fun h => hbl (Nat.eq_of_beq_eq_true h)
        have hfr := (k4 rfl).2.2
        have hfr' := (q4 rfl).2.2
        subst hfr
        subst hfr'
        have f1 : w.frozen? ⟨e.b, a.off + e.d, none⟩ = false := frozen_arr k1 (by simp)
        have f2 : w.frozen? ⟨e.b, arr.size, none⟩ = false := frozen_arr k1 (by simp)
        have g1 : w.frozen? ⟨f.b, b.off + f.d, none⟩ = false := frozen_arr q1 (by simp)
        have g2 : w.frozen? ⟨f.b, arr'.size, none⟩ = false := frozen_arr q1 (by simp)
        have s1 : w.shape? e.b = some (t, arr.size) := by simp [World.shape?, k1]
        have s2 : w.shape? f.b = some (u, arr'.size) := by simp [World.shape?, q1]
        simp [hne, h3, f1, f2, g1, g2, s1, s2, noView, viewAt, mayBeOne, stringish]
    · cases hr
  · cases hr
theorem eq_ok' (h : Sat G F W E S w) {t : TypeId} {x y x' y' : Value} (hx : VR E x x') (hy : VR E y y') {b : Bool} (he : eqS P S t x y = some b) (d : Nat) : (Op.equalIn (d + 1) t x' y').run P w = .ok b w := by
  unfold eqS at he
  split at he
  · rename_i hd; cases he; cases hx; cases hy; simp [Op.equalIn, run_underlying hd]
  · rename_i hd; cases he; cases hx; cases hy; simp [Op.equalIn, run_underlying hd]
  · rename_i el a c hd
    split at he
    · rename_i z hz
      cases hx with | ptr ha => cases hy with | ptr hb =>
      obtain ⟨hz0, hr⟩ := sameP_ok (P := P) h ha hb he
      obtain ⟨i, hi, rfl⟩ := sizeT_some hz
      simp [Op.equalIn, run_underlying hd, run_size hi, hz0, hr]
    · cases he
  · rename_i hd; cases he; cases hx; cases hy; simp [Op.equalIn, run_underlying hd]
  · rename_i hd; cases he; cases hx; cases hy; simp [Op.equalIn, run_underlying hd]
  · rename_i hd; cases he; cases hx; cases hy; simp [Op.equalIn, run_underlying hd]
  · rename_i hd; cases he; cases hx; cases hy; simp [Op.equalIn, run_underlying hd]
  · rename_i hd; cases he; cases hx; cases hy; simp [Op.equalIn, run_underlying hd]
  · rename_i hd; cases he; cases hx; cases hy; simp [Op.equalIn, run_underlying hd]
  · rename_i hd; cases he; cases hx; cases hy; simp [Op.equalIn, run_underlying hd]
  · rename_i hd; cases he; cases hx; cases hy; simp [Op.equalIn, run_underlying hd]
  · rename_i t1 v1 t2 v2 hd
    by_cases hc : Nat.beq t1 t2 = true
    · rw [hc] at he; cases he
    · rw [Bool.eq_false_iff.2 hc] at he
      cases he
      cases hx; cases hy
      have hne : t1 ≠ t2 := fun e => hc (by rw [e]; exact Nat.beq_refl _)
      simp [Op.equalIn, run_underlying hd, hne]
  · cases he
theorem eq_ok (h : Sat G F W E S w) {t : TypeId} {x y x' y' : Value} (hx : VR E x x') (hy : VR E y y') {b : Bool} (he : eqS P S t x y = some b) : (Op.equal t x' y').run P w = .ok b w :=
  eq_ok' h hx hy he 9999
/-! ### Slices -/
def OR (R : Value → Value → Prop) : Option Value → Option Value → Prop
  | none, none => True
  | some x, some y => R x y
  | _, _ => False
theorem run_bnd {d y n : Nat} {lo lo' : Option Value} (ho : OR (VR E) lo lo') (h : bndS d y lo = some n) (code : BoundsCode) :
    (match lo' with
      | some v => (Instr.sliceBound v y code).run P w
      | none => .ok d w) = .ok n w ∧ (lo = none → n = d) ∧ (∀ v, lo = some v → n ≤ y) := by
  cases lo with
  | none =>
    cases lo' with
    | none => simp only [bndS] at h; cases h; exact ⟨rfl, fun _ => rfl, fun _ h => by cases h⟩
    | some v => exact ho.elim
  | some x =>
    cases lo' with
    | none => exact ho.elim
    | some x' =>
      unfold bndS at h
      split at h
      · rename_i heq; cases heq
      · rename_i k m heq
        cases heq
        by_cases hle : Nat.ble m y = true
        · rw [hle] at h
          cases h
          have hle' := Nat.le_of_ble_eq_true hle
          cases (show VR E (.int k (.ofNat n)) x' from ho)
          refine ⟨?_, fun h => (by cases h), fun _ _ => hle'⟩
          have h2 : ((n : Int)) ≤ (y : Int) := by omega
          simp [Instr.sliceBound, asIntOf, h2]
        · rw [Bool.eq_false_iff.2 hle] at h; cases h
      · cases h
theorem slice_exact {E : Env} {a a' : Addr} {cap : Nat} {h l m : Nat} (hs : a.spot = none) (hor : cap = 0 ∨ AR E a a') (hcap : m < CAPX) (hm : m ≤ cap) (hh : h ≤ m) (hl : l ≤ h) (z : Nat) :
    VR E (.slice (some (bif Nat.beq m l then a else a.add (l * z))) (h - l) (m - l)) (.slice (some (if m = l then a' else a'.add (l * z))) (h - l) (m - l)) := by
  refine .sl ⟨?_, by omega, ?_, .inl ⟨by omega, rfl⟩⟩
  · by_cases hml : m = l
    · simp [hml, hs]
    · have : Nat.beq m l = false := by rw [Bool.eq_false_iff]; exact fun h => hml (Nat.eq_of_beq_eq_true h)
      rw [this]; exact Addr.add_spot hs _
  · by_cases hml : m = l
    · exact .inl (by omega)
    · have : Nat.beq m l = false := by rw [Bool.eq_false_iff]; exact fun h => hml (Nat.eq_of_beq_eq_true h)
      rw [this, if_neg hml]
      exact .inr ((hor.resolve_left (by omega)).add _)
theorem run_bnds (isSlice : Bool) {y d : Nat} {lo lo' hi hi' : Option Value} {h l : Nat} (hlo : OR (VR E) lo lo') (hhi : OR (VR E) hi hi') (h1 : bndS d y hi = some h) (h2 : bndS 0 h lo = some l) (hd : d ≤ y) :
    (Instr.sliceBounds isSlice d y lo' hi' none).run P w = .ok (l, h, y) w ∧ h ≤ y ∧ l ≤ h := by
  have hh : h ≤ y := by
    cases hi with
    | none => simp only [bndS] at h1; cases h1; exact hd
    | some v => exact (run_bnd (P := P) (w := w) hhi h1 .sliceAcap).2.2 v rfl
  have hl : l ≤ h := by
    cases lo with
    | none => simp only [bndS] at h2; cases h2; omega
    | some v => exact (run_bnd (P := P) (w := w) hlo h2 .sliceB).2.2 v rfl
  refine ⟨?_, hh, hl⟩
  have r1 := (run_bnd (P := P) (w := w) hhi h1 (if isSlice then .sliceAcap else .sliceAlen)).1
  have r2 := (run_bnd (P := P) (w := w) hlo h2 .sliceB).1
  unfold Instr.sliceBounds
  cases hi' with
  | none =>
    cases lo' with
    | none => simp only at r1 r2; cases r1; cases r2; simp
    | some u => simp only at r1 r2; cases r1; simp [r2]
  | some v =>
    cases lo' with
    | none => simp only at r1 r2; cases r2; simp [r1]
    | some u => simp only at r1 r2; simp [r1, r2]
theorem run_bnds3 {len y m : Nat} {k : IntKind} {lo lo' : Option Value} {hi hi' : Value} {h l : Nat} (hlo : OR (VR E) lo lo') (hhi : VR E hi hi') (hm : m ≤ y) (h1 : bndS 0 m (some hi) = some h) (h2 : bndS 0 h lo = some l) :
    (Instr.sliceBounds true len y lo' (some hi') (some (.int k (.ofNat m)))).run P w = .ok (l, h, m) w ∧ h ≤ m ∧ l ≤ h := by
  have q1 := run_bnd (P := P) (w := w) (lo := some hi) (lo' := some hi') hhi h1 .slice3B
  have hh := q1.2.2 hi rfl
  have hl : l ≤ h := by
    cases lo with
    | none => simp only [bndS] at h2; cases h2; omega
    | some v => exact (run_bnd (P := P) (w := w) hlo h2 .sliceB).2.2 v rfl
  refine ⟨?_, hh, hl⟩
  have r1 := q1.1
  have r2 := (run_bnd (P := P) (w := w) hlo h2 .slice3C).1
  have r0 : (Instr.sliceBound (.int k (m : Int)) y .slice3Acap).run P w = .ok m w := by
    have : ((m : Int)) ≤ (y : Int) := by omega
    simp [Instr.sliceBound, asIntOf, this]
  simp only at r1
  unfold Instr.sliceBounds
  cases lo' with
  | none => simp only at r2; cases r2; simp [r0, r1]
  | some u => simp only at r2; simp [r0, r1, r2]
theorem sl_cap {a : Addr} {len cap : Nat} {a' : Addr} {cap' : Nat} (hc : CR E a len cap a' cap') : cap < CAPX → cap' = cap := fun h => by
  rcases hc.2.2.2 with ⟨_, h⟩ | ⟨z, e, h1, _⟩
  · exact h
  · omega
theorem slE_ok {a a' : Addr} {len cap z : Nat} {lo lo' hi hi' : Option Value} (hlo : OR (VR E) lo lo') (hhi : OR (VR E) hi hi') {v : Value} (hs : a.spot = none) (hor : cap = 0 ∨ AR E a a') (hcap : cap < CAPX) (hlen : len ≤ cap) (h : slE z a len cap lo hi = some v) (b : Bool) :
    ∃ hh l, (Instr.sliceBounds b len cap lo' hi' none).run P w = .ok (l, hh, cap) w ∧ VR E v (.slice (some (if cap = l then a' else a'.add (l * z))) (hh - l) (cap - l)) := by
  unfold slE at h
  split at h
  · cases h
  · rename_i hh h1
    split at h
    · cases h
    · rename_i l h2
      cases h
      obtain ⟨hr, hle1, hle2⟩ := run_bnds (P := P) (w := w) b hlo hhi h1 h2 hlen
      exact ⟨hh, l, hr, slice_exact hs hor hcap (Nat.le_refl _) hle1 hle2 z⟩
theorem slice_ok {t : TypeId} {x x' : Value} (hx : VR E x x') {lo lo' hi hi' mx mx' : Option Value} (hlo : OR (VR E) lo lo') (hhi : OR (VR E) hi hi') (hmx : OR (VR E) mx mx') {v : Value} (h : sliceS P t x lo hi mx = some v) :
    ∃ v', (Instr.sliceAt t x' lo' hi' mx').run P w = .ok v' w ∧ VR E v v' := by
  unfold sliceS at h
  split at h
  · rename_i el a len cap hd
    cases hx with | sl hc =>
    rename_i a' cap'
    split at h
    · cases h
    · rename_i z hz
      obtain ⟨i, hsi, rfl⟩ := sizeT_some hz
      have hsat : (Instr.sliceAt t (.slice (some a') len cap') lo' hi' mx').run P w = (Instr.slice t (.slice (some a') len cap') lo' hi' mx').run P w := by
        simp [Instr.sliceAt, run_underlying hd]
      rw [hsat]
      have hlen := hc.2.1
      split at h
      · rename_i k m
        cases mx' with
        | none => exact hmx.elim
        | some mv =>
        cases (show VR E (.int k (.ofNat m)) mv from hmx)
        unfold sl3 at h
        by_cases hm : (Nat.ble m (bif Nat.ble CAPX cap then len else cap) && Nat.blt m CAPX) = true
        · rw [hm, cond_true] at h
          rw [Bool.and_eq_true] at hm
          have hm' := Nat.le_of_ble_eq_true hm.1
          have hmX : m < CAPX := Nat.le_of_ble_eq_true hm.2
          have hmc : m ≤ cap' := by
            by_cases hX : Nat.ble CAPX cap = true
            · rw [hX, cond_true] at hm'; omega
            · rw [Bool.eq_false_iff.2 hX, cond_false] at hm'
              have := sl_cap hc (by rw [Nat.ble_eq] at hX; omega)
              omega
          split at h
          · cases h
          · rename_i hiv
            cases hi' with
            | none => exact hhi.elim
            | some hiv' =>
            split at h
            · cases h
            · rename_i hh h1
              split at h
              · cases h
              · rename_i l h2
                cases h
                obtain ⟨hr, hle1, hle2⟩ := run_bnds3 (P := P) (w := w) (len := len) (k := k) hlo hhi hmc h1 h2
                exact ⟨_, by simp only [Instr.slice, Sem.run_bind, run_underlying hd, Result.andThen_ok, hr, run_size hsi, Option.map_some]; rfl, by
                  have := slice_exact (E := E) (a' := a') hc.1 hc.2.2.1 hmX hmc hle1 hle2 i.size
                  split <;> simp_all⟩
        · rw [Bool.eq_false_iff.2 hm] at h; cases h
      · cases h
      · cases mx' with
        | some _ => exact hmx.elim
        | none =>
        by_cases hX : Nat.ble CAPX cap = true
        · rw [hX, cond_true] at h
          unfold slX at h
          by_cases hz' : Nat.beq cap (CAPX + i.size) = true
          · rw [hz', cond_true] at h
            have hz'' := Nat.eq_of_beq_eq_true hz'
            split at h
            · cases h
            · rename_i hh h1
              split at h
              · cases h
              · rename_i l h2
                cases h
                have h1' : bndS len cap' hi = some hh := by
                  cases hi with
                  | none => exact h1
                  | some hv =>
                    unfold bndS at h1 ⊢
                    split at h1
                    · rename_i heq; cases heq
                    · rename_i k n heq
                      cases heq
                      by_cases hle : Nat.ble n len = true
                      · rw [hle] at h1
                        cases h1
                        have := Nat.le_of_ble_eq_true hle
                        rw [show Nat.ble hh cap' = true from by rw [Nat.ble_eq]; omega]
                        rfl
                      · rw [Bool.eq_false_iff.2 hle] at h1; cases h1
                    · cases h1
                obtain ⟨hr, hle1, hle2⟩ := run_bnds (P := P) (w := w) true hlo hhi h1' h2 hlen
                have hhl : hh ≤ len := by
                  cases hi with
                  | none => simp only [bndS] at h1; cases h1; omega
                  | some hv => exact (run_bnd (P := P) (w := w) hhi h1 .sliceAcap).2.2 hv rfl
                refine ⟨_, by simp only [Instr.slice, Sem.run_bind, run_underlying hd, Result.andThen_ok, hr, run_size hsi, Option.map_some]; rfl, ?_⟩
                obtain ⟨hs, _, hor, hcx⟩ := hc
                rcases hcx with ⟨hcx, _⟩ | ⟨z, e, hcz, he, heq⟩
                · omega
                have hzz : z = i.size := by omega
                subst hzz
                have hk : (a.add (l * i.size)).off + (cap' - l) * i.size = e.k := by
                  rw [Addr.add_off, ← heq, Nat.sub_mul, Nat.add_assoc]
                  congr 1
                  have : l * i.size ≤ cap' * i.size := Nat.mul_le_mul_right _ (by omega)
                  omega
                have hsome : (if cap' = l then some a' else some (a'.add (l * i.size))) = some (if cap' = l then a' else a'.add (l * i.size)) := by split <;> rfl
                have goal : VR E (.slice (some (a.add (l * i.size))) (hh - l) (CAPX + i.size)) (.slice (some (if cap' = l then a' else a'.add (l * i.size))) (hh - l) (cap' - l)) := by
                  refine .sl ⟨Addr.add_spot hs _, by omega, ?_, .inr ⟨i.size, e, rfl, by rw [Addr.add_block]; exact he, hk⟩⟩
                  by_cases hcl : cap' = l
                  · exact .inl (by omega)
                  · rw [if_neg hcl]
                    exact .inr ((hor.resolve_left (by omega)).add _)
                first | exact goal | (rw [hsome]; exact goal) | simpa [hsome] using goal
          · rw [Bool.eq_false_iff.2 hz'] at h; cases h
        · rw [Bool.eq_false_iff.2 hX, cond_false] at h
          have hcap : cap < CAPX := by rw [Nat.ble_eq] at hX; omega
          cases sl_cap hc hcap
          obtain ⟨hh, l, hr, hv⟩ := slE_ok (P := P) (w := w) hlo hhi hc.1 hc.2.2.1 hcap hlen h true
          refine ⟨_, by simp only [Instr.slice, Sem.run_bind, run_underlying hd, Result.andThen_ok, hr, run_size hsi, Option.map_some]; rfl, ?_⟩
          split <;> simp_all
  · rename_i n el a hd
    cases hx with | ptr ha =>
    rename_i a'
    split at h
    · cases h
    · rename_i z hz
      obtain ⟨i, hsi, rfl⟩ := sizeT_some hz
      split at h
      · cases h
      · cases mx' with
        | some _ => exact hmx.elim
        | none =>
        by_cases hX : Nat.ble CAPX n = true
        · rw [hX] at h; cases h
        · rw [Bool.eq_false_iff.2 hX, cond_false] at h
          have hcap : n < CAPX := by rw [Nat.ble_eq] at hX; omega
          obtain ⟨hh, l, hr, hv⟩ := slE_ok (P := P) (w := w) hlo hhi ha.1 (.inr ha) hcap (Nat.le_refl _) h false
          refine ⟨_, by simp only [Instr.sliceAt, Sem.run_bind, run_underlying hd, Result.andThen_ok, Instr.sureAddr, Sem.run_pure, hr, run_size hsi]; rfl, ?_⟩
          split <;> simp_all
  · cases h
end
end Go.Proofs.YtbjecfbfcpiilaaGreatDoor
namespace Go.Proofs.YtbjecfbfcpiilaaGreatDoor
open Go
section
variable {P : Program} {G : Nat} {F : Nat → Option Obj} {W : World} {E : Env} {S S' : SW} {w : World}
theorem indexAt_ok {t : TypeId} {x x' i i' : Value} (hx : VR E x x') (hi : VR E i i') {v : Value} (h : indexAtS P t x i = some v) : ∃ v', (Instr.indexAt t x' i').run P w = .ok v' w ∧ VR E v v' := by
  unfold indexAtS at h
  split at h
  · rename_i el a len cap k n hd
    cases hi
    cases hx with | sl hc =>
    rename_i a' cap'
    split at h
    · rename_i z hz
      obtain ⟨j, hj, rfl⟩ := sizeT_some hz
      by_cases hlt : Nat.blt n len = true
      · rw [hlt] at h
        cases h
        have hlt' : n < len := Nat.le_of_ble_eq_true hlt
        refine ⟨.pointer (some (a'.add (n * j.size))), ?_, .ptr ((hc.2.2.1.resolve_left (by have := hc.2.1; omega)).add _)⟩
        simp [Instr.indexAt, asIntOf, run_underlying hd, run_size hj]
        intro hc'; omega
      · rw [Bool.eq_false_iff.2 hlt] at h; cases h
    · cases h
  · rename_i len el a k n hd
    cases hi
    cases hx with | ptr ha =>
    rename_i a'
    split at h
    · rename_i z hz
      obtain ⟨j, hj, rfl⟩ := sizeT_some hz
      by_cases hlt : Nat.blt n len = true
      · rw [hlt] at h
        cases h
        have hlt' : n < len := Nat.le_of_ble_eq_true hlt
        refine ⟨.pointer (some (a'.add (n * j.size))), ?_, .ptr (ha.add _)⟩
        simp [Instr.indexAt, asIntOf, run_underlying hd, run_size hj, Instr.sureAddr]
        intro hc'; omega
      · rw [Bool.eq_false_iff.2 hlt] at h; cases h
    · cases h
  · cases h
theorem fieldAt_ok {t : TypeId} {x x' : Value} (hx : VR E x x') {f : Nat} {v : Value} (h : fieldAtS P t x f = some v) : ∃ v', (Instr.fieldAt t x' f).run P w = .ok v' w ∧ VR E v v' := by
  unfold fieldAtS at h
  split at h
  · rename_i fs a hd
    cases hx with | ptr ha =>
    rename_i a'
    split at h
    · rename_i fd hfd
      split at h
      · rename_i z hz
        obtain ⟨j, hj, rfl⟩ := sizeT_some hz
        by_cases hz0 : Nat.beq j.size 0 = true
        · rw [hz0] at h; cases h
        · rw [Bool.eq_false_iff.2 hz0] at h
          cases h
          have hz1 : j.size ≠ 0 := fun hc => hz0 (by rw [hc]; rfl)
          have hfd' : fs[f]? = some fd := by simpa using hfd
          refine ⟨.pointer (some (a'.add fd.offset)), ?_, .ptr (ha.add _)⟩
          simp [Instr.fieldAt, run_underlying hd, hfd', Instr.sureAddr, fieldPlace, run_size hj, hz1]
      · cases h
    · cases h
  · cases h
theorem part_ok {t : TypeId} {cs : List Value} {arr : Array Value} (hc : VL E cs arr.toList) {off : Nat} {v : Value} (h : partS P t cs off = some v) : ∃ v', (part t arr off).run P w = .ok v' w ∧ VR E v v' := by
  unfold partS at h
  split at h
  · rename_i d i hd hi
    split at h
    · rename_i hag
      split at h
      · rename_i l hl
        rw [dropR_eq] at hl
        split at hl
        · cases hl
          split at h
          · rename_i r hr
            rw [takeR_eq] at hr
            split at hr
            · cases hr
              cases h
              refine ⟨.agg (arr.extract off (off + i.size)), by simp [part, run_agg hd, hag, run_size hi], .agg' ?_⟩
              have := (hc.drop off).take i.size
              simpa [Array.toList_extract, List.extract] using this
            · cases hr
          · cases h
        · cases hl
      · cases h
    · rename_i hag
      split at h
      · rename_i u l hl
        rw [dropR_eq] at hl
        split at hl
        · rename_i hle
          injection hl with hl
          cases h
          have hu : cs[off]? = some v := by
            have : (cs.drop off)[0]? = some v := by rw [hl]; rfl
            simpa using this
          obtain ⟨v', h1, h2⟩ := hc.get hu
          exact ⟨v', by simp [part, run_agg hd, hag, show arr[off]? = some v' by simpa using h1], h2⟩
        · cases hl
      · cases h
  · cases h
theorem field_ok {t : TypeId} {x x' : Value} (hx : VR E x x') {f : Nat} {v : Value} (h : fieldS P t x f = some v) : ∃ v', (Instr.field t x' f).run P w = .ok v' w ∧ VR E v v' := by
  unfold fieldS at h
  split at h
  · rename_i fs cs hd
    cases hx with | agg ha ha' =>
    rename_i arr
    split at h
    · rename_i fd hfd
      obtain ⟨v', h1, h2⟩ := part_ok (w := w) (P := P) (arr := arr) ⟨ha, ha'⟩ h
      have hfd' : fs[f]? = some fd := by simpa using hfd
      exact ⟨v', by simp [Instr.field, run_underlying hd, hfd', asAgg, h1], h2⟩
    · cases h
  · cases h
theorem index_ok {t : TypeId} {x x' i i' : Value} (hx : VR E x x') (hi : VR E i i') {v : Value} (h : indexS P t x i = some v) : ∃ v', (Instr.index t x' i').run P w = .ok v' w ∧ VR E v v' := by
  unfold indexS at h
  split at h
  · rename_i len el cs k n hd
    cases hi
    cases hx with | agg ha ha' =>
    rename_i arr
    split at h
    · rename_i z hz
      obtain ⟨j, hj, rfl⟩ := sizeT_some hz
      by_cases hlt : Nat.blt n len = true
      · rw [hlt] at h
        have hlt' : n < len := Nat.le_of_ble_eq_true hlt
        obtain ⟨v', h3, h4⟩ := part_ok (w := w) (P := P) (arr := arr) ⟨ha, ha'⟩ h
        exact ⟨v', by simp [Instr.index, asIntOf, run_underlying hd, run_size hj, h3]; intro hc'; omega, h4⟩
      · rw [Bool.eq_false_iff.2 hlt] at h; cases h
    · cases h
  · cases h
/-! ### Without looking at the world -/
theorem prun_ok {α : Type} {s : Sem α} {a : α} (h : prun P s = some (.ok a)) (w : World) : s.run P w = .ok a w := by
  induction s with
  | pure b => simp [prun] at h; subst h; rfl
  | program k ih => simp only [prun] at h; simp only [Sem.run]; exact ih _ h
  | mark m k ih => simp only [prun] at h; simp only [Sem.run]; exact ih h
  | halt x => cases x <;> simp [prun] at h
  | _ => simp [prun] at h
theorem prun_err {α : Type} {s : Sem α} {v : Value} (h : prun P s = some (.error v)) (w : World) : s.run P w = .halt (.panic v) w := by
  induction s with
  | pure b => simp [prun] at h
  | program k ih => simp only [prun] at h; simp only [Sem.run]; exact ih _ h
  | mark m k ih => simp only [prun] at h; simp only [Sem.run]; exact ih h
  | halt x => cases x <;> simp [prun] at h; subst h; rfl
  | _ => simp [prun] at h
/-! ### Maps -/
theorem natBeq_iff {a b : Nat} : Nat.beq a b = true ↔ a = b := ⟨Nat.eq_of_beq_eq_true, fun h => by rw [h]; exact Nat.beq_refl _⟩
theorem intEq_iff {a b : Int} : intEq a b = true ↔ a = b := by
  unfold intEq
  split
  · rw [natBeq_iff]
    exact ⟨fun h => by rw [h], fun h => by injection h⟩
  · rw [natBeq_iff]
    exact ⟨fun h => by rw [h], fun h => by injection h⟩
  · rename_i h1 h2
    refine ⟨fun h => (by cases h), fun h => ?_⟩
    subst h
    cases a with
    | ofNat m => exact (h1 m m rfl rfl).elim
    | negSucc m => exact (h2 m m rfl rfl).elim
theorem kindEq_iff {a b : IntKind} : kindEq a b = true ↔ a = b := by cases a <;> cases b <;> simp [kindEq]
theorem findI_ok {k : IntKind} {n : Int} {d : TypeDesc} (hd : isIntD d = true) : ∀ (es fs : List MapEntry) (i : Nat) (r : Option Nat), LR (MR E) es fs → findI k n es i = some r →
    Instr.findNow d (.int k n) fs i = some (match r with | some j => (fs[j - i]?).map fun f => (j, f.val) | none => none) ∧ (∀ j, r = some j → i ≤ j ∧ ∃ e f, es[j - i]? = some e ∧ fs[j - i]? = some f)
  | [], fs, i, r, hl, h => by
    rw [LR.inv_nil hl]
    cases (show some none = some r from h)
    exact ⟨by simp [Instr.findNow], fun j hj => by cases hj⟩
  | e :: es, fs, i, r, hl, h => by
    obtain ⟨f, gs, rfl, hef, hg⟩ := hl.inv_cons
    have h' : (Option.rec none (fun b => Bool.rec (findI k n es (i + 1)) (some (some i)) b) (isInt k n e.key) : Option (Option Nat)) = some r := h
    have hk := hef.key
    unfold isInt at h'
    split at h'
    · rename_i j m hkey
      rw [hkey] at hk
      by_cases hkk : kindEq k j = true
      · rw [hkk] at h'
        have hkj := kindEq_iff.1 hkk
        subst hkj
        generalize hfk : f.key = fk at hk
        cases hk
        have hsame : Instr.sameNow d (.int k n) f.key = some (n == m) := by
          rw [hfk]
          cases d <;> simp [isIntD] at hd
          simp [Instr.sameNow]
        by_cases hnm : intEq n m = true
        · simp only [hnm, cond_true] at h'
          cases (show some (some i) = some r from h')
          have hnm' := intEq_iff.1 hnm
          subst hnm'
          refine ⟨by simp [Instr.findNow, hsame], fun j hj => by cases hj; exact ⟨Nat.le_refl _, e, f, by simp, by simp⟩⟩
        · simp only [Bool.eq_false_iff.2 hnm, cond_true] at h'
          obtain ⟨h1, h2⟩ := findI_ok hd es gs (i + 1) r hg h'
          have hne : (n == m) = false := by rw [beq_eq_false_iff_ne]; exact fun hc => hnm (intEq_iff.2 hc)
          refine ⟨?_, fun j hj => ?_⟩
          · simp only [Instr.findNow, hsame, hne]
            rw [h1]
            cases r with
            | none => rfl
            | some j =>
              obtain ⟨hle, _⟩ := h2 j rfl
              show some (Option.map _ gs[j - (i + 1)]?) = some (Option.map _ (f :: gs)[j - i]?)
              rw [show j - i = (j - (i + 1)) + 1 by omega]
              simp
          · obtain ⟨hle, e', f', he', hf'⟩ := h2 j hj
            rw [show j - i = (j - (i + 1)) + 1 by omega]
            exact ⟨by omega, e', f', by simpa using he', by simpa using hf'⟩
      · rw [Bool.eq_false_iff.2 hkk] at h'
        cases (show none = some r from h')
    · cases (show none = some r from h')
/-- The same keys: found at the same place. -/
theorem findNow_keys {d : TypeDesc} {k : Value} : ∀ (es fs : List MapEntry) (i : Nat), es.map (·.key) = fs.map (·.key) →
    Instr.findNow d k fs i = (Instr.findNow d k (keysOnly es) i).map fun r => r.bind fun p => (fs[p.1 - i]?).map fun f => (p.1, f.val)
  | [], fs, i, h => by
    have : fs = [] := by simpa using h.symm
    subst this
    simp [Instr.findNow, keysOnly]
  | e :: es, fs, i, h => by
    cases fs with
    | nil => simp at h
    | cons f gs =>
      simp only [List.map_cons, List.cons.injEq] at h
      obtain ⟨h1, h2⟩ := h
      simp only [keysOnly, List.map_cons, Instr.findNow, ← h1]
      cases hs : Instr.sameNow d k e.key with
      | none => rfl
      | some b =>
        cases b with
        | true => simp
        | false =>
          simp only
          rw [findNow_keys es gs (i + 1) h2]
          show _ = Option.map _ (Instr.findNow d k (keysOnly es) (i + 1))
          cases hr : Instr.findNow d k (keysOnly es) (i + 1) with
          | none => rfl
          | some r =>
            cases r with
            | none => rfl
            | some p =>
              obtain ⟨j, u⟩ := p
              have hj : i + 1 ≤ j := findNow_ge (keysOnly es) (i + 1) j u hr
              simp only [Option.map_some, Option.bind_some]
              rw [show j - i = (j - (i + 1)) + 1 by omega]
              simp
where
  findNow_ge {d : TypeDesc} {k : Value} : ∀ (es : List MapEntry) (i j : Nat) (u : Value), Instr.findNow d k es i = some (some (j, u)) → i ≤ j
    | [], i, j, u, h => by simp [Instr.findNow] at h
    | e :: es, i, j, u, h => by
      simp only [Instr.findNow] at h
      split at h
      · cases h; exact Nat.le_refl _
      · have := findNow_ge es (i + 1) j u h; omega
      · cases h
theorem prun_bind {α β : Type} {s : Sem α} {f : α → Sem β} {r : Except Value β} (h : prun P (s >>= f) = some r) : (∃ a, prun P s = some (.ok a) ∧ prun P (f a) = some r) ∨ (∃ v, prun P s = some (.error v) ∧ r = .error v) := by
  change prun P (s.bind f) = some r at h
  induction s with
  | pure a => exact .inl ⟨a, rfl, h⟩
  | program k ih => exact ih _ h
  | mark m k ih => exact ih h
  | halt x => cases x <;> simp [Sem.bind, prun] at h; exact .inr ⟨_, rfl, h.symm⟩
  | _ => simp [Sem.bind, prun] at h
theorem prun_ok_bind {α β : Type} {s : Sem α} {f : α → Sem β} {a : α} (h : prun P s = some (.ok a)) : prun P (s >>= f) = prun P (f a) := by
  change prun P (s.bind f) = _
  induction s with
  | pure b => simp [prun] at h; subst h; rfl
  | program k ih => exact ih _ h
  | mark m k ih => exact ih h
  | halt x => cases x <;> simp [prun] at h
  | _ => simp [prun] at h
theorem findAsking_keys {kt : TypeId} {k : Value} : ∀ (es fs : List MapEntry) (i : Nat) (r : Option (Nat × Value)), es.map (·.key) = fs.map (·.key) → prun P (Instr.findAsking kt k (keysOnly es) i) = some (.ok r) →
    (Instr.findAsking kt k fs i).run P w = .ok (r.bind fun p => (fs[p.1 - i]?).map fun f => (p.1, f.val)) w ∧ ∀ p, r = some p → i ≤ p.1
  | [], fs, i, r, h, hp => by
    have : fs = [] := by simpa using h.symm
    subst this
    simp only [keysOnly, List.map_nil, Instr.findAsking] at hp ⊢
    cases (show some (Except.ok none) = some (Except.ok r) from hp)
    exact ⟨rfl, fun p hp => by cases hp⟩
  | e :: es, fs, i, r, h, hp => by
    cases fs with
    | nil => simp at h
    | cons f gs =>
      simp only [List.map_cons, List.cons.injEq] at h
      obtain ⟨h1, h2⟩ := h
      simp only [keysOnly, List.map_cons, Instr.findAsking] at hp ⊢
      rcases prun_bind hp with ⟨b, hb, hp'⟩ | ⟨v, _, hv⟩
      · have hrun := prun_ok hb w
        rw [h1] at hrun
        simp only [Sem.run_bind, hrun, Result.andThen_ok]
        cases b with
        | true =>
          simp only [if_true] at hp' ⊢
          cases (show some (Except.ok (some (i, Value.nilIface))) = some (Except.ok r) from hp')
          exact ⟨by simp, fun p hp => by cases hp; exact Nat.le_refl _⟩
        | false =>
          simp only [Bool.false_eq_true, if_false] at hp' ⊢
          obtain ⟨q1, q2⟩ := findAsking_keys es gs (i + 1) r h2 hp'
          refine ⟨?_, fun p hp => by have := q2 p hp; omega⟩
          rw [q1]
          congr 1
          cases r with
          | none => rfl
          | some p =>
            have := q2 p rfl
            simp only [Option.bind_some]
            rw [show p.1 - i = (p.1 - (i + 1)) + 1 by omega]
            simp
      · cases hv
end
end Go.Proofs.YtbjecfbfcpiilaaGreatDoor

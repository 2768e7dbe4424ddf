/- The executor: every operation. The executor: an operation, whole. The executor: a step. -/
import Derived.Test.YtaeophaecclnbaaGreatDoorMgJ
import Derived.IntWalk
namespace Go.Proofs.YtaeophaecclnbaaGreatDoor
open Go
section
variable {P : Program} {G : Nat} {F : Nat → Option Obj} {W : World} {E : Env} {S S' : SW} {w : World}
/-! ### Assertions -/
theorem fail_ok {t : TypeId} {ok : Bool} {v : Value} (h : failV P t ok = some v) : ok = true ∧ ∃ z, v = .tuple #[z, .bool false] ∧ (∀ w, (zeroValue t).run P w = .ok z w) ∧ VR E v v := by
  unfold failV at h
  cases ok with
  | false => cases h
  | true =>
    rw [cond_true] at h
    split at h
    · rename_i z hz
      cases h
      obtain ⟨hz1, hz2⟩ := zeroP_some (E := E) hz
      exact ⟨rfl, z, rfl, hz1, .tuple' (LR.cons hz2 (LR.cons (.bool _) LR.nil))⟩
    · cases h
theorem assert_ok {x x' v : Value} (hx : VR E x x') {xt t : TypeId} {ok : Bool} (h : assertS P x t ok = some v) : ∃ v', (Instr.typeAssert x' xt t ok).run P w = .ok v' w ∧ VR E v v' := by
  unfold assertS at h
  split at h
  · rename_i d u y hd
    cases hx with | iface hv =>
    rename_i y'
    split at h
    · rename_i want
      unfold assertI at h
      split at h
      · rename_i i hi
        split at h
        · rename_i hm
          cases h
          refine ⟨if ok then .tuple #[.iface u y', .bool true] else .iface u y', ?_, okV_VR (ok := ok) (b := true) (.iface hv)⟩
          simp [Instr.typeAssert, run_underlying hd, typeInfo, hi, hm]
        · rename_i m hm
          obtain ⟨rfl, z, rfl, hz1, hz2⟩ := fail_ok (E := E) h
          exact ⟨_, by simp [Instr.typeAssert, run_underlying hd, typeInfo, hi, hm, hz1], hz2⟩
      · cases h
    · rename_i hno
      by_cases hut : Nat.beq u t = true
      · rw [hut, cond_true] at h
        cases h
        have := Nat.eq_of_beq_eq_true hut
        subst this
        refine ⟨if ok then .tuple #[y', .bool true] else y', ?_, okV_VR (ok := ok) (b := true) hv⟩
        cases d <;> first | exact absurd rfl (hno _) | simp [Instr.typeAssert, run_underlying hd]
      · rw [Bool.eq_false_iff.2 hut, cond_false] at h
        have hne : u ≠ t := fun hc => hut (by rw [hc]; exact Nat.beq_refl _)
        obtain ⟨rfl, z, rfl, hz1, hz2⟩ := fail_ok (E := E) h
        refine ⟨.tuple #[z, .bool false], ?_, hz2⟩
        cases d <;> first | exact absurd rfl (hno _) | simp [Instr.typeAssert, run_underlying hd, hne, hz1]
  · cases h
/-! ### Calls -/
theorem enter_ok {f : FuncId} {args : List Value} {x : ONext} (h : enterS P f args = some x) : x = .enter f args ∧ ∀ (args' : Array Value) (w : World), (callFunc f args').run P w = .ok (.enter f args') w := by
  unfold enterS at h
  split at h
  · rename_i fn hf
    by_cases hc : (fn.body.isSome && !(fn.name == "runtime.NumGoroutine")) = true
    · rw [hc, cond_true] at h
      cases h
      simp only [Bool.and_eq_true, Bool.not_eq_true'] at hc
      refine ⟨rfl, fun args' w => ?_⟩
      have h1 : fn.body.isNone = false := by cases hb : fn.body <;> simp_all
      have h2 : (fn.name == "runtime.NumGoroutine") = false := hc.2
      simp only [callFunc, Sem.run_bind, run_program, Result.andThen_ok, hf, h2, h1]
      rfl
    · rw [Bool.eq_false_iff.2 hc] at h; cases h
  · cases h
theorem method_ok {t : TypeId} {v : Value} {name : String} {f : FuncId} (h : methodS P t name = some f) (w : World) : (method (P.types.size + Made.depth) t v name).run P w = .ok (f, v) w := by
  have key : ∀ k, (method (k + 1) t v name).run P w = .ok (f, v) w := fun k => by
    unfold methodS at h
    split at h
    · rename_i i hi
      split at h
      · rename_i m hm
        have hm' : i.methods.find? (fun m => m.name == name) = some m := by
          rw [show i.methods = i.methods.toList.toArray by simp, List.find?_toArray]; exact hm
        by_cases hp : m.path.toList.isEmpty = true
        · rw [hp, cond_true] at h
          have hp' : m.path.toList = [] := by simpa using hp
          split at h
          · rename_i g e hg hd
            cases h
            simp only [method, Sem.run_bind, typeInfo, run_program, Result.andThen_ok, hi, Sem.run_pure, hm', hp', follow, hg, receiverAt, run_underlying hd, Place.get]
          · cases h
          · rename_i g d hno hg hd
            cases h
            simp only [method, Sem.run_bind, typeInfo, run_program, Result.andThen_ok, hi, Sem.run_pure, hm', hp', follow, hg, receiverAt, run_underlying hd]
            cases d <;> first | exact absurd rfl (hno _ _ rfl) | simp [Place.get]
          · cases h
        · rw [Bool.eq_false_iff.2 hp] at h; cases h
      · cases h
    · cases h
  exact key (P.types.size + 99)
/-! ### Blocks laid -/
theorem repL_nil (n : Nat) : repL n [] = [] := List.eq_nil_of_length_eq_zero (by rw [repL_length]; simp)
theorem zeros_VL {z : List Value} (hz : VL E z z) (n : Nat) : VL E (repL n z) (repL n z) := by
  refine ⟨rfl, fun k p q hp hq => ?_⟩
  rw [hp] at hq; cases hq
  have hlt := (List.getElem?_eq_some_iff.1 hp).1
  rw [repL_length] at hlt
  have hl0 : 0 < z.length := Nat.pos_of_ne_zero fun hc => by rw [hc] at hlt; omega
  rw [repL_get _ hl0 _ _ hlt] at hp
  exact hz.2 _ _ _ hp hp
/-- A block of n cells. -/
theorem row_laid {cs : List Value} {arr : Array Value} (hc : VL E cs arr.toList) (t : TypeId) : ∀ (E' : Env) (w : World) (b : Nat), E.le E' → w.heap[b]? = some (.cells arr t) → ObjR E' w ⟨b, 0, arr.size⟩ (.cells cs t true) := fun E' w b hle hb => by
  have hl : cs.length = arr.size := by simpa using hc.1
  refine ⟨arr, (0, 0), hb, by simp, by simp [hl], fun _ => ⟨hl, rfl, rfl⟩, fun o _ ho => by omega, fun j v hj => ?_⟩
  obtain ⟨v', h1, h2⟩ := hc.get hj
  exact ⟨v', by simpa using h1, h2.mono hle⟩
theorem run_newObj' (o : Obj) : (newObj o).run P w = .ok w.heap.size (w.alloc o) := rfl
theorem run_buildSlice {t e : TypeId} {len : Nat} {ps : Array (Nat × Value)} {i : TypeInfo} {v0 : Value} {r' : Array Value} (hd : P.underlying t = some (.slice e)) (hi : P.info? e = some i) (hz : i.zero = some v0) (hle : ¬ (2 ^ 24 < len * i.size))
    (hr : Instr.fill (fun k => some (k * i.size, i.size)) ((Array.range (len * i.size)).map (v0.cells[· % v0.cells.size]!)) ps.toList = some r') :
    (Instr.buildSlice t len ps).run P w = .ok (.slice (some ⟨w.heap.size, 0, none⟩) len len) (w.alloc (.cells r' e)) := by
  unfold Instr.buildSlice
  simp only [Sem.run_bind, run_underlying hd, Result.andThen_ok, run_size hi, gt_iff_lt]
  rw [if_neg hle]
  by_cases hz0 : len * i.size = 0
  · rw [if_pos hz0]
    have he : ∀ z : Array Value, (Array.range (len * i.size)).map (z[· % z.size]!) = #[] := fun z => by rw [hz0]; simp
    rw [he] at hr
    simp only [Sem.run_bind, Sem.run_pure, Result.andThen_ok, he, hr, newRow, run_newObj']
  · rw [if_neg hz0]
    simp only [Sem.run_bind, Sem.run_pure, Result.andThen_ok, run_zero hi hz, hr, newRow, run_newObj']
theorem run_makeSlice {t e : TypeId} {len cap : Nat} {k1 k2 : IntKind} {i : TypeInfo} {v0 : Value} (hd : P.underlying t = some (.slice e)) (hi : P.info? e = some i) (hz : i.zero = some v0) (h1 : len ≤ cap) (h2 : cap ≤ 1000000000) (h3 : cap * i.bytes ≤ 1000000000) :
    (Instr.makeSlice t (.int k1 (.ofNat len)) (.int k2 (.ofNat cap))).run P w = .ok (.slice (some ⟨w.heap.size, 0, none⟩) len cap) (w.alloc (.cells ((Array.range (cap * i.size)).map (v0.cells[· % v0.cells.size]!)) e)) := by
  have wl : IntKind.i64.wrap (len : Int) = (len : Int) := IntWalk.i64_in _ (by omega)
  have wc : IntKind.i64.wrap (cap : Int) = (cap : Int) := IntWalk.i64_in _ (by omega)
  have hbc : ((i.bytes : Int) * (cap : Int)) = ((cap * i.bytes : Nat) : Int) := by rw [Int.natCast_mul, Int.mul_comm]
  have g1 : ¬ ((cap : Int) < 0) := by omega
  have g2 : ¬ ((i.bytes : Int) * (cap : Int) > 281474976710656) := by rw [hbc]; omega
  have g3 : ¬ ((len : Int) < 0) := by omega
  have g4 : ¬ ((len : Int) > (cap : Int)) := by omega
  unfold Instr.makeSlice
  simp only [Sem.run_bind, run_underlying hd, Result.andThen_ok, asInt, asIntOf, Sem.run_pure, typeInfo, run_program, hi, Int.ofNat_eq_natCast, wl, wc]
  by_cases hz0 : cap * i.size = 0
  · have he : ∀ f : Nat → Value, Array.map f (Array.range 0) = #[] := fun f => by simp
    simp [g1, g2, g3, g4, run_size hi, hz0, newRow]
    rw [he, he]
  · simp [g1, g2, g3, g4, run_size hi, hz0, run_zero hi hz, newRow]
theorem alloc_ok {n : Nat} {ρ ρ' : Operand → Value} {o : Oper} (hρ : ∀ x ∈ opL o.op, VR E (ρ x) (ρ' x)) {v : Value} {so : SObj} (h : allocS P n ρ o = some (v, so)) :
    ∃ (obj : Obj) (k : Nat) (mk : Nat → Value), (∀ w, (execOp ρ' o).run P w = .ok (.value (mk w.heap.size)) (w.alloc obj)) ∧ (∀ (E' : Env) b, E' n = some ⟨b, 0, k⟩ → VR E' v (mk b)) ∧ (∀ (E' : Env) w b, E.le E' → w.heap[b]? = some obj → ObjR E' w ⟨b, 0, k⟩ so) := by
  obtain ⟨dst, op, type, pos, after, guard⟩ := o
  unfold allocS at h
  cases op with
  | alloc t =>
    simp only at h
    split at h
    · rename_i z hz
      cases h
      obtain ⟨i, v0, hi, hv0, rfl, hzz⟩ := zeroOf_some (E := E) hz
      exact ⟨.cells v0.cells t, v0.cells.size, fun b => .pointer (some ⟨b, 0, none⟩), fun w => by simp [execOp, Instr.alloc, run_zero hi hv0, newVar, newRow], fun E' b he => .ptr ⟨rfl, _, he, by simp⟩, row_laid hzz t⟩
    · cases h
  | box t x =>
    simp only at h
    cases h
    have hx := hρ x (by simp [opL])
    exact ⟨.cells (ρ' x).cells t, (ρ' x).cells.size, fun b => .pointer (some ⟨b, 0, none⟩), fun w => by simp [execOp, Instr.box, newVar, newRow], fun E' b he => .ptr ⟨rfl, _, he, by simp⟩, row_laid (cells_VL hx) t⟩
  | buildSlice t len ps =>
    simp only at h
    unfold buildSliceS at h
    split at h
    · rename_i e hd
      split at h
      · rename_i z k hz hk
        obtain ⟨i, v0, hi, hv0, rfl, hzz⟩ := zeroOf_some (E := E) hz
        obtain ⟨j, hj, rfl⟩ := sizeT_some hk
        rw [hi] at hj; cases hj
        by_cases hc : (!(Nat.ble (len * i.size) 10000) || !(Nat.beq v0.cells.toList.length i.size) || !(Nat.blt len CAPX)) = true
        · rw [hc] at h; cases h
        · rw [Bool.eq_false_iff.2 hc, cond_false] at h
          simp only [Bool.not_eq_true, Bool.or_eq_false_iff, Bool.not_eq_false'] at hc
          have hle := Nat.le_of_ble_eq_true hc.1.1
          have hzl : v0.cells.size = i.size := by simpa using Nat.eq_of_beq_eq_true hc.1.2
          have hX : len < CAPX := Nat.le_of_ble_eq_true hc.2
          split at h
          · rename_i cs hcs
            cases h
            have hps : LR (fun p q : Nat × Value => p.1 = q.1 ∧ VR E p.2 q.2) (ps.toList.map fun p => (p.1, ρ p.2)) (ps.toList.map fun p => (p.1, ρ' p.2)) := LR.of_map fun p hp => ⟨rfl, hρ p.2 (by simp [opL, Op.operands]; exact ⟨p.1, by simpa using hp⟩)⟩
            have h0 : VL E (repL len v0.cells.toList).toArray.toList ((Array.range (len * i.size)).map (v0.cells[· % v0.cells.size]!)).toList := by
              rw [← hzl, zeros_eq]
              simpa using zeros_VL hzz len
            obtain ⟨r', hr', hL⟩ := fill_rel (E := E) _ _ _ hps _ _ h0 cs hcs
            refine ⟨.cells r' e, r'.size, fun b => .slice (some ⟨b, 0, none⟩) len len, fun w => ?_, fun E' b he => .sl ⟨rfl, Nat.le_refl _, .inr ⟨rfl, _, he, by simp⟩, ?_⟩, row_laid hL e⟩
            · have hpm : (Array.map (fun p : Nat × Operand => (p.1, ρ' p.2)) ps).toList = ps.toList.map fun p => (p.1, ρ' p.2) := by simp
              have := run_buildSlice (w := w) (len := len) hd hi hv0 (by omega) (ps := Array.map (fun p : Nat × Operand => (p.1, ρ' p.2)) ps) (by rw [hpm]; exact hr')
              simp only [execOp, Sem.run_bind, this, Result.andThen_ok, Sem.run_pure]
            · exact .inl ⟨hX, rfl⟩
          · cases h
      · cases h
    · cases h
  | makeMap t r =>
    simp only at h
    have key : ∀ (E' : Env) (w : World) (b : Nat), E.le E' → w.heap[b]? = some (.map #[] 0) → ObjR E' w ⟨b, 0, 0⟩ (.map [] 0) := fun E' w b _ hb => ⟨#[], hb, LR.nil⟩
    split at h
    · cases h
      exact ⟨.map #[] 0, 0, fun b => .map (some b), fun w => by simp [execOp, Instr.makeMap], fun E' b he => .map he, key⟩
    · rename_i x
      split at h
      · rename_i k e j m hd hx
        cases h
        have hr := hρ x (by simp [opL, Op.operands])
        rw [hx] at hr
        generalize hy : ρ' x = y at hr
        cases hr
        exact ⟨.map #[] 0, 0, fun b => .map (some b), fun w => by simp [execOp, Instr.makeMap, run_underlying hd, hy, asInt, asIntOf], fun E' b he => .map he, key⟩
      · cases h
  | makeSlice t l c =>
    simp only at h
    unfold makeSliceS at h
    split at h
    · rename_i e k1 len k2 cap hd hl hc
      split at h
      · rename_i z i hz hi
        obtain ⟨j, v0, hj, hv0, rfl, hzz⟩ := zeroOf_some (E := E) hz
        rw [hi] at hj; cases hj
        by_cases hcond : (Nat.ble len cap && Nat.ble (cap * (i.bytes + 1)) 1000000000 && Nat.beq v0.cells.toList.length i.size) = true
        · rw [hcond, cond_true] at h
          cases h
          simp only [Bool.and_eq_true] at hcond
          have h1 := Nat.le_of_ble_eq_true hcond.1.1
          have h2 := Nat.le_of_ble_eq_true hcond.1.2
          have h3 : v0.cells.size = i.size := by simpa using Nat.eq_of_beq_eq_true hcond.2
          have hb : cap * i.bytes ≤ 1000000000 := Nat.le_trans (Nat.mul_le_mul_left _ (Nat.le_succ _)) h2
          have hcp : cap ≤ 1000000000 := Nat.le_trans (Nat.le_mul_of_pos_right _ (Nat.succ_pos _)) h2
          have hrl := hρ l (by simp [opL])
          have hrc := hρ c (by simp [opL])
          rw [hl] at hrl
          rw [hc] at hrc
          generalize hyl : ρ' l = yl at hrl
          generalize hyc : ρ' c = yc at hrc
          cases hrl; cases hrc
          have hL : VL E (repL cap v0.cells.toList) ((Array.range (cap * i.size)).map (v0.cells[· % v0.cells.size]!)).toList := by
            rw [← h3, zeros_eq]
            exact zeros_VL hzz cap
          refine ⟨.cells ((Array.range (cap * i.size)).map (v0.cells[· % v0.cells.size]!)) e, _, fun b => .slice (some ⟨b, 0, none⟩) len cap, fun w => ?_, fun E' b he => .sl ⟨rfl, h1, .inr ⟨rfl, _, he, by simp⟩, .inl ⟨by simp only [CAPX]; omega, rfl⟩⟩, row_laid hL e⟩
          simp only [execOp, hyl, hyc, Sem.run_bind, run_makeSlice (w := w) hd hi hv0 h1 hcp hb, Result.andThen_ok, Sem.run_pure]
        · rw [Bool.eq_false_iff.2 hcond] at h; cases h
      · cases h
    · cases h
  | _ => simp at h
end
end Go.Proofs.YtaeophaecclnbaaGreatDoor
namespace Go.Proofs.YtaeophaecclnbaaGreatDoor
open Go
section
variable {P : Program} {G : Nat} {F : Nat → Option Obj} {W : World} {E : Env} {S S' : SW} {w : World} {x : ONext} {r : Result Next}
theorem valS_some {o : Option Value} (h : valS S o = some (x, S')) : ∃ v, o = some v ∧ x = .val v ∧ S' = S := by
  unfold valS at h
  split at h
  · cases h; exact ⟨_, rfl, rfl, rfl⟩
  · cases h
theorem skipV_some {o : Option SW} (h : skipV o = some (x, S')) : o = some S' ∧ x = .skip := by
  unfold skipV at h
  split at h
  · cases h; exact ⟨rfl, rfl⟩
  · cases h
theorem setV_some {o : Option (Value × SW)} (h : setV o = some (x, S')) : ∃ v, o = some (v, S') ∧ x = .val v := by
  unfold setV at h
  split at h
  · cases h; exact ⟨_, rfl, rfl⟩
  · cases h
theorem boolV_some {o : Option Bool} (h : boolV S o = some (x, S')) : ∃ b, o = some b ∧ x = .val (.bool b) ∧ S' = S := by
  unfold boolV at h
  split at h
  · cases h; exact ⟨_, rfl, rfl, rfl⟩
  · cases h
theorem allocV_some {o : Option (Value × SObj)} (h : allocV S o = some (x, S')) : ∃ v so, o = some (v, so) ∧ x = .val v ∧ S' = S.new so := by
  unfold allocV at h
  split at h
  · cases h; exact ⟨_, _, rfl, rfl, rfl⟩
  · cases h
theorem OpOk.quiet (h : Sat G F W E S w) {v : Value} {s : Sem Value} (hs : ∃ v', s.run P w = .ok v' w ∧ VR E v v') (hr : r = (s.run P w).andThen fun v w => .ok (.value v) w) : OpOk P G F W E S S w (.val v) r := by
  obtain ⟨v', h1, h2⟩ := hs
  exact OpOk.val h h2 (by rw [hr, h1]; rfl)
theorem OpOk.app {v : Value} {s : Sem Value} (hs : AppPost G F W E S S' v (s.run P w)) (hr : r = (s.run P w).andThen fun v w => .ok (.value v) w) : OpOk P G F W E S S' w (.val v) r := by
  obtain ⟨v', w', E', h1, h2, h3, h4, h5⟩ := hs
  exact ⟨v', w', E', by rw [hr, h1]; rfl, h2, h3, h4, h5⟩
theorem OpOk.turned {v : Value} {s : Sem Value} (hs : ∃ v' w', s.run P w = .ok v' w' ∧ VR E v v' ∧ Sat G F W E S' w' ∧ S'.n = S.n) (hr : r = (s.run P w).andThen fun v w => .ok (.value v) w) : OpOk P G F W E S S' w (.val v) r := by
  obtain ⟨v', w', h1, h2, h3, h4⟩ := hs
  exact ⟨v', w', E, by rw [hr, h1]; rfl, Ext.refl _ _, by omega, h3, h2⟩
theorem OpOk.skipped {s : Sem Unit} (hs : ∃ w', s.run P w = .ok () w' ∧ Sat G F W E S' w' ∧ S'.n = S.n) (hr : r = (s.run P w).andThen fun _ w => .ok .skip w) : OpOk P G F W E S S' w .skip r := by
  obtain ⟨w', h1, h3, h4⟩ := hs
  exact ⟨w', E, by rw [hr, h1]; rfl, Ext.refl _ _, by omega, h3⟩
theorem run_v (s : Sem Value) (w : World) : (do pure (.value (← s)) : Sem Next).run P w = (s.run P w).andThen fun v w => .ok (.value v) w := by simp
theorem run_u (s : Sem Unit) (w : World) : (do s; pure .skip : Sem Next).run P w = (s.run P w).andThen fun _ w => .ok .skip w := by simp
theorem OR_map {ρ ρ' : Operand → Value} {o : Option Operand} (h : ∀ x ∈ o.toList, VR E (ρ x) (ρ' x)) : OR (VR E) (o.map ρ) (o.map ρ') := by
  cases o with
  | none => trivial
  | some x => exact h x (by simp)
theorem VL_map {ρ ρ' : Operand → Value} {l : List Operand} (h : ∀ x ∈ l, VR E (ρ x) (ρ' x)) : VL E (l.map ρ) (l.map ρ') := LR.of_map h
/-! ### Of two -/
theorem fastBin_ok {op : BinOp} {a b a' b' v : Value} (ha : VR E a a') (hb : VR E b b') (h : fastBin op a b = some v) {t : TypeId} {x y : Operand} :
    (do eqGuard op t x y a' b'; binOp op t a' b' : Sem Value).run P w = .ok v w ∧ VR E v v := by
  unfold fastBin at h
  split at h
  · rename_i k n j m
    cases ha; cases hb
    have hg : ∀ op, (eqGuard op t x y (.int k n) (.int j m)).run P w = .ok () w := fun op => by
      unfold eqGuard
      cases op <;> simp
    split at h
    all_goals first
      | (split at h
         all_goals first
           | (cases h; rw [Sem.run_bind, hg, Result.andThen_ok]; exact ⟨by simp [binOp, Op.intArith, Op.intCmp] <;> rfl, by constructor⟩)
           | cases h)
      | cases h
  · cases h
theorem eqGuard_ok {op : BinOp} {t : TypeId} {x y : Operand} {a b : Value} (h1 : ¬ (a = .nilIface ∧ b = .nilIface)) (h2 : ∀ u v, ¬ (a = .agg u ∧ b = .agg v)) : (eqGuard op t x y a b).run P w = .ok () w := by
  unfold eqGuard
  cases op <;> first
    | (simp; done)
    | (cases a <;> cases b <;> first
        | exact absurd ⟨rfl, rfl⟩ h1
        | exact absurd ⟨rfl, rfl⟩ (h2 _ _)
        | simp)
theorem eqS_shape {t : TypeId} {a b a' b' : Value} (ha : VR E a a') (hb : VR E b b') {r : Bool} (h : eqS P S t a b = some r) (op : BinOp) (x y : Operand) :
    (eqGuard op t x y a' b').run P w = .ok () w ∧ binOp .eql t a' b' = (do pure (.bool (← Op.equal t a' b'))) ∧ binOp .neq t a' b' = (do pure (.bool (!(← Op.equal t a' b')))) := by
  unfold eqS at h
  split at h
  all_goals first
    | (cases h; done)
    | (cases ha; cases hb; exact ⟨eqGuard_ok (by simp) (by simp), by simp [binOp], by simp [binOp]⟩)
theorem opEq_ok (hs : Sat G F W E S w) {op : BinOp} {t ty : TypeId} {x y : Operand} {ρ ρ' : Operand → Value} (hx : VR E (ρ x) (ρ' x)) (hy : VR E (ρ y) (ρ' y)) {o : Oper} {z : ONext} (h : opEq op t x y P S ρ o = some (z, S')) (ho : o.op = .binOp op t x y ty) :
    OpOk P G F W E S S' w z ((execOp ρ' o).run P w) := by
  have hrun : (execOp ρ' o).run P w = ((do eqGuard op t x y (ρ' x) (ρ' y); binOp op t (ρ' x) (ρ' y) : Sem Value).run P w).andThen fun v w => .ok (.value v) w := by
    simp only [execOp, ho]; exact run_v _ _
  unfold opEq at h
  split at h
  · obtain ⟨b, hb, rfl, rfl⟩ := boolV_some h
    obtain ⟨g1, g2, g3⟩ := eqS_shape (w := w) hx hy hb .eql x y
    refine OpOk.quiet hs (v := .bool b) ⟨.bool b, ?_, .bool _⟩ hrun
    rw [Sem.run_bind, g1, Result.andThen_ok, g2]
    simp [eq_ok hs hx hy hb]
  · obtain ⟨b, hb, rfl, rfl⟩ := boolV_some h
    split at hb
    · rename_i c hc
      cases hb
      obtain ⟨g1, g2, g3⟩ := eqS_shape (w := w) hx hy hc .neq x y
      refine OpOk.quiet hs (v := .bool (!c)) ⟨.bool (!c), ?_, .bool _⟩ hrun
      rw [Sem.run_bind, g1, Result.andThen_ok, g3]
      simp [eq_ok hs hx hy hc]
    · cases hb
  · cases h
theorem opBin_ok (hs : Sat G F W E S w) {op : BinOp} {t ty : TypeId} {x y : Operand} {ρ ρ' : Operand → Value} (hx : VR E (ρ x) (ρ' x)) (hy : VR E (ρ y) (ρ' y)) {o : Oper} {z : ONext} (h : opBin op t x y P S ρ o = some (z, S')) (ho : o.op = .binOp op t x y ty) :
    OpOk P G F W E S S' w z ((execOp ρ' o).run P w) := by
  unfold opBin at h
  split at h
  · rename_i v hv
    cases h
    have hrun : (execOp ρ' o).run P w = ((do eqGuard op t x y (ρ' x) (ρ' y); binOp op t (ρ' x) (ρ' y) : Sem Value).run P w).andThen fun v w => .ok (.value v) w := by
      simp only [execOp, ho]; exact run_v _ _
    exact OpOk.quiet hs (v := v) ⟨v, fastBin_ok hx hy hv⟩ hrun
  · exact opEq_ok hs hx hy h ho
/-! ### Calls -/
theorem run_call {c : Call} {o : Oper} (ho : o.op = .call c) (ρ : Operand → Value) (w : World) : (execOp ρ o).run P w = ((resolve ρ c o.type).run P w).andThen fun d w => (invoke d.target d.args).run P w := by
  simp [execOp, ho]
theorem call_ok (hs : Sat G F W E S w) {c : Call} {ρ ρ' : Operand → Value} {o : Oper} (ho : o.op = .call c) (hρ : ∀ x ∈ opL o.op, VR E (ρ x) (ρ' x)) {z : ONext} (h : callS P S ρ c = some (z, S')) : OpOk P G F W E S S' w z ((execOp ρ' o).run P w) := by
  have hL : opL o.op = c.operands.toList := by rw [ho]; rfl
  rw [hL] at hρ
  have hargs : VL E (c.args.toList.map ρ) (c.args.map ρ').toList := by
    rw [Array.toList_map]
    exact VL_map fun x hx => hρ x (by simp [Call.operands]; exact .inr (by simpa using hx))
  rw [run_call ho]
  unfold callS at h
  simp only at h
  split at h
  · rename_i f hc
    have hf := hρ f (by simp [Call.operands, hc])
    split at h
    · rename_i g first cap hv
      rw [hv] at hf
      generalize hv' : ρ' f = fv at hf
      cases hf with | func hf1 ha ha' hb hb' =>
      rename_i f' a' b'
      cases hf1
      split at h
      · rename_i y hy
        cases h
        obtain ⟨rfl, hrun⟩ := enter_ok hy
        refine ⟨a' ++ c.args.map ρ' ++ b', ?_, ?_, rfl⟩
        · simp only [resolve, hc, hv', Deferred.ofValue, Sem.run_pure, Result.andThen_ok, invoke, hrun]
        · simp only [Array.toList_append]
          exact (LR.append (LR.append ⟨ha, ha'⟩ hargs) ⟨hb, hb'⟩)
      · cases h
    · rename_i l first cap hv
      rw [hv] at hf
      generalize hv' : ρ' f = fv at hf
      cases hf with | func hf1 ha ha' hb hb' =>
      rename_i f' a' b'
      cases h
      cases hf1 with
      | same _ hno => cases hno
      | yield he =>
        rename_i e
        refine ⟨e, a' ++ c.args.map ρ', he, ?_, ?_, rfl⟩
        · simp only [resolve, hc, hv', Deferred.ofValue, Sem.run_pure, Result.andThen_ok, invoke]
        · simp only [Array.toList_append]
          exact LR.append ⟨ha, ha'⟩ hargs
    · cases h
  · rename_i rc name hc
    have hf := hρ rc (by simp [Call.operands, hc])
    split at h
    · rename_i t v hv
      rw [hv] at hf
      generalize hv' : ρ' rc = fv at hf
      cases hf with | iface hv1 =>
      rename_i v'
      split at h
      · rename_i f hm
        split at h
        · rename_i y hy
          cases h
          obtain ⟨rfl, hrun⟩ := enter_ok hy
          refine ⟨#[v'] ++ c.args.map ρ', ?_, ?_, rfl⟩
          · have he : (#[Value.iface t v'] ++ c.args.map ρ').extract 1 (#[Value.iface t v'] ++ c.args.map ρ').size = c.args.map ρ' := by
              apply Array.ext'
              simp [Array.toList_extract, List.extract]
              exact List.take_of_length_le (by simp)
            simp only [resolve, hc, hv', Sem.run_pure, Result.andThen_ok, invoke]
            simp only [Array.getElem?_append_left, List.size_toArray, List.length_cons, List.length_nil, Nat.zero_lt_succ, List.getElem?_toArray, List.getElem?_cons_zero, he, callMethod, Sem.run_bind, run_program, Result.andThen_ok, method_ok hm w, hrun]
          · simp only [Array.toList_append]
            exact LR.cons hv1 hargs
        · cases h
      · cases h
    · cases h
  · rename_i b hc
    have hb : ∀ k (q : List Value), c.args.toList.map ρ = q → q.length = k → ∃ q', (c.args.map ρ') = q'.toArray ∧ VL E q q' := fun k q hq _ => ⟨(c.args.map ρ').toList, (Array.toArray_toList).symm, by rw [← hq]; exact hargs⟩
    obtain ⟨cs, hinv⟩ : ∃ cs, ((resolve ρ' c o.type).run P w).andThen (fun d w => (invoke d.target d.args).run P w) = (builtin b c.argTypes o.type cs (c.args.map ρ')).run P w :=
      ⟨_, by simp only [resolve, hc, Sem.run_pure, Result.andThen_ok, invoke]; rfl⟩
    rw [hinv]
    split at h
    · rename_i s x hq
      obtain ⟨q', hq', hl⟩ := hb 2 _ hq rfl
      obtain ⟨s', m, rfl, h1, hm⟩ := hl.inv_cons
      obtain ⟨x', m', rfl, h2, hm'⟩ := hm.inv_cons
      rw [LR.inv_nil hm'] at hq'
      split at h
      · rename_i v S1 hv
        cases h
        refine OpOk.app (s := Builtin.append_ c.argTypes o.type #[s', x']) (append_ok hs h1 h2 hv) ?_
        rw [hq']; simp [builtin]
      · cases h
    · rename_i s x hq
      obtain ⟨q', hq', hl⟩ := hb 2 _ hq rfl
      obtain ⟨s', m, rfl, h1, hm⟩ := hl.inv_cons
      obtain ⟨x', m', rfl, h2, hm'⟩ := hm.inv_cons
      rw [LR.inv_nil hm'] at hq'
      split at h
      · rename_i v S1 hv
        cases h
        refine OpOk.turned (s := Builtin.copy_ c.argTypes o.type #[s', x']) (copy_ok hs h1 h2 hv) ?_
        rw [hq']; simp [builtin]
      · cases h
    · rename_i x hq
      obtain ⟨q', hq', hl⟩ := hb 1 _ hq rfl
      obtain ⟨x', m, rfl, h1, hm⟩ := hl.inv_cons
      rw [LR.inv_nil hm] at hq'
      split at h
      · rename_i v hv
        cases h
        refine OpOk.quiet hs (s := Builtin.len_ c.argTypes o.type #[x']) ⟨v, len_ok hs h1 hv⟩ ?_
        rw [hq']; simp [builtin]
      · cases h
    · rename_i x hq
      obtain ⟨q', hq', hl⟩ := hb 1 _ hq rfl
      obtain ⟨x', m, rfl, h1, hm⟩ := hl.inv_cons
      rw [LR.inv_nil hm] at hq'
      split at h
      · rename_i v hv
        cases h
        refine OpOk.quiet hs (s := Builtin.cap_ c.argTypes o.type #[x']) ⟨v, cap_ok h1 hv⟩ ?_
        rw [hq']; simp [builtin]
      · cases h
    · rename_i x hq
      obtain ⟨q', hq', hl⟩ := hb 1 _ hq rfl
      obtain ⟨x', m, rfl, h1, hm⟩ := hl.inv_cons
      rw [LR.inv_nil hm] at hq'
      split at h
      · rename_i t tl ht
        have ht' : c.argTypes[0]? = some t := by
          have : c.argTypes.toList[0]? = some t := by rw [ht]; rfl
          simpa using this
        split at h
        · rename_i S1 hv
          cases h
          obtain ⟨w', k1, k2, k3⟩ := clear_ok (P := P) (ty := o.type) hs ht' h1 hv
          refine OpOk.turned (s := Builtin.clear_ c.argTypes o.type #[x']) ⟨.tuple #[], w', k1, plain_refl 1 _ rfl, k2, k3⟩ ?_
          rw [hq']; simp [builtin]
        · cases h
      · cases h
    · rename_i m0 k0 hq
      obtain ⟨q', hq', hl⟩ := hb 2 _ hq rfl
      obtain ⟨s', m, rfl, h1, hm⟩ := hl.inv_cons
      obtain ⟨x', m', rfl, h2, hm'⟩ := hm.inv_cons
      rw [LR.inv_nil hm'] at hq'
      split at h
      · rename_i t tl ht
        have ht' : c.argTypes[0]? = some t := by
          have : c.argTypes.toList[0]? = some t := by rw [ht]; rfl
          simpa using this
        split at h
        · rename_i S1 hv
          cases h
          obtain ⟨w', k1, k2, k3⟩ := del_ok (P := P) (ty := o.type) hs ht' h1 h2 hv
          refine OpOk.turned (s := Builtin.delete_ c.argTypes o.type #[s', x']) ⟨.tuple #[], w', k1, plain_refl 1 _ rfl, k2, k3⟩ ?_
          rw [hq']; simp [builtin]
        · cases h
      · cases h
    · rename_i t v hq
      obtain ⟨q', hq', hl⟩ := hb 1 _ hq rfl
      obtain ⟨x', m, rfl, h1, hm⟩ := hl.inv_cons
      rw [LR.inv_nil hm] at hq'
      cases h
      cases h1 with | iface hv =>
      rename_i v'
      refine ⟨.iface t v', ?_, .iface hv, rfl⟩
      rw [hq']; simp [builtin, Instr.panic]
    · cases h
theorem defer_ok {c : Call} {ρ ρ' : Operand → Value} {o : Oper} (ho : o.op = .defer c) (hρ : ∀ x ∈ opL o.op, VR E (ρ x) (ρ' x)) {z : ONext} (h : deferS ρ c = some z) : OpOk P G F W E S S w z ((execOp ρ' o).run P w) := by
  have hL : opL o.op = c.operands.toList := by rw [ho]; rfl
  rw [hL] at hρ
  have hargs : VL E (c.args.map ρ).toList (c.args.map ρ').toList := by
    rw [Array.toList_map, Array.toList_map]
    exact VL_map fun x hx => hρ x (by simp [Call.operands]; exact .inr (by simpa using hx))
  unfold deferS at h
  split at h
  · rename_i f hc
    have hf := hρ f (by simp [Call.operands, hc])
    split at h
    · rename_i g first cap hv
      rw [hv] at hf
      generalize hv' : ρ' f = fv at hf
      cases hf with | func hf1 ha ha' hb hb' =>
      rename_i f' a' b'
      cases hf1
      cases h
      refine ⟨⟨.fn (.func g) b', a' ++ c.args.map ρ'⟩, ?_, .fn ⟨hb, hb'⟩ ?_, rfl⟩
      · simp [execOp, ho, resolve, hc, hv', Deferred.ofValue]
      · simp only [Array.toList_append]
        exact LR.append ⟨ha, ha'⟩ hargs
    · cases h
  · cases h
end
end Go.Proofs.YtaeophaecclnbaaGreatDoor
namespace Go.Proofs.YtaeophaecclnbaaGreatDoor
open Go
section
variable {P : Program} {G : Nat} {F : Nat → Option Obj} {W : World} {E : Env} {S S' : SW} {w : World} {x : ONext}
theorem next_ok (h : Sat G F W E S w) {it it' v : Value} {ty : TypeId} (hi : VR E it it') (hn : nextS S it = some (v, S')) :
    ∃ v' w', (Instr.next it' true ty).run P w = .ok v' w' ∧ VR E v v' ∧ Sat G F W E S' w' ∧ S'.n = S.n := by
  unfold nextS at hn
  split at hn
  · rename_i r
    cases hi with | ptr ha =>
    obtain ⟨_, e, he, rfl⟩ := ha
    split at hn
    · rename_i s pos hg
      obtain ⟨e', he', hb⟩ := h.obj _ _ hg
      simp only at he
      rw [he] at he'; cases he'
      obtain ⟨hd0, hb'⟩ : e.d = 0 ∧ w.heap[e.b]? = some (.stringIter s pos) := hb
      have hlt : e.b < w.heap.size := (Array.getElem?_eq_some_iff.1 hb').1
      have hget : (getObj e.b).run P w = .ok (.stringIter s pos) w := by simp [getObj, Sem.run, hb']
      have hset : ∀ o, (setObj e.b o).run P w = .ok () { w with heap := w.heap.setIfInBounds e.b o } := fun o => by simp [setObj, Sem.run, hb']
      simp only [hd0, Nat.zero_add]
      by_cases hp : Nat.blt pos s.size = true
      · rw [hp, cond_true] at hn
        have hp' : pos < s.size := Nat.le_of_ble_eq_true hp
        cases hu : Utf8.decode s pos with
        | mk c wd =>
        rw [hu] at hn
        cases hn
        refine ⟨.tuple #[.bool true, .int .i64 pos, .int .i32 c], { w with heap := w.heap.setIfInBounds e.b (.stringIter s (pos + wd)) }, ?_, plain_refl 2 _ rfl, ?_, SW.set_n _ _ _⟩
        · simp only [Instr.next, Sem.run_bind, hget, Result.andThen_ok, hp', if_true, hu, hset, Sem.run_pure, goInt]
        · refine h.turn hg he _ (fun k hk => ?_) (by simp) rfl rfl rfl ⟨hd0, ?_⟩
          · show (w.heap.setIfInBounds e.b _)[k]? = _
            rw [Array.getElem?_setIfInBounds_ne (Ne.symm hk)]
          · show (w.heap.setIfInBounds e.b _)[e.b]? = _
            simp [hlt]
      · rw [Bool.eq_false_iff.2 hp, cond_false] at hn
        cases hn
        have hp' : ¬ (pos < s.size) := fun hc => hp (Nat.ble_eq ▸ hc)
        refine ⟨.tuple #[.bool false], w, ?_, plain_refl 2 _ rfl, h, rfl⟩
        simp only [Instr.next, Sem.run_bind, hget, Result.andThen_ok, hp', if_false, Sem.run_pure]
    · cases hn
  · cases hn
theorem LR.cons_inv {α β : Type} {R : α → β → Prop} {x : α} {y : β} {l : List α} {m : List β} (h : LR R (x :: l) (y :: m)) : R x y ∧ LR R l m := by
  obtain ⟨y', m', e, h1, h2⟩ := h.inv_cons
  cases e
  exact ⟨h1, h2⟩
theorem filter_rel {E : Env} {es fs : List MapEntry} (h : LR (MR E) es fs) (p : Nat → Bool) : LR (MR E) (es.filter fun e => p e.born) (fs.filter fun e => p e.born) := by
  induction es generalizing fs with
  | nil => cases fs with
    | nil => exact LR.nil
    | cons y fs => exact absurd h.1 (by simp)
  | cons x es ih => cases fs with
    | nil => exact absurd h.1 (by simp)
    | cons y fs =>
      obtain ⟨h1, h2⟩ := LR.cons_inv h
      have hb := h1.born
      simp only [List.filter_cons, hb]
      split
      · exact LR.cons h1 (ih h2)
      · exact ih h2
theorem all_rel {E : Env} {es fs : List MapEntry} (h : LR (MR E) es fs) (p : Nat → Bool) : (es.all fun e => p e.born) = (fs.all fun e => p e.born) := by
  induction es generalizing fs with
  | nil => cases fs with
    | nil => rfl
    | cons y fs => exact absurd h.1 (by simp)
  | cons x es ih => cases fs with
    | nil => exact absurd h.1 (by simp)
    | cons y fs =>
      obtain ⟨h1, h2⟩ := LR.cons_inv h
      simp only [List.all_cons, h1.born, ih h2]
theorem find_rel {E : Env} {es fs : List MapEntry} (h : LR (MR E) es fs) (p : Nat → Bool) {e : MapEntry} (he : es.find? (fun e => p e.born) = some e) : ∃ f, fs.find? (fun e => p e.born) = some f ∧ MR E e f := by
  induction es generalizing fs with
  | nil => cases he
  | cons x es ih => cases fs with
    | nil => exact absurd h.1 (by simp)
    | cons y fs =>
      obtain ⟨h1, h2⟩ := LR.cons_inv h
      simp only [List.find?_cons, h1.born] at he ⊢
      split at he
      · rename_i hp
        cases he
        exact ⟨y, rfl, h1⟩
      · exact ih h2 he
theorem nextMap_ok (h : Sat G F W E S w) {it it' v : Value} {ty : TypeId} (hi : VR E it it') (hn : nextMapS S it = some (v, S')) :
    ∃ v' w', (Instr.next it' false ty).run P w = .ok v' w' ∧ VR E v v' ∧ Sat G F W E S' w' ∧ S'.n = S.n := by
  unfold nextMapS at hn
  split at hn
  · rename_i r
    cases hi with | ptr ha =>
    obtain ⟨_, e, he, rfl⟩ := ha
    simp only at he
    split at hn
    · rename_i c l q hg
      cases hn
      obtain ⟨e', he', hb⟩ := h.obj _ _ hg
      rw [he] at he'; cases he'
      obtain ⟨hd0, m', hm, hb'⟩ : e.d = 0 ∧ ∃ m', VR E (.map none) (.map m') ∧ w.heap[e.b]? = some (.mapIter m' c l.toArray q) := hb
      cases hm
      have hget : (getObj e.b).run P w = .ok (.mapIter none c l.toArray q) w := by simp [getObj, Sem.run, hb']
      simp only [hd0, Nat.zero_add]
      refine ⟨.tuple #[.bool false], w, ?_, plain_refl 2 _ rfl, h, trivial⟩
      simp only [Instr.next, Sem.run_bind, hget, Result.andThen_ok, Sem.run_pure]
    · rename_i m since seen last hg
      split at hn
      · rename_i es clock hgm
        obtain ⟨e', he', hb⟩ := h.obj _ _ hg
        rw [he] at he'; cases he'
        obtain ⟨hd0, m', hm, hb'⟩ : e.d = 0 ∧ ∃ m', VR E (.map (some m)) (.map m') ∧ w.heap[e.b]? = some (.mapIter m' since seen.toArray last) := hb
        cases hm with | map hem =>
        rename_i em
        obtain ⟨em', arr, hem', h1, hL⟩ := h.map hgm
        rw [hem] at hem'; cases hem'
        have hlt : e.b < w.heap.size := (Array.getElem?_eq_some_iff.1 hb').1
        have hget : (getObj e.b).run P w = .ok (.mapIter (some em.b) since seen.toArray last) w := by simp [getObj, Sem.run, hb']
        have hgetm : (getObj em.b).run P w = .ok (.map arr clock) w := by simp [getObj, Sem.run, h1]
        have hset : ∀ o, (setObj e.b o).run P w = .ok () { w with heap := w.heap.setIfInBounds e.b o } := fun o => by simp [setObj, Sem.run, hb']
        have hF := filter_rel hL (fun b => !(seen.contains b))
        have hA := all_rel hL (fun b => decide (last ≤ b))
        have he0 : es.isEmpty = arr.isEmpty := by
          have h5 := hL.1
          have h6 : arr.toList.length = arr.size := Array.length_toList
          rw [h6] at h5
          cases es with
          | nil => show true = decide (arr.size = 0); rw [← h5]; rfl
          | cons x es => show false = decide (arr.size = 0); rw [← h5]; rfl
        cases hbad : (!seen.isEmpty && !es.isEmpty && es.all fun e => decide (last ≤ e.born)) with
        | true => rw [hbad, cond_true] at hn; cases hn
        | false =>
        rw [hbad, cond_false] at hn
        have hbad' : (!seen.toArray.isEmpty && !arr.isEmpty && arr.all (fun e => decide (e.born ≥ last))) = false := by
          rw [← he0, ← hbad, hA]
          congr 1
          · cases seen <;> rfl
          · rw [← Array.all_toList]
        have hleft : arr.filter (fun e => !seen.toArray.contains e.born) = (arr.toList.filter fun e => !(seen.contains e.born)).toArray := by
          rw [← Array.toList_inj]; simp
        simp only [hd0, Nat.zero_add]
        unfold leftS at hn
        generalize hLl : (es.filter fun e => !(seen.contains e.born)) = L at hF hn
        generalize hLr : (arr.toList.filter fun e => !(seen.contains e.born)) = R at hF hleft
        split at hn
        · cases hn
          cases R with
          | cons y R => exact absurd hF.1 (by simp)
          | nil =>
          refine ⟨.tuple #[.bool false], w, ?_, plain_refl 2 _ rfl, h, rfl⟩
          simp only [Instr.next, Sem.run_bind, hget, Result.andThen_ok, hgetm, hbad', Bool.false_eq_true, if_false, hleft]
          simp [choose, Sem.run, Question.forced, Result.andThen]
        · rename_i x
          cases R with
          | nil => exact absurd hF.1 (by simp)
          | cons y R =>
          cases R with
          | cons z R => exact absurd hF.1 (by simp)
          | nil =>
          obtain ⟨hxy, _⟩ := LR.cons_inv hF
          by_cases hs : x.born < since
          · rw [decide_eq_true hs, cond_true] at hn
            cases hn
            have hs' : y.born < since := by rw [hxy.born]; exact hs
            have hs2 : ¬ (y.born ≥ since) := by omega
            refine ⟨.tuple #[.bool true, y.key, y.val], { w with heap := w.heap.setIfInBounds e.b (.mapIter (some em.b) since (seen.toArray.push y.born) clock) }, ?_, VR.tuple' (LR.cons (.bool true) (LR.cons hxy.key (LR.cons hxy.val LR.nil))), ?_, SW.set_n _ _ _⟩
            · simp only [Instr.next, Sem.run_bind, hget, Result.andThen_ok, hgetm, hbad', Bool.false_eq_true, if_false, hleft]
              simp [choose, Sem.run, Question.forced, Result.andThen, hs', hs2, hb', setObj]
            · refine h.turn hg he _ (fun k hk => ?_) (by simp) rfl rfl rfl ⟨hd0, some em.b, .map hem, ?_⟩
              · show (w.heap.setIfInBounds e.b _)[k]? = _
                rw [Array.getElem?_setIfInBounds_ne (Ne.symm hk)]
              · show (w.heap.setIfInBounds e.b _)[e.b]? = _
                simp [hlt, hxy.born]
          · rw [decide_eq_false hs, cond_false] at hn; cases hn
        · cases hn
      · cases hn
    · cases hn
  · cases hn
theorem entry_ok (h : Sat G F W E S w) {it it' v : Value} (hi : VR E it it') (hn : entryS S it = some v) :
    ∃ v', (Instr.entry it').run P w = .ok v' w ∧ VR E v v' := by
  unfold entryS at hn
  split at hn
  · rename_i r
    cases hi with | ptr ha =>
    obtain ⟨_, e, he, rfl⟩ := ha
    simp only at he
    split at hn
    · rename_i m since seen last hg
      split at hn
      · rename_i es clock b hgm hlb
        obtain ⟨e', he', hb⟩ := h.obj _ _ hg
        rw [he] at he'; cases he'
        obtain ⟨hd0, m', hm, hb'⟩ : e.d = 0 ∧ ∃ m', VR E (.map (some m)) (.map m') ∧ w.heap[e.b]? = some (.mapIter m' since seen.toArray last) := hb
        cases hm with | map hem =>
        rename_i em
        obtain ⟨em', arr, hem', h1, hL⟩ := h.map hgm
        rw [hem] at hem'; cases hem'
        have hget : (getObj e.b).run P w = .ok (.mapIter (some em.b) since seen.toArray last) w := by simp [getObj, Sem.run, hb']
        have hgetm : (getObj em.b).run P w = .ok (.map arr clock) w := by simp [getObj, Sem.run, h1]
        by_cases hc : clock = last
        · rw [decide_eq_true hc, cond_true] at hn
          subst hc
          split at hn
          · rename_i x hx
            cases hn
            obtain ⟨y, hy, hxy⟩ := find_rel hL (fun n => n == b) hx
            refine ⟨.tuple #[y.key, y.val], ?_, VR.tuple' (LR.cons hxy.key (LR.cons hxy.val LR.nil))⟩
            have hy' : arr.find? (fun e => e.born == b) = some y := by rw [← Array.find?_toList]; exact hy
            simp only [hd0, Nat.zero_add]
            have hbk : seen.toArray.back? = some b := by rw [← hlb]; simp
            simp only [Instr.entry, Sem.run_bind, hget, Result.andThen_ok, hbk, hgetm, bne_self_eq_false, Bool.false_eq_true, if_false, hy', Sem.run_pure]
          · cases hn
        · rw [decide_eq_false hc, cond_false] at hn; cases hn
      · cases hn
    · cases hn
  · cases hn
theorem lay_ok (h : Sat G F W E S w) {v : Value} {so : SObj} {obj : Obj} {k : Nat} {mk : Nat → Value} {r : Result Next} (h1 : r = .ok (.value (mk w.heap.size)) (w.alloc obj)) (h2 : ∀ (E' : Env) b, E' S.n = some ⟨b, 0, k⟩ → VR E' v (mk b)) (h3 : ∀ (E' : Env) w b, E.le E' → w.heap[b]? = some obj → ObjR E' w ⟨b, 0, k⟩ so) :
    OpOk P G F W E S (S.new so) w (.val v) r := by
  have hle : E.le (E.put S.n ⟨w.heap.size, 0, k⟩) := Env.put_le (h.new _ (Nat.le_refl _)) _
  refine ⟨_, _, _, h1, Env.put_ext _ _ ⟨w.heap.size, 0, k⟩, by rw [SW.new_n]; omega, h.lay obj so ⟨w.heap.size, 0, k⟩ rfl (h3 _ _ _ hle ?_), h2 _ _ (Env.put_same _ _ _)⟩
  show (w.heap.push obj)[w.heap.size]? = _
  simp
theorem opS_ok (h : Sat G F W E S w) {ρ ρ' : Operand → Value} {o : Oper} (hρ : ∀ x ∈ opL o.op, VR E (ρ x) (ρ' x)) (hx : opS P S ρ o = some (x, S')) : OpOk P G F W E S S' w x ((execOp ρ' o).run P w) := by
  have halloc : ∀ {v : Value} {so : SObj}, allocS P S.n ρ o = some (v, so) → OpOk P G F W E S (S.new so) w (.val v) ((execOp ρ' o).run P w) := fun {v so} ha => by
    obtain ⟨obj, k, mk, h1, h2, h3⟩ := alloc_ok (n := S.n) hρ ha
    exact lay_ok h (h1 w) h2 h3
  have hAll : allocV S (allocS P S.n ρ o) = some (x, S') → OpOk P G F W E S S' w x ((execOp ρ' o).run P w) := fun hh => by
    obtain ⟨v, so, h1, rfl, rfl⟩ := allocV_some hh
    exact halloc h1
  obtain ⟨dst, op, type, pos, after, guard⟩ := o
  cases op with
  | move a => cases (show some (ONext.val (ρ a), S) = some (x, S') from hx); exact OpOk.val h (hρ a (by simp [opL])) rfl
  | assign a => cases (show some (ONext.val (ρ a), S) = some (x, S') from hx); exact OpOk.val h (hρ a (by simp [opL])) rfl
  | pick c a b =>
    have hx : opPick c a b P S ρ ⟨dst, .pick c a b, type, pos, after, guard⟩ = some (x, S') := hx
    have hc := hρ c (by simp [opL, Op.operands])
    have ha := hρ a (by simp [opL, Op.operands])
    have hb := hρ b (by simp [opL, Op.operands])
    unfold opPick at hx
    split at hx
    · rename_i hv
      cases hx
      rw [hv] at hc
      generalize hv' : ρ' c = cv at hc
      cases hc
      exact OpOk.val h ha (by simp [execOp, asBool, hv'])
    · rename_i hv
      cases hx
      rw [hv] at hc
      generalize hv' : ρ' c = cv at hc
      cases hc
      exact OpOk.val h hb (by simp [execOp, asBool, hv'])
    · cases hx
  | alloc t => exact hAll hx
  | box t a => exact hAll hx
  | buildSlice t n ps => exact hAll hx
  | makeMap t r => exact hAll hx
  | makeSlice t l c => exact hAll hx
  | build t ps =>
    obtain ⟨v, h1, rfl, rfl⟩ := valS_some (show valS S (buildS P t (ps.toList.map fun p => (p.1, ρ p.2))) = some (x, S') from hx)
    have hps : LR (fun p q : Nat × Value => p.1 = q.1 ∧ VR E p.2 q.2) (ps.toList.map fun p => (p.1, ρ p.2)) (ps.toList.map fun p => (p.1, ρ' p.2)) := LR.of_map fun p hp => ⟨rfl, hρ p.2 (by simp [opL, Op.operands]; exact ⟨p.1, by simpa using hp⟩)⟩
    refine OpOk.quiet h (s := Instr.build t (ps.map fun p => (p.1, ρ' p.2))) ?_ (run_v _ _)
    have := build_ok (P := P) (w := w) hps h1
    have he : (ps.toList.map fun p => (p.1, ρ' p.2)).toArray = ps.map fun p => (p.1, ρ' p.2) := by apply Array.ext'; simp
    rw [he] at this
    exact this
  | load t a =>
    have hx : opLoad t a P S ρ ⟨dst, .load t a, type, pos, after, guard⟩ = some (x, S') := hx
    have ha := hρ a (by simp [opL])
    unfold opLoad at hx
    split at hx
    · rename_i ad hv
      rw [hv] at ha
      generalize hv' : ρ' a = av at ha
      cases ha with | ptr hA =>
      obtain ⟨v, h1, rfl, rfl⟩ := valS_some hx
      refine OpOk.quiet h (s := Instr.loadAt t (ρ' a)) ?_ (run_v _ _)
      obtain ⟨v', q1, q2⟩ := h.loadVar (P := P) hA h1
      exact ⟨v', by simp [Instr.loadAt, hv', Instr.sureAddr, q1], q2⟩
    · cases hx
  | store t a b =>
    have hx : opStore t a b P S ρ ⟨dst, .store t a b, type, pos, after, guard⟩ = some (x, S') := hx
    have ha := hρ a (by simp [opL])
    have hb := hρ b (by simp [opL])
    unfold opStore at hx
    split at hx
    · rename_i ad hv
      rw [hv] at ha
      generalize hv' : ρ' a = av at ha
      cases ha with | ptr hA =>
      obtain ⟨h1, rfl⟩ := skipV_some hx
      refine OpOk.skipped (s := Instr.storeAt t (ρ' a) (ρ' b)) ?_ (run_u _ _)
      obtain ⟨w', q1, q2, q3⟩ := h.storeVar (P := P) hA hb h1
      exact ⟨w', by simp [Instr.storeAt, hv', Instr.sureAddr, q1], q2, q3⟩
    · cases hx
  | nilCheck a =>
    have hx : opNilCheck a P S ρ ⟨dst, .nilCheck a, type, pos, after, guard⟩ = some (x, S') := hx
    have ha := hρ a (by simp [opL])
    unfold opNilCheck at hx
    split at hx
    · rename_i ad hv
      rw [hv] at ha
      generalize hv' : ρ' a = av at ha
      cases ha with | ptr hA =>
      cases hx
      exact OpOk.val h (.ptr hA) (by simp [execOp, hv'])
    · rename_i f p q hv
      rw [hv] at ha
      generalize hv' : ρ' a = av at ha
      cases ha with | func hf ha1 ha2 hb1 hb2 =>
      cases hf
      cases hx
      exact OpOk.val h (.func (.same _ rfl) ha1 ha2 hb1 hb2) (by simp [execOp, hv'])
    · rename_i t v hv
      rw [hv] at ha
      generalize hv' : ρ' a = av at ha
      cases ha with | iface hA =>
      cases hx
      exact OpOk.val h (.iface hA) (by simp [execOp, hv'])
    · cases hx
  | binOp op t a b ty => exact opBin_ok (ty := ty) h (hρ a (by simp [opL])) (hρ b (by simp [opL])) (show opBin op t a b P S ρ _ = some (x, S') from hx) rfl
  | convert s d a =>
    obtain ⟨v, h1, rfl⟩ := setV_some (show setV (convS P S s d (ρ a)) = some (x, S') from hx)
    exact OpOk.app (s := convert s d (ρ' a)) (conv_ok h (hρ a (by simp [opL])) h1) (run_v _ _)
  | makeInterface t a =>
    have hx : opIface t a P S ρ ⟨dst, .makeInterface t a, type, pos, after, guard⟩ = some (x, S') := hx
    unfold opIface at hx
    split at hx
    · rename_i d hd
      split at hx
      · cases hx
      · rename_i hno
        cases hx
        refine OpOk.quiet h (s := Instr.makeInterface t (ρ' a)) ⟨.iface t (ρ' a), ?_, .iface (hρ a (by simp [opL]))⟩ (run_v _ _)
        cases d <;> first | exact absurd rfl (hno _) | simp [Instr.makeInterface, run_underlying hd]
    · cases hx
  | makeFunc fn a b =>
    have hx : opFunc fn a b P S ρ ⟨dst, .makeFunc fn a b, type, pos, after, guard⟩ = some (x, S') := hx
    unfold opFunc at hx
    by_cases hy : isYield fn = true
    · rw [hy] at hx; cases hx
    · rw [Bool.eq_false_iff.2 hy] at hx
      cases hx
      refine OpOk.quiet h (s := Instr.makeFunc fn (a.map ρ') (b.map ρ')) ⟨_, rfl, .func' (.same fn (Bool.eq_false_iff.2 hy)) ?_ ?_⟩ (run_v _ _)
      · rw [Array.toList_map, Array.toList_map]
        exact VL_map fun y hy => hρ y (by simp [opL, Op.operands]; exact .inl (by simpa using hy))
      · rw [Array.toList_map, Array.toList_map]
        exact VL_map fun y hy => hρ y (by simp [opL, Op.operands]; exact .inr (by simpa using hy))
  | slice t a lo hi mx =>
    obtain ⟨v, h1, rfl, rfl⟩ := valS_some (show valS S (sliceS P t (ρ a) (lo.map ρ) (hi.map ρ) (mx.map ρ)) = some (x, S') from hx)
    refine OpOk.quiet h (s := Instr.sliceAt t (ρ' a) (lo.map ρ') (hi.map ρ') (mx.map ρ')) ?_ (run_v _ _)
    exact slice_ok (hρ a (by simp [opL, Op.operands])) (OR_map fun y hy => hρ y (by simp [opL, Op.operands] at hy ⊢; simp [hy])) (OR_map fun y hy => hρ y (by simp [opL, Op.operands] at hy ⊢; simp [hy])) (OR_map fun y hy => hρ y (by simp [opL, Op.operands] at hy ⊢; simp [hy])) h1
  | fieldAddr t a f =>
    obtain ⟨v, h1, rfl, rfl⟩ := valS_some (show valS S (fieldAtS P t (ρ a) f) = some (x, S') from hx)
    exact OpOk.quiet h (s := Instr.fieldAt t (ρ' a) f) (fieldAt_ok (hρ a (by simp [opL])) h1) (run_v _ _)
  | field t a f =>
    obtain ⟨v, h1, rfl, rfl⟩ := valS_some (show valS S (fieldS P t (ρ a) f) = some (x, S') from hx)
    exact OpOk.quiet h (s := Instr.field t (ρ' a) f) (field_ok (hρ a (by simp [opL])) h1) (run_v _ _)
  | indexAddr t a i =>
    obtain ⟨v, h1, rfl, rfl⟩ := valS_some (show valS S (indexAtS P t (ρ a) (ρ i)) = some (x, S') from hx)
    exact OpOk.quiet h (s := Instr.indexAt t (ρ' a) (ρ' i)) (indexAt_ok (hρ a (by simp [opL])) (hρ i (by simp [opL])) h1) (run_v _ _)
  | index t a i =>
    obtain ⟨v, h1, rfl, rfl⟩ := valS_some (show valS S (indexS P t (ρ a) (ρ i)) = some (x, S') from hx)
    exact OpOk.quiet h (s := Instr.index t (ρ' a) (ρ' i)) (index_ok (hρ a (by simp [opL])) (hρ i (by simp [opL])) h1) (run_v _ _)
  | lookup t a i ok =>
    obtain ⟨v, h1, rfl, rfl⟩ := valS_some (show valS S (lookupS P S t (ρ a) (ρ i) ok) = some (x, S') from hx)
    exact OpOk.quiet h (s := Instr.lookup t (ρ' a) (ρ' i) ok) (lookup_ok h (hρ a (by simp [opL])) (hρ i (by simp [opL])) h1) (run_v _ _)
  | mapUpdate t m k v =>
    obtain ⟨h1, rfl⟩ := skipV_some (show skipV (mapPutS P S t (ρ m) (ρ k) (ρ v)) = some (x, S') from hx)
    exact OpOk.skipped (s := Instr.mapUpdate t (ρ' m) (ρ' k) (ρ' v)) (mapPut_ok h (hρ m (by simp [opL, Op.operands])) (hρ k (by simp [opL, Op.operands])) (hρ v (by simp [opL, Op.operands])) h1) (run_u _ _)
  | insert t m k v =>
    obtain ⟨h1, rfl⟩ := skipV_some (show skipV (mapPutS P S t (ρ m) (ρ k) (ρ v)) = some (x, S') from hx)
    exact OpOk.skipped (s := Instr.mapUpdate t (ρ' m) (ρ' k) (ρ' v)) (mapPut_ok h (hρ m (by simp [opL, Op.operands])) (hρ k (by simp [opL, Op.operands])) (hρ v (by simp [opL, Op.operands])) h1) (run_u _ _)
  | mapEntry t m k =>
    obtain ⟨v, h1, rfl⟩ := setV_some (show setV (mapEntryS P S t (ρ m) (ρ k)) = some (x, S') from hx)
    obtain ⟨w', v', q1, q2, q3, q4⟩ := mapEntry_ok (P := P) h (hρ m (by simp [opL])) (hρ k (by simp [opL])) h1
    exact OpOk.turned (s := Instr.mapEntry t (ρ' m) (ρ' k)) ⟨v', w', q1, q2, q3, q4⟩ (run_v _ _)
  | entryStore t m s v =>
    obtain ⟨h1, rfl⟩ := skipV_some (show skipV (entryPutS S (ρ m) (ρ s) (ρ v)) = some (x, S') from hx)
    exact OpOk.skipped (s := Instr.entryStore t (ρ' m) (ρ' s) (ρ' v)) (entryPut_ok h (hρ m (by simp [opL, Op.operands])) (hρ s (by simp [opL, Op.operands])) (hρ v (by simp [opL, Op.operands])) h1) (run_u _ _)
  | range t a =>
    have hx : opRange t a P S ρ ⟨dst, .range t a, type, pos, after, guard⟩ = some (x, S') := hx
    have ha := hρ a (by simp [opL])
    unfold opRange at hx
    split at hx
    · rename_i s hd hv
      rw [hv] at ha
      generalize hv' : ρ' a = av at ha
      cases ha
      cases hx
      exact lay_ok h (obj := .stringIter s 0) (k := 0) (mk := fun b => .pointer (some ⟨b, 0, none⟩)) (by simp [execOp, Instr.range, hv', run_underlying hd]) (fun E' b he => .ptr ⟨rfl, _, he, by simp⟩) (fun E' w b _ hb => ⟨rfl, hb⟩)
    · rename_i kt et hd
      obtain ⟨v, so, h1, rfl, rfl⟩ := allocV_some hx
      generalize hv : ρ a = av at ha h1
      generalize hv' : ρ' a = av' at ha
      unfold rangeMapS at h1
      split at h1
      · cases h1
        cases ha
        exact lay_ok h (obj := .mapIter none 0 #[] 0) (k := 0) (mk := fun b => .pointer (some ⟨b, 0, none⟩)) (by simp [execOp, Instr.range, hv', run_underlying hd]) (fun E' b he => .ptr ⟨rfl, _, he, by simp⟩) (fun E' w b _ hb => ⟨rfl, none, .mnil, hb⟩)
      · rename_i r
        split at h1
        · rename_i es clock hg
          cases h1
          cases ha with | map hem =>
          rename_i em
          obtain ⟨em', arr, hem', h1, hL⟩ := h.map hg
          rw [hem] at hem'; cases hem'
          have hgetm : (getObj em.b).run P w = .ok (.map arr clock) w := by simp [getObj, Sem.run, h1]
          exact lay_ok h (obj := .mapIter (some em.b) clock #[] clock) (k := 0) (mk := fun b => .pointer (some ⟨b, 0, none⟩)) (by simp [execOp, Instr.range, hv', run_underlying hd, hgetm]) (fun E' b he => .ptr ⟨rfl, _, he, by simp⟩) (fun E' w b hle hb => ⟨rfl, some em.b, .map (hle _ _ hem), hb⟩)
        · cases h1
      · cases h1
    · cases hx
  | next it b =>
    have hx : opNext it b P S ρ ⟨dst, .next it b, type, pos, after, guard⟩ = some (x, S') := hx
    unfold opNext at hx
    cases b with
    | false =>
      rw [cond_false] at hx
      obtain ⟨v, h1, rfl⟩ := setV_some hx
      exact OpOk.turned (s := Instr.next (ρ' it) false type) (nextMap_ok h (hρ it (by simp [opL])) h1) (run_v _ _)
    | true =>
      rw [cond_true] at hx
      obtain ⟨v, h1, rfl⟩ := setV_some hx
      exact OpOk.turned (s := Instr.next (ρ' it) true type) (next_ok h (hρ it (by simp [opL])) h1) (run_v _ _)
  | typeAssert a xt t ok =>
    obtain ⟨v, h1, rfl, rfl⟩ := valS_some (show valS S (assertS P (ρ a) t ok) = some (x, S') from hx)
    exact OpOk.quiet h (s := Instr.typeAssert (ρ' a) xt t ok) (assert_ok (hρ a (by simp [opL])) h1) (run_v _ _)
  | extract t i =>
    have hx : opExtract t i P S ρ ⟨dst, .extract t i, type, pos, after, guard⟩ = some (x, S') := hx
    have ha := hρ t (by simp [opL])
    unfold opExtract at hx
    split at hx
    · rename_i vs hv
      rw [hv] at ha
      generalize hv' : ρ' t = av at ha
      cases ha with | tuple h1 h2 =>
      rename_i arr
      obtain ⟨v, q1, rfl, rfl⟩ := valS_some hx
      obtain ⟨v', q2, q3⟩ := LR.get (R := VR E) ⟨h1, h2⟩ q1
      refine OpOk.quiet h (s := Instr.extract (ρ' t) i) ⟨v', ?_, q3⟩ (run_v _ _)
      rw [hv']
      simp [Instr.extract, show arr[i]? = some v' by simpa using q2]
    · cases hx
  | call c => exact call_ok h rfl hρ (show callS P S ρ c = some (x, S') from hx)
  | defer c =>
    have hx : opDefer c P S ρ ⟨dst, .defer c, type, pos, after, guard⟩ = some (x, S') := hx
    unfold opDefer at hx
    split at hx
    · rename_i y hy
      cases hx
      exact defer_ok rfl hρ hy
    · cases hx
  | panic a =>
    have hx : opPanic a P S ρ ⟨dst, .panic a, type, pos, after, guard⟩ = some (x, S') := hx
    have ha := hρ a (by simp [opL])
    unfold opPanic at hx
    split at hx
    · rename_i t v hv
      rw [hv] at ha
      generalize hv' : ρ' a = av at ha
      cases ha with | iface hA =>
      cases hx
      exact ⟨_, by simp [execOp, hv', Instr.panic], .iface hA, rfl⟩
    · cases hx
  | ready g => cases (show none = some (x, S') from hx)
  | waits g => cases (show none = some (x, S') from hx)
  | unOp a b c => cases (show none = some (x, S') from hx)
  | sliceToArrayPointer a b => cases (show none = some (x, S') from hx)
  | makeChan a b => cases (show none = some (x, S') from hx)
  | entry a =>
    obtain ⟨v, h1, rfl, rfl⟩ := valS_some (show valS S (entryS S (ρ a)) = some (x, S') from hx)
    exact OpOk.quiet h (s := Instr.entry (ρ' a)) (entry_ok h (hρ a (by simp [opL])) h1) (run_v _ _)
  | go a => cases (show none = some (x, S') from hx)
  | send a b => cases (show none = some (x, S') from hx)
  | recv a b c => cases (show none = some (x, S') from hx)
  | select a b => cases (show none = some (x, S') from hx)
theorem opL_all (o : Oper) : ∀ x ∈ o.op.operands, x ∈ opL o.op := fun x hx => by
  cases h : o.op <;> rw [h] at hx <;> simp [opL, Op.operands] at hx ⊢ <;> first | exact hx | (rcases hx with hx | hx <;> simp [hx]) | simp [hx]
theorem plainNext_ok (h : Sat G F W E S w) {y : Next} (hy : plainNext y = some x) : OpOk P G F W E S S w x (.ok y w) := by
  have hV : ∀ v, plainV PD v = true → VR E v v := fun v hv => plain_refl _ _ hv
  have hVL : ∀ l, allPlain l = true → VL E l l := fun l hl => ⟨rfl, fun i a b ha hb => by rw [ha] at hb; cases hb; exact hV _ ((allL_iff _ _).1 hl _ (List.mem_of_getElem? ha))⟩
  unfold plainNext at hy
  split at hy
  · rename_i v
    by_cases hp : plainV PD v = true
    · rw [hp] at hy; cases hy
      exact OpOk.val h (hV v hp) rfl
    · rw [Bool.eq_false_iff.2 hp] at hy; cases hy
  · cases hy
    exact ⟨w, E, rfl, Ext.refl _ _, Nat.le_refl _, h⟩
  · rename_i f args
    by_cases hp : allPlain args.toList = true
    · rw [hp] at hy; cases hy
      exact ⟨args, rfl, hVL _ hp, rfl⟩
    · rw [Bool.eq_false_iff.2 hp] at hy; cases hy
  · rename_i f cap args
    by_cases hp : (allPlain cap.toList && allPlain args.toList) = true
    · rw [hp] at hy; cases hy
      rw [Bool.and_eq_true] at hp
      exact ⟨_, rfl, .fn (hVL _ hp.1) (hVL _ hp.2), rfl⟩
    · rw [Bool.eq_false_iff.2 hp] at hy; cases hy
  · cases hy; exact ⟨rfl, rfl⟩
  · cases hy
theorem plainS_ok (h : Sat G F W E S w) {ρ ρ' : Operand → Value} {o : Oper} (hρ : ∀ x ∈ opL o.op, VR E (ρ x) (ρ' x)) (hx : plainS P S ρ o = some (x, S')) : OpOk P G F W E S S' w x ((execOp ρ' o).run P w) := by
  unfold plainS at hx
  by_cases hp : allL (fun x => plainV PD (ρ x)) (opL o.op) = true
  · rw [hp, cond_true] at hx
    split at hx
    · rename_i y hy
      cases hx
      unfold goPlain at hy
      by_cases hsel : isSelect o.op = true
      · rw [hsel] at hy; cases hy
      · rw [Bool.eq_false_iff.2 hsel, cond_false] at hy
        have heq : execOp ρ' o = execOp ρ o := execOp_congr o (fun cs b hc => hsel (by rw [hc]; rfl)) fun a ha => plain_eq _ _ _ ((allL_iff _ _).1 hp a (opL_all o a ha)) (hρ a (opL_all o a ha))
        rw [heq]
        split at hy
        · rename_i y0 hpr
          rw [prun_ok hpr w]
          exact plainNext_ok h hy
        · rename_i v hpr
          by_cases hv : plainV PD v = true
          · rw [hv] at hy; cases hy
            exact ⟨v, prun_err hpr w, plain_refl _ _ hv, rfl⟩
          · rw [Bool.eq_false_iff.2 hv] at hy; cases hy
        · cases hy
    · cases hx
  · rw [Bool.eq_false_iff.2 hp] at hx; cases hx
theorem ev_ok (h : Sat G F W E S w) {tr : Tr Value} {a : Act} (ht : TR E tr a.tmps) {x : Operand} (hx : okX G x = true) : VR E (evS tr x) (a.eval x) := by
  cases x with
  | tmp t => exact ht t
  | const v => exact plain_refl PD v hx
  | global g =>
    obtain ⟨e, he, hb, hd⟩ := h.glob g (Nat.le_of_ble_eq_true hx)
    refine .ptr ⟨rfl, e, he, ?_⟩
    show (⟨g, 0, none⟩ : Addr) = ⟨e.b, 0 + e.d, none⟩
    rw [hb, hd]
  | func f => exact .func' (.same _ rfl) LR.nil LR.nil
theorem stepS_ok2 (h : Sat G F W E S w) {tr : Tr Value} {a : Act} {o : Oper} (ht : ∀ x ∈ opL o.op, okX G x = true → VR E (evS tr x) (a.eval x)) (hx : stepS P G S tr o = some (x, S')) : OpOk P G F W E S S' w x ((execOp a.eval o).run P w) := by
  unfold stepS at hx
  by_cases hok : allL (okX G) (opL o.op) = true
  · rw [hok] at hx
    have hρ : ∀ x ∈ opL o.op, VR E (evS tr x) (a.eval x) := fun x hx => ht x hx ((allL_iff _ _).1 hok x hx)
    cases ho : opS P S (evS tr) o with
    | some y =>
      rw [ho] at hx
      cases (show some y = some (x, S') from hx)
      exact opS_ok h hρ ho
    | none =>
      rw [ho] at hx
      exact plainS_ok h hρ (show plainS P S (evS tr) o = some (x, S') from hx)
  · rw [Bool.eq_false_iff.2 hok] at hx
    cases (show none = some (x, S') from hx)
theorem stepS_ok (h : Sat G F W E S w) {tr : Tr Value} {a : Act} (ht : TR E tr a.tmps) {o : Oper} (hx : stepS P G S tr o = some (x, S')) : OpOk P G F W E S S' w x ((execOp a.eval o).run P w) :=
  stepS_ok2 h (fun _ _ hok => ev_ok h ht hok) hx
end
end Go.Proofs.YtaeophaecclnbaaGreatDoor

/- The executor: every operation. The executor: an operation, whole. -/
import Derived.Test.YtbjecfbfcpiilaaGreatDoorExR
import Derived.IntWalk
namespace Go.Proofs.YtbjecfbfcpiilaaGreatDoor
open Go
section
variable {P : Program} {G : Nat} {F : Nat → Option Obj} {W : World} {E : Env} {S S' : SW} {w : World}
/-! ### Assertions -/
theorem fail_ok {t : TypeId} {ok : Bool} {v : Value} (h : failV P t ok = some v) : ok = true ∧ ∃ z, v = .tuple #[z, .bool false] ∧ (∀ w, (zeroValue t).run P w = .ok z w) ∧ VR E v v := by
  unfold failV at h
  cases ok with
  | false => cases h
  | true =>
    rw [cond_true] at h
    split at h
    · rename_i z hz
      cases h
      obtain ⟨hz1, hz2⟩ := zeroP_some (E := E) hz
      exact ⟨rfl, z, rfl, hz1, .tuple' (LR.cons hz2 (LR.cons (.bool _) LR.nil))⟩
    · cases h
theorem assert_ok {x x' v : Value} (hx : VR E x x') {xt t : TypeId} {ok : Bool} (h : assertS P x t ok = some v) : ∃ v', (Instr.typeAssert x' xt t ok).run P w = .ok v' w ∧ VR E v v' := by
  unfold assertS at h
  split at h
  · rename_i d u y hd
    cases hx with | iface hv =>
    rename_i y'
    split at h
    · rename_i want
      unfold assertI at h
      split at h
      · rename_i i hi
        split at h
        · rename_i hm
          cases h
          refine ⟨if ok then .tuple #[.iface u y', .bool true] else .iface u y', ?_, okV_VR (ok := ok) (b := true) (.iface hv)⟩
          simp [Instr.typeAssert, run_underlying hd, typeInfo, hi, hm]
        · rename_i m hm
          obtain ⟨rfl, z, rfl, hz1, hz2⟩ := fail_ok (E := E) h
          exact ⟨_, by simp [Instr.typeAssert, run_underlying hd, typeInfo, hi, hm, hz1], hz2⟩
      · cases h
    · rename_i hno
      by_cases hut : Nat.beq u t = true
      · rw [hut, cond_true] at h
        cases h
        have := Nat.eq_of_beq_eq_true hut
        subst this
        refine ⟨if ok then .tuple #[y', .bool true] else y', ?_, okV_VR (ok := ok) (b := true) hv⟩
        cases d <;> first | exact absurd rfl (hno _) | simp [Instr.typeAssert, run_underlying hd]
      · rw [Bool.eq_false_iff.2 hut, cond_false] at h
        have hne : u ≠ t := fun hc => hut (by rw [hc]; exact Nat.beq_refl _)
        obtain ⟨rfl, z, rfl, hz1, hz2⟩ := fail_ok (E := E) h
        refine ⟨.tuple #[z, .bool false], ?_, hz2⟩
        cases d <;> first | exact absurd rfl (hno _) | simp [Instr.typeAssert, run_underlying hd, hne, hz1]
  · cases h
/-! ### Calls -/
theorem enter_ok {f : FuncId} {args : List Value} {x : ONext} (h : enterS P f args = some x) : x = .enter f args ∧ ∀ (args' : Array Value) (w : World), (callFunc f args').run P w = .ok (.enter f args') w := by
  unfold enterS at h
  split at h
  · rename_i fn hf
    by_cases hc : (fn.body.isSome && !(fn.name == "runtime.NumGoroutine")) = true
    · rw [hc, cond_true] at h
      cases h
      simp only [Bool.and_eq_true, Bool.not_eq_true'] at hc
      refine ⟨rfl, fun args' w => ?_⟩
      have h1 : fn.body.isNone = false := by cases hb : fn.body <;> simp_all
      have h2 : (fn.name == "runtime.NumGoroutine") = false := hc.2
      simp only [callFunc, Sem.run_bind, run_program, Result.andThen_ok, hf, h2, h1]
      rfl
    · rw [Bool.eq_false_iff.2 hc] at h; cases h
  · cases h
theorem method_ok {t : TypeId} {v : Value} {name : String} {f : FuncId} (h : methodS P t name = some f) (w : World) : (method (P.types.size + Made.depth) t v name).run P w = .ok (f, v) w := by
  have key : ∀ k, (method (k + 1) t v name).run P w = .ok (f, v) w := fun k => by
    unfold methodS at h
    split at h
    · rename_i i hi
      split at h
      · rename_i m hm
        have hm' : i.methods.find? (fun m => m.name == name) = some m := by
          rw [show i.methods = i.methods.toList.toArray by simp, List.find?_toArray]; exact hm
        by_cases hp : m.path.toList.isEmpty = true
        · rw [hp, cond_true] at h
          have hp' : m.path.toList = [] := by simpa using hp
          split at h
          · rename_i g e hg hd
            cases h
            simp only [method, Sem.run_bind, typeInfo, run_program, Result.andThen_ok, hi, Sem.run_pure, hm', hp', follow, hg, receiverAt, run_underlying hd, Place.get]
          · cases h
          · rename_i g d hno hg hd
            cases h
            simp only [method, Sem.run_bind, typeInfo, run_program, Result.andThen_ok, hi, Sem.run_pure, hm', hp', follow, hg, receiverAt, run_underlying hd]
            cases d <;> first | exact absurd rfl (hno _ _ rfl) | simp [Place.get]
          · cases h
        · rw [Bool.eq_false_iff.2 hp] at h; cases h
      · cases h
    · cases h
  exact key (P.types.size + 99)
/-! ### Blocks laid -/
theorem repL_nil (n : Nat) : repL n [] = [] := List.eq_nil_of_length_eq_zero (by rw [repL_length]; simp)
theorem zeros_VL {z : List Value} (hz : VL E z z) (n : Nat) : VL E (repL n z) (repL n z) := by
  refine ⟨rfl, fun k p q hp hq => ?_⟩
  rw [hp] at hq; cases hq
  have hlt := (List.getElem?_eq_some_iff.1 hp).1
  rw [repL_length] at hlt
  have hl0 : 0 < z.length := Nat.pos_of_ne_zero fun hc => by rw [hc] at hlt; omega
  rw [repL_get _ hl0 _ _ hlt] at hp
  exact hz.2 _ _ _ hp hp
/-- A block of n cells. -/
theorem row_laid {cs : List Value} {arr : Array Value} (hc : VL E cs arr.toList) (t : TypeId) : ∀ (E' : Env) (w : World) (b : Nat), E.le E' → w.heap[b]? = some (.cells arr t) → ObjR E' w ⟨b, 0, arr.size⟩ (.cells cs t true) := fun E' w b hle hb => by
  have hl : cs.length = arr.size := by simpa using hc.1
  refine ⟨arr, (0, 0), hb, by simp, by simp [hl], fun _ => ⟨hl, rfl, rfl⟩, fun o _ ho => by omega, fun j v hj => ?_⟩
  obtain ⟨v', h1, h2⟩ := hc.get hj
  exact ⟨v', by simpa using h1, h2.mono hle⟩
theorem run_newObj' (o : Obj) : (newObj o).run P w = .ok w.heap.size (w.alloc o) := rfl
theorem run_buildSlice {t e : TypeId} {len : Nat} {ps : Array (Nat × Value)} {i : TypeInfo} {v0 : Value} {r' : Array Value} (hd : P.underlying t = some (.slice e)) (hi : P.info? e = some i) (hz : i.zero = some v0) (hle : ¬ (2 ^ 24 < len * i.size))
    (hr : Instr.fill (fun k => some (k * i.size, i.size)) ((Array.range (len * i.size)).map (v0.cells[· % v0.cells.size]!)) ps.toList = some r') :
    (Instr.buildSlice t len ps).run P w = .ok (.slice (some ⟨w.heap.size, 0, none⟩) len len) (w.alloc (.cells r' e)) := by
  unfold Instr.buildSlice
  simp only [Sem.run_bind, run_underlying hd, Result.andThen_ok, run_size hi, gt_iff_lt]
  rw [if_neg hle]
  by_cases hz0 : len * i.size = 0
  · rw [if_pos hz0]
    have he : ∀ z : Array Value, (Array.range (len * i.size)).map (z[· % z.size]!) = #[] := fun z => by rw [hz0]; simp
    rw [he] at hr
    simp only [Sem.run_bind, Sem.run_pure, Result.andThen_ok, he, hr, newRow, run_newObj']
  · rw [if_neg hz0]
    simp only [Sem.run_bind, Sem.run_pure, Result.andThen_ok, run_zero hi hz, hr, newRow, run_newObj']
theorem run_makeSlice {t e : TypeId} {len cap : Nat} {k1 k2 : IntKind} {i : TypeInfo} {v0 : Value} (hd : P.underlying t = some (.slice e)) (hi : P.info? e = some i) (hz : i.zero = some v0) (h1 : len ≤ cap) (h2 : cap ≤ 1000000000) (h3 : cap * i.bytes ≤ 1000000000) :
    (Instr.makeSlice t (.int k1 (.ofNat len)) (.int k2 (.ofNat cap))).run P w = .ok (.slice (some ⟨w.heap.size, 0, none⟩) len cap) (w.alloc (.cells ((Array.range (cap * i.size)).map (v0.cells[· % v0.cells.size]!)) e)) := by
  have wl : IntKind.i64.wrap (len : Int) = (len : Int) := IntWalk.i64_in _ (by omega)
  have wc : IntKind.i64.wrap (cap : Int) = (cap : Int) := IntWalk.i64_in _ (by omega)
  have hbc : ((i.bytes : Int) * (cap : Int)) = ((cap * i.bytes : Nat) : Int) := by rw [Int.natCast_mul, Int.mul_comm]
  have g1 : ¬ ((cap : Int) < 0) := by omega
  have g2 : ¬ ((i.bytes : Int) * (cap : Int) > 281474976710656) := by rw [hbc]; omega
  have g3 : ¬ ((len : Int) < 0) := by omega
  have g4 : ¬ ((len : Int) > (cap : Int)) := by omega
  unfold Instr.makeSlice
  simp only [Sem.run_bind, run_underlying hd, Result.andThen_ok, asInt, asIntOf, Sem.run_pure, typeInfo, run_program, hi, Int.ofNat_eq_natCast, wl, wc]
  by_cases hz0 : cap * i.size = 0
  · have he : ∀ f : Nat → Value, Array.map f (Array.range 0) = #[] := fun f => by simp
    simp [g1, g2, g3, g4, run_size hi, hz0, newRow]
    rw [he, he]
  · simp [g1, g2, g3, g4, run_size hi, hz0, run_zero hi hz, newRow]
theorem alloc_ok {n : Nat} {ρ ρ' : Operand → Value} {o : Oper} (hρ : ∀ x ∈ opL o.op, VR E (ρ x) (ρ' x)) {v : Value} {so : SObj} (h : allocS P n ρ o = some (v, so)) :
    ∃ (obj : Obj) (k : Nat) (mk : Nat → Value), (∀ w, (execOp ρ' o).run P w = .ok (.value (mk w.heap.size)) (w.alloc obj)) ∧ (∀ (E' : Env) b, E' n = some ⟨b, 0, k⟩ → VR E' v (mk b)) ∧ (∀ (E' : Env) w b, E.le E' → w.heap[b]? = some obj → ObjR E' w ⟨b, 0, k⟩ so) := by
  obtain ⟨dst, op, type, pos, after, guard⟩ := o
  unfold allocS at h
  cases op with
  | alloc t =>
    simp only at h
    split at h
    · rename_i z hz
      cases h
      obtain ⟨i, v0, hi, hv0, rfl, hzz⟩ := zeroOf_some (E := E) hz
      exact ⟨.cells v0.cells t, v0.cells.size, fun b => .pointer (some ⟨b, 0, none⟩), fun w => by simp [execOp, Instr.alloc, run_zero hi hv0, newVar, newRow], fun E' b he => .ptr ⟨rfl, _, he, by simp⟩, row_laid hzz t⟩
    · cases h
  | box t x =>
    simp only at h
    cases h
    have hx := hρ x (by simp [opL])
    exact ⟨.cells (ρ' x).cells t, (ρ' x).cells.size, fun b => .pointer (some ⟨b, 0, none⟩), fun w => by simp [execOp, Instr.box, newVar, newRow], fun E' b he => .ptr ⟨rfl, _, he, by simp⟩, row_laid (cells_VL hx) t⟩
  | buildSlice t len ps =>
    simp only at h
    unfold buildSliceS at h
    split at h
    · rename_i e hd
      split at h
      · rename_i z k hz hk
        obtain ⟨i, v0, hi, hv0, rfl, hzz⟩ := zeroOf_some (E := E) hz
        obtain ⟨j, hj, rfl⟩ := sizeT_some hk
        rw [hi] at hj; cases hj
        by_cases hc : (!(Nat.ble (len * i.size) 10000) || !(Nat.beq v0.cells.toList.length i.size) || !(Nat.blt len CAPX)) = true
        · rw [hc] at h; cases h
        · rw [Bool.eq_false_iff.2 hc, cond_false] at h
          simp only [Bool.not_eq_true, Bool.or_eq_false_iff, Bool.not_eq_false'] at hc
          have hle := Nat.le_of_ble_eq_true hc.1.1
          have hzl : v0.cells.size = i.size := by simpa using Nat.eq_of_beq_eq_true hc.1.2
          have hX : len < CAPX := Nat.le_of_ble_eq_true hc.2
          split at h
          · rename_i cs hcs
            cases h
            have hps : LR (fun p q : Nat × Value => p.1 = q.1 ∧ VR E p.2 q.2) (ps.toList.map fun p => (p.1, ρ p.2)) (ps.toList.map fun p => (p.1, ρ' p.2)) := LR.of_map fun p hp => ⟨rfl, hρ p.2 (by simp [opL, Op.operands]; exact ⟨p.1, by simpa using hp⟩)⟩
            have h0 : VL E (repL len v0.cells.toList).toArray.toList ((Array.range (len * i.size)).map (v0.cells[· % v0.cells.size]!)).toList := by
              rw [← hzl, zeros_eq]
              simpa using zeros_VL hzz len
            obtain ⟨r', hr', hL⟩ := fill_rel (E := E) _ _ _ hps _ _ h0 cs hcs
            refine ⟨.cells r' e, r'.size, fun b => .slice (some ⟨b, 0, none⟩) len len, fun w => ?_, fun E' b he => .sl ⟨rfl, Nat.le_refl _, .inr ⟨rfl, _, he, by simp⟩, ?_⟩, row_laid hL e⟩
            · have hpm : (Array.map (fun p : Nat × Operand => (p.1, ρ' p.2)) ps).toList = ps.toList.map fun p => (p.1, ρ' p.2) := by simp
              have := run_buildSlice (w := w) (len := len) hd hi hv0 (by omega) (ps := Array.map (fun p : Nat × Operand => (p.1, ρ' p.2)) ps) (by rw [hpm]; exact hr')
              simp only [execOp, Sem.run_bind, this, Result.andThen_ok, Sem.run_pure]
            · exact .inl ⟨hX, rfl⟩
          · cases h
      · cases h
    · cases h
  | makeMap t r =>
    simp only at h
    have key : ∀ (E' : Env) (w : World) (b : Nat), E.le E' → w.heap[b]? = some (.map #[] 0) → ObjR E' w ⟨b, 0, 0⟩ (.map [] 0) := fun E' w b _ hb => ⟨#[], hb, LR.nil⟩
    split at h
    · cases h
      exact ⟨.map #[] 0, 0, fun b => .map (some b), fun w => by simp [execOp, Instr.makeMap], fun E' b he => .map he, key⟩
    · rename_i x
      split at h
      · rename_i k e j m hd hx
        cases h
        have hr := hρ x (by simp [opL, Op.operands])
        rw [hx] at hr
        generalize hy : ρ' x = y at hr
        cases hr
        exact ⟨.map #[] 0, 0, fun b => .map (some b), fun w => by simp [execOp, Instr.makeMap, run_underlying hd, hy, asInt, asIntOf], fun E' b he => .map he, key⟩
      · cases h
  | makeSlice t l c =>
    simp only at h
    unfold makeSliceS at h
    split at h
    · rename_i e k1 len k2 cap hd hl hc
      split at h
      · rename_i z i hz hi
        obtain ⟨j, v0, hj, hv0, rfl, hzz⟩ := zeroOf_some (E := E) hz
        rw [hi] at hj; cases hj
        by_cases hcond : (Nat.ble len cap && Nat.ble (cap * (i.bytes + 1)) 1000000000 && Nat.beq v0.cells.toList.length i.size) = true
        · rw [hcond, cond_true] at h
          cases h
          simp only [Bool.and_eq_true] at hcond
          have h1 := Nat.le_of_ble_eq_true hcond.1.1
          have h2 := Nat.le_of_ble_eq_true hcond.1.2
          have h3 : v0.cells.size = i.size := by simpa using Nat.eq_of_beq_eq_true hcond.2
          have hb : cap * i.bytes ≤ 1000000000 := Nat.le_trans (Nat.mul_le_mul_left _ (Nat.le_succ _)) h2
          have hcp : cap ≤ 1000000000 := Nat.le_trans (Nat.le_mul_of_pos_right _ (Nat.succ_pos _)) h2
          have hrl := hρ l (by simp [opL])
          have hrc := hρ c (by simp [opL])
          rw [hl] at hrl
          rw [hc] at hrc
          generalize hyl : ρ' l = yl at hrl
          generalize hyc : ρ' c = yc at hrc
          cases hrl; cases hrc
          have hL : VL E (repL cap v0.cells.toList) ((Array.range (cap * i.size)).map (v0.cells[· % v0.cells.size]!)).toList := by
            rw [← h3, zeros_eq]
            exact zeros_VL hzz cap
          refine ⟨.cells ((Array.range (cap * i.size)).map (v0.cells[· % v0.cells.size]!)) e, _, fun b => .slice (some ⟨b, 0, none⟩) len cap, fun w => ?_, fun E' b he => .sl ⟨rfl, h1, .inr ⟨rfl, _, he, by simp⟩, .inl ⟨by simp only [CAPX]; omega, rfl⟩⟩, row_laid hL e⟩
          simp only [execOp, hyl, hyc, Sem.run_bind, run_makeSlice (w := w) hd hi hv0 h1 hcp hb, Result.andThen_ok, Sem.run_pure]
        · rw [Bool.eq_false_iff.2 hcond] at h; cases h
      · cases h
    · cases h
  | _ => simp at h
end
end Go.Proofs.YtbjecfbfcpiilaaGreatDoor
namespace Go.Proofs.YtbjecfbfcpiilaaGreatDoor
open Go
section
variable {P : Program} {G : Nat} {F : Nat → Option Obj} {W : World} {E : Env} {S S' : SW} {w : World} {x : ONext} {r : Result Next}
theorem valS_some {o : Option Value} (h : valS S o = some (x, S')) : ∃ v, o = some v ∧ x = .val v ∧ S' = S := by
  unfold valS at h
  split at h
  · cases h; exact ⟨_, rfl, rfl, rfl⟩
  · cases h
theorem skipV_some {o : Option SW} (h : skipV o = some (x, S')) : o = some S' ∧ x = .skip := by
  unfold skipV at h
  split at h
  · cases h; exact ⟨rfl, rfl⟩
  · cases h
theorem setV_some {o : Option (Value × SW)} (h : setV o = some (x, S')) : ∃ v, o = some (v, S') ∧ x = .val v := by
  unfold setV at h
  split at h
  · cases h; exact ⟨_, rfl, rfl⟩
  · cases h
theorem boolV_some {o : Option Bool} (h : boolV S o = some (x, S')) : ∃ b, o = some b ∧ x = .val (.bool b) ∧ S' = S := by
  unfold boolV at h
  split at h
  · cases h; exact ⟨_, rfl, rfl, rfl⟩
  · cases h
theorem allocV_some {o : Option (Value × SObj)} (h : allocV S o = some (x, S')) : ∃ v so, o = some (v, so) ∧ x = .val v ∧ S' = S.new so := by
  unfold allocV at h
  split at h
  · cases h; exact ⟨_, _, rfl, rfl, rfl⟩
  · cases h
theorem OpOk.quiet (h : Sat G F W E S w) {v : Value} {s : Sem Value} (hs : ∃ v', s.run P w = .ok v' w ∧ VR E v v') (hr : r = (s.run P w).andThen fun v w => .ok (.value v) w) : OpOk P G F W E S S w (.val v) r := by
  obtain ⟨v', h1, h2⟩ := hs
  exact OpOk.val h h2 (by rw [hr, h1]; rfl)
theorem OpOk.app {v : Value} {s : Sem Value} (hs : AppPost G F W E S S' v (s.run P w)) (hr : r = (s.run P w).andThen fun v w => .ok (.value v) w) : OpOk P G F W E S S' w (.val v) r := by
  obtain ⟨v', w', E', h1, h2, h3, h4, h5⟩ := hs
  exact ⟨v', w', E', by rw [hr, h1]; rfl, h2, h3, h4, h5⟩
theorem OpOk.turned {v : Value} {s : Sem Value} (hs : ∃ v' w', s.run P w = .ok v' w' ∧ VR E v v' ∧ Sat G F W E S' w' ∧ S'.n = S.n) (hr : r = (s.run P w).andThen fun v w => .ok (.value v) w) : OpOk P G F W E S S' w (.val v) r := by
  obtain ⟨v', w', h1, h2, h3, h4⟩ := hs
  exact ⟨v', w', E, by rw [hr, h1]; rfl, Ext.refl _ _, by omega, h3, h2⟩
theorem OpOk.skipped {s : Sem Unit} (hs : ∃ w', s.run P w = .ok () w' ∧ Sat G F W E S' w' ∧ S'.n = S.n) (hr : r = (s.run P w).andThen fun _ w => .ok .skip w) : OpOk P G F W E S S' w .skip r := by
  obtain ⟨w', h1, h3, h4⟩ := hs
  exact ⟨w', E, by rw [hr, h1]; rfl, Ext.refl _ _, by omega, h3⟩
theorem run_v (s : Sem Value) (w : World) : (do pure (.value (← s)) : Sem Next).run P w = (s.run P w).andThen fun v w => .ok (.value v) w := by simp
theorem run_u (s : Sem Unit) (w : World) : (do s; pure .skip : Sem Next).run P w = (s.run P w).andThen fun _ w => .ok .skip w := by simp
theorem OR_map {ρ ρ' : Operand → Value} {o : Option Operand} (h : ∀ x ∈ o.toList, VR E (ρ x) (ρ' x)) : OR (VR E) (o.map ρ) (o.map ρ') := by
  cases o with
  | none => trivial
  | some x => exact h x (by simp)
theorem VL_map {ρ ρ' : Operand → Value} {l : List Operand} (h : ∀ x ∈ l, VR E (ρ x) (ρ' x)) : VL E (l.map ρ) (l.map ρ') := LR.of_map h
/-! ### Of two -/
theorem fastBin_ok {op : BinOp} {a b a' b' v : Value} (ha : VR E a a') (hb : VR E b b') (h : fastBin op a b = some v) {t : TypeId} {x y : Operand} :
    (do eqGuard op t x y a' b'; binOp op t a' b' : Sem Value).run P w = .ok v w ∧ VR E v v := by
  unfold fastBin at h
  split at h
  · rename_i k n j m
    cases ha; cases hb
    have hg : ∀ op, (eqGuard op t x y (.int k n) (.int j m)).run P w = .ok () w := fun op => by
      unfold eqGuard
      cases op <;> simp
    split at h
    all_goals first
      | (split at h
         all_goals first
           | (cases h; rw [Sem.run_bind, hg, Result.andThen_ok]; exact ⟨by simp [binOp, Op.intArith, Op.intCmp] <;> rfl, by constructor⟩)
           | cases h)
      | cases h
  · cases h
theorem eqGuard_ok {op : BinOp} {t : TypeId} {x y : Operand} {a b : Value} (h1 : ¬ (a = .nilIface ∧ b = .nilIface)) (h2 : ∀ u v, ¬ (a = .agg u ∧ b = .agg v)) : (eqGuard op t x y a b).run P w = .ok () w := by
  unfold eqGuard
  cases op <;> first
    | (simp; done)
    | (cases a <;> cases b <;> first
        | exact absurd ⟨rfl, rfl⟩ h1
        | exact absurd ⟨rfl, rfl⟩ (h2 _ _)
        | simp)
theorem eqS_shape {t : TypeId} {a b a' b' : Value} (ha : VR E a a') (hb : VR E b b') {r : Bool} (h : eqS P S t a b = some r) (op : BinOp) (x y : Operand) :
    (eqGuard op t x y a' b').run P w = .ok () w ∧ binOp .eql t a' b' = (do pure (.bool (← Op.equal t a' b'))) ∧ binOp .neq t a' b' = (do pure (.bool (!(← Op.equal t a' b')))) := by
  unfold eqS at h
  split at h
  all_goals first
    | (cases h; done)
    | (cases ha; cases hb; exact ⟨eqGuard_ok (by simp) (by simp), by simp [binOp], by simp [binOp]⟩)
theorem opEq_ok (hs : Sat G F W E S w) {op : BinOp} {t ty : TypeId} {x y : Operand} {ρ ρ' : Operand → Value} (hx : VR E (ρ x) (ρ' x)) (hy : VR E (ρ y) (ρ' y)) {o : Oper} {z : ONext} (h : opEq op t x y P S ρ o = some (z, S')) (ho : o.op = .binOp op t x y ty) :
    OpOk P G F W E S S' w z ((execOp ρ' o).run P w) := by
  have hrun : (execOp ρ' o).run P w = ((do eqGuard op t x y (ρ' x) (ρ' y); binOp op t (ρ' x) (ρ' y) : Sem Value).run P w).andThen fun v w => .ok (.value v) w := by
    simp only [execOp, ho]; exact run_v _ _
  unfold opEq at h
  split at h
  · obtain ⟨b, hb, rfl, rfl⟩ := boolV_some h
    obtain ⟨g1, g2, g3⟩ := eqS_shape (w := w) hx hy hb .eql x y
    refine OpOk.quiet hs (v := .bool b) ⟨.bool b, ?_, .bool _⟩ hrun
    rw [Sem.run_bind, g1, Result.andThen_ok, g2]
    simp [eq_ok hs hx hy hb]
  · obtain ⟨b, hb, rfl, rfl⟩ := boolV_some h
    split at hb
    · rename_i c hc
      cases hb
      obtain ⟨g1, g2, g3⟩ := eqS_shape (w := w) hx hy hc .neq x y
      refine OpOk.quiet hs (v := .bool (!c)) ⟨.bool (!c), ?_, .bool _⟩ hrun
      rw [Sem.run_bind, g1, Result.andThen_ok, g3]
      simp [eq_ok hs hx hy hc]
    · cases hb
  · cases h
theorem opBin_ok (hs : Sat G F W E S w) {op : BinOp} {t ty : TypeId} {x y : Operand} {ρ ρ' : Operand → Value} (hx : VR E (ρ x) (ρ' x)) (hy : VR E (ρ y) (ρ' y)) {o : Oper} {z : ONext} (h : opBin op t x y P S ρ o = some (z, S')) (ho : o.op = .binOp op t x y ty) :
    OpOk P G F W E S S' w z ((execOp ρ' o).run P w) := by
  unfold opBin at h
  split at h
  · rename_i v hv
    cases h
    have hrun : (execOp ρ' o).run P w = ((do eqGuard op t x y (ρ' x) (ρ' y); binOp op t (ρ' x) (ρ' y) : Sem Value).run P w).andThen fun v w => .ok (.value v) w := by
      simp only [execOp, ho]; exact run_v _ _
    exact OpOk.quiet hs (v := v) ⟨v, fastBin_ok hx hy hv⟩ hrun
  · exact opEq_ok hs hx hy h ho
/-! ### Calls -/
theorem run_call {c : Call} {o : Oper} (ho : o.op = .call c) (ρ : Operand → Value) (w : World) : (execOp ρ o).run P w = ((resolve ρ c o.type).run P w).andThen fun d w => (invoke d.target d.args).run P w := by
  simp [execOp, ho]
theorem call_ok (hs : Sat G F W E S w) {c : Call} {ρ ρ' : Operand → Value} {o : Oper} (ho : o.op = .call c) (hρ : ∀ x ∈ opL o.op, VR E (ρ x) (ρ' x)) {z : ONext} (h : callS P S ρ c = some (z, S')) : OpOk P G F W E S S' w z ((execOp ρ' o).run P w) := by
  have hL : opL o.op = c.operands.toList := by rw [ho]; rfl
  rw [hL] at hρ
  have hargs : VL E (c.args.toList.map ρ) (c.args.map ρ').toList := by
    rw [Array.toList_map]
    exact VL_map fun x hx => hρ x (by simp [Call.operands]; exact .inr (by simpa using hx))
  rw [run_call ho]
  unfold callS at h
  simp only at h
  split at h
  · rename_i f hc
    have hf := hρ f (by simp [Call.operands, hc])
    split at h
    · rename_i g first cap hv
      rw [hv] at hf
      generalize hv' : ρ' f = fv at hf
      cases hf with | func hf1 ha ha' hb hb' =>
      rename_i f' a' b'
      cases hf1
      split at h
      · rename_i y hy
        cases h
        obtain ⟨rfl, hrun⟩ := enter_ok hy
        refine ⟨a' ++ c.args.map ρ' ++ b', ?_, ?_, rfl⟩
        · simp only [resolve, hc, hv', Deferred.ofValue, Sem.run_pure, Result.andThen_ok, invoke, hrun]
        · simp only [Array.toList_append]
          exact (LR.append (LR.append ⟨ha, ha'⟩ hargs) ⟨hb, hb'⟩)
      · cases h
    · rename_i l first cap hv
      rw [hv] at hf
      generalize hv' : ρ' f = fv at hf
      cases hf with | func hf1 ha ha' hb hb' =>
      rename_i f' a' b'
      cases h
      cases hf1 with
      | same _ hno => cases hno
      | yield he =>
        rename_i e
        refine ⟨e, a' ++ c.args.map ρ', he, ?_, ?_, rfl⟩
        · simp only [resolve, hc, hv', Deferred.ofValue, Sem.run_pure, Result.andThen_ok, invoke]
        · simp only [Array.toList_append]
          exact LR.append ⟨ha, ha'⟩ hargs
    · cases h
  · rename_i rc name hc
    have hf := hρ rc (by simp [Call.operands, hc])
    split at h
    · rename_i t v hv
      rw [hv] at hf
      generalize hv' : ρ' rc = fv at hf
      cases hf with | iface hv1 =>
      rename_i v'
      split at h
      · rename_i f hm
        split at h
        · rename_i y hy
          cases h
          obtain ⟨rfl, hrun⟩ := enter_ok hy
          refine ⟨#[v'] ++ c.args.map ρ', ?_, ?_, rfl⟩
          · have he : (#[Value.iface t v'] ++ c.args.map ρ').extract 1 (#[Value.iface t v'] ++ c.args.map ρ').size = c.args.map ρ' := by
              apply Array.ext'
              simp [Array.toList_extract, List.extract]
              exact List.take_of_length_le (by simp)
            simp only [resolve, hc, hv', Sem.run_pure, Result.andThen_ok, invoke]
            simp only [Array.getElem?_append_left, List.size_toArray, List.length_cons, List.length_nil, Nat.zero_lt_succ, List.getElem?_toArray, List.getElem?_cons_zero, he, callMethod, Sem.run_bind, run_program, Result.andThen_ok, method_ok hm w, hrun]
          · simp only [Array.toList_append]
            exact LR.cons hv1 hargs
        · cases h
      · cases h
    · cases h
  · rename_i b hc
    have hb : ∀ k (q : List Value), c.args.toList.map ρ = q → q.length = k → ∃ q', (c.args.map ρ') = q'.toArray ∧ VL E q q' := fun k q hq _ => ⟨(c.args.map ρ').toList, (Array.toArray_toList).symm, by rw [← hq]; exact hargs⟩
    obtain ⟨cs, hinv⟩ : ∃ cs, ((resolve ρ' c o.type).run P w).andThen (fun d w => (invoke d.target d.args).run P w) = (builtin b c.argTypes o.type cs (c.args.map ρ')).run P w :=
      ⟨_, by simp only [resolve, hc, Sem.run_pure, Result.andThen_ok, invoke]; rfl⟩
    rw [hinv]
    split at h
    · rename_i s x hq
      obtain ⟨q', hq', hl⟩ := hb 2 _ hq rfl
      obtain ⟨s', m, rfl, h1, hm⟩ := hl.inv_cons
      obtain ⟨x', m', rfl, h2, hm'⟩ := hm.inv_cons
      rw [LR.inv_nil hm'] at hq'
      split at h
      · rename_i v S1 hv
        cases h
        refine OpOk.app (s := Builtin.append_ c.argTypes o.type #[s', x']) (append_ok hs h1 h2 hv) ?_
        rw [hq']; simp [builtin]
      · cases h
    · rename_i s x hq
      obtain ⟨q', hq', hl⟩ := hb 2 _ hq rfl
      obtain ⟨s', m, rfl, h1, hm⟩ := hl.inv_cons
      obtain ⟨x', m', rfl, h2, hm'⟩ := hm.inv_cons
      rw [LR.inv_nil hm'] at hq'
      split at h
      · rename_i v S1 hv
        cases h
        refine OpOk.turned (s := Builtin.copy_ c.argTypes o.type #[s', x']) (copy_ok hs h1 h2 hv) ?_
        rw [hq']; simp [builtin]
      · cases h
    · rename_i x hq
      obtain ⟨q', hq', hl⟩ := hb 1 _ hq rfl
      obtain ⟨x', m, rfl, h1, hm⟩ := hl.inv_cons
      rw [LR.inv_nil hm] at hq'
      split at h
      · rename_i v hv
        cases h
        refine OpOk.quiet hs (s := Builtin.len_ c.argTypes o.type #[x']) ⟨v, len_ok hs h1 hv⟩ ?_
        rw [hq']; simp [builtin]
      · cases h
    · rename_i x hq
      obtain ⟨q', hq', hl⟩ := hb 1 _ hq rfl
      obtain ⟨x', m, rfl, h1, hm⟩ := hl.inv_cons
      rw [LR.inv_nil hm] at hq'
      split at h
      · rename_i v hv
        cases h
        refine OpOk.quiet hs (s := Builtin.cap_ c.argTypes o.type #[x']) ⟨v, cap_ok h1 hv⟩ ?_
        rw [hq']; simp [builtin]
      · cases h
    · rename_i x hq
      obtain ⟨q', hq', hl⟩ := hb 1 _ hq rfl
      obtain ⟨x', m, rfl, h1, hm⟩ := hl.inv_cons
      rw [LR.inv_nil hm] at hq'
      split at h
      · rename_i t tl ht
        have ht' : c.argTypes[0]? = some t := by
          have : c.argTypes.toList[0]? = some t := by rw [ht]; rfl
          simpa using this
        split at h
        · rename_i S1 hv
          cases h
          obtain ⟨w', k1, k2, k3⟩ := clear_ok (P := P) (ty := o.type) hs ht' h1 hv
          refine OpOk.turned (s := Builtin.clear_ c.argTypes o.type #[x']) ⟨.tuple #[], w', k1, plain_refl 1 _ rfl, k2, k3⟩ ?_
          rw [hq']; simp [builtin]
        · cases h
      · cases h
    · rename_i m0 k0 hq
      obtain ⟨q', hq', hl⟩ := hb 2 _ hq rfl
      obtain ⟨s', m, rfl, h1, hm⟩ := hl.inv_cons
      obtain ⟨x', m', rfl, h2, hm'⟩ := hm.inv_cons
      rw [LR.inv_nil hm'] at hq'
      split at h
      · rename_i t tl ht
        have ht' : c.argTypes[0]? = some t := by
          have : c.argTypes.toList[0]? = some t := by rw [ht]; rfl
          simpa using this
        split at h
        · rename_i S1 hv
          cases h
          obtain ⟨w', k1, k2, k3⟩ := del_ok (P := P) (ty := o.type) hs ht' h1 h2 hv
          refine OpOk.turned (s := Builtin.delete_ c.argTypes o.type #[s', x']) ⟨.tuple #[], w', k1, plain_refl 1 _ rfl, k2, k3⟩ ?_
          rw [hq']; simp [builtin]
        · cases h
      · cases h
    · rename_i t v hq
      obtain ⟨q', hq', hl⟩ := hb 1 _ hq rfl
      obtain ⟨x', m, rfl, h1, hm⟩ := hl.inv_cons
      rw [LR.inv_nil hm] at hq'
      cases h
      cases h1 with | iface hv =>
      rename_i v'
      refine ⟨.iface t v', ?_, .iface hv, rfl⟩
      rw [hq']; simp [builtin, Instr.panic]
    · cases h
theorem defer_ok {c : Call} {ρ ρ' : Operand → Value} {o : Oper} (ho : o.op = .defer c) (hρ : ∀ x ∈ opL o.op, VR E (ρ x) (ρ' x)) {z : ONext} (h : deferS ρ c = some z) : OpOk P G F W E S S w z ((execOp ρ' o).run P w) := by
  have hL : opL o.op = c.operands.toList := by rw [ho]; rfl
  rw [hL] at hρ
  have hargs : VL E (c.args.map ρ).toList (c.args.map ρ').toList := by
    rw [Array.toList_map, Array.toList_map]
    exact VL_map fun x hx => hρ x (by simp [Call.operands]; exact .inr (by simpa using hx))
  unfold deferS at h
  split at h
  · rename_i f hc
    have hf := hρ f (by simp [Call.operands, hc])
    split at h
    · rename_i g first cap hv
      rw [hv] at hf
      generalize hv' : ρ' f = fv at hf
      cases hf with | func hf1 ha ha' hb hb' =>
      rename_i f' a' b'
      cases hf1
      cases h
      refine ⟨⟨.fn (.func g) b', a' ++ c.args.map ρ'⟩, ?_, .fn ⟨hb, hb'⟩ ?_, rfl⟩
      · simp [execOp, ho, resolve, hc, hv', Deferred.ofValue]
      · simp only [Array.toList_append]
        exact LR.append ⟨ha, ha'⟩ hargs
    · cases h
  · cases h
end
end Go.Proofs.YtbjecfbfcpiilaaGreatDoor

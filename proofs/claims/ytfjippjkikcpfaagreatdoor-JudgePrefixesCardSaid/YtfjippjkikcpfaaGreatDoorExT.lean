/- The executor: every operation. -/
import Derived.Test.YtfjippjkikcpfaaGreatDoorExS
import Derived.IntWalk
namespace Go.Proofs.YtfjippjkikcpfaaGreatDoor
open Go
section
variable {P : Program} {G : Nat} {F : Nat → Option Obj} {W : World} {E : Env} {S S' : SW} {w : World}
/-! ### Assertions -/
theorem fail_ok {t : TypeId} {ok : Bool} {v : Value} (h : failV P t ok = some v) : ok = true ∧ ∃ z, v = .tuple #[z, .bool false] ∧ (∀ w, (zeroValue t).run P w = .ok z w) ∧ VR E v v := by
  unfold failV at h
  cases ok with
  | false => cases h
  | true =>
    rw [cond_true] at h
    split at h
    · rename_i z hz
      cases h
      obtain ⟨hz1, hz2⟩ := zeroP_some (E := E) hz
      exact ⟨rfl, z, rfl, hz1, .tuple' (LR.cons hz2 (LR.cons (.bool _) LR.nil))⟩
    · cases h
theorem assert_ok {x x' v : Value} (hx : VR E x x') {xt t : TypeId} {ok : Bool} (h : assertS P x t ok = some v) : ∃ v', (Instr.typeAssert x' xt t ok).run P w = .ok v' w ∧ VR E v v' := by
  unfold assertS at h
  split at h
  · rename_i d u y hd
    cases hx with | iface hv =>
    rename_i y'
    split at h
    · rename_i want
      unfold assertI at h
      split at h
      · rename_i i hi
        split at h
        · rename_i hm
          cases h
          refine ⟨if ok then .tuple #[.iface u y', .bool true] else .iface u y', ?_, okV_VR (ok := ok) (b := true) (.iface hv)⟩
          simp [Instr.typeAssert, run_underlying hd, typeInfo, hi, hm]
        · rename_i m hm
          obtain ⟨rfl, z, rfl, hz1, hz2⟩ := fail_ok (E := E) h
          exact ⟨_, by simp [Instr.typeAssert, run_underlying hd, typeInfo, hi, hm, hz1], hz2⟩
      · cases h
    · rename_i hno
      by_cases hut : Nat.beq u t = true
      · rw [hut, cond_true] at h
        cases h
        have := Nat.eq_of_beq_eq_true hut
        subst this
        refine ⟨if ok then .tuple #[y', .bool true] else y', ?_, okV_VR (ok := ok) (b := true) hv⟩
        cases d <;> first | exact absurd rfl (hno _) | simp [Instr.typeAssert, run_underlying hd]
      · rw [Bool.eq_false_iff.2 hut, cond_false] at h
        have hne : u ≠ t := fun hc => hut (by rw [hc]; exact Nat.beq_refl _)
        obtain ⟨rfl, z, rfl, hz1, hz2⟩ := fail_ok (E := E) h
        refine ⟨.tuple #[z, .bool false], ?_, hz2⟩
        cases d <;> first | exact absurd rfl (hno _) | simp [Instr.typeAssert, run_underlying hd, hne, hz1]
  · cases h
/-! ### Calls -/
theorem enter_ok {f : FuncId} {args : List Value} {x : ONext} (h : enterS P f args = some x) : x = .enter f args ∧ ∀ (args' : Array Value) (w : World), (callFunc f args').run P w = .ok (.enter f args') w := by
  unfold enterS at h
  split at h
  · rename_i fn hf
    by_cases hc : (fn.body.isSome && !(fn.name == "runtime.NumGoroutine")) = true
    · rw [hc, cond_true] at h
      cases h
      simp only [Bool.and_eq_true, Bool.not_eq_true'] at hc
      refine ⟨rfl, fun args' w => ?_⟩
      have h1 : fn.body.isNone = false := by cases hb : fn.body <;> simp_all
      have h2 : (fn.name == "runtime.NumGoroutine") = false := hc.2
      simp only [callFunc, Sem.run_bind, run_program, Result.andThen_ok, hf, h2, h1]
      rfl
    · rw [Bool.eq_false_iff.2 hc] at h; cases h
  · cases h
theorem method_ok {t : TypeId} {v : Value} {name : String} {f : FuncId} (h : methodS P t name = some f) (w : World) : (method (P.types.size + Made.depth) t v name).run P w = .ok (f, v) w := by
  have key : ∀ k, (method (k + 1) t v name).run P w = .ok (f, v) w := fun k => by
    unfold methodS at h
    split at h
    · rename_i i hi
      split at h
      · rename_i m hm
        have hm' : i.methods.find? (fun m => m.name == name) = some m := by
          rw [show i.methods = i.methods.toList.toArray by simp, List.find?_toArray]; exact hm
        by_cases hp : m.path.toList.isEmpty = true
        · rw [hp, cond_true] at h
          have hp' : m.path.toList = [] := by simpa using hp
          split at h
          · rename_i g e hg hd
            cases h
            simp only [method, Sem.run_bind, typeInfo, run_program, Result.andThen_ok, hi, Sem.run_pure, hm', hp', follow, hg, receiverAt, run_underlying hd, Place.get]
          · cases h
          · rename_i g d hno hg hd
            cases h
            simp only [method, Sem.run_bind, typeInfo, run_program, Result.andThen_ok, hi, Sem.run_pure, hm', hp', follow, hg, receiverAt, run_underlying hd]
            cases d <;> first | exact absurd rfl (hno _ _ rfl) | simp [Place.get]
          · cases h
        · rw [Bool.eq_false_iff.2 hp] at h; cases h
      · cases h
    · cases h
  exact key (P.types.size + 99)
/-! ### Blocks laid -/
theorem repL_nil (n : Nat) : repL n [] = [] := List.eq_nil_of_length_eq_zero (by rw [repL_length]; simp)
theorem zeros_VL {z : List Value} (hz : VL E z z) (n : Nat) : VL E (repL n z) (repL n z) := by
  refine ⟨rfl, fun k p q hp hq => ?_⟩
  rw [hp] at hq; cases hq
  have hlt := (List.getElem?_eq_some_iff.1 hp).1
  rw [repL_length] at hlt
  have hl0 : 0 < z.length := Nat.pos_of_ne_zero fun hc => by rw [hc] at hlt; omega
  rw [repL_get _ hl0 _ _ hlt] at hp
  exact hz.2 _ _ _ hp hp
/-- A block of n cells. -/
theorem row_laid {cs : List Value} {arr : Array Value} (hc : VL E cs arr.toList) (t : TypeId) : ∀ (E' : Env) (w : World) (b : Nat), E.le E' → w.heap[b]? = some (.cells arr t) → ObjR E' w ⟨b, 0, arr.size⟩ (.cells cs t true) := fun E' w b hle hb => by
  have hl : cs.length = arr.size := by simpa using hc.1
  refine ⟨arr, (0, 0), hb, by simp, by simp [hl], fun _ => ⟨hl, rfl, rfl⟩, fun o _ ho => by omega, fun j v hj => ?_⟩
  obtain ⟨v', h1, h2⟩ := hc.get hj
  exact ⟨v', by simpa using h1, h2.mono hle⟩
theorem run_newObj' (o : Obj) : (newObj o).run P w = .ok w.heap.size (w.alloc o) := rfl
theorem run_buildSlice {t e : TypeId} {len : Nat} {ps : Array (Nat × Value)} {i : TypeInfo} {v0 : Value} {r' : Array Value} (hd : P.underlying t = some (.slice e)) (hi : P.info? e = some i) (hz : i.zero = some v0) (hle : ¬ (2 ^ 24 < len * i.size))
    (hr : Instr.fill (fun k => some (k * i.size, i.size)) ((Array.range (len * i.size)).map (v0.cells[· % v0.cells.size]!)) ps.toList = some r') :
    (Instr.buildSlice t len ps).run P w = .ok (.slice (some ⟨w.heap.size, 0, none⟩) len len) (w.alloc (.cells r' e)) := by
  unfold Instr.buildSlice
  simp only [Sem.run_bind, run_underlying hd, Result.andThen_ok, run_size hi, gt_iff_lt]
  rw [if_neg hle]
  by_cases hz0 : len * i.size = 0
  · rw [if_pos hz0]
    have he : ∀ z : Array Value, (Array.range (len * i.size)).map (z[· % z.size]!) = #[] := fun z => by rw [hz0]; simp
    rw [he] at hr
    simp only [Sem.run_bind, Sem.run_pure, Result.andThen_ok, he, hr, newRow, run_newObj']
  · rw [if_neg hz0]
    simp only [Sem.run_bind, Sem.run_pure, Result.andThen_ok, run_zero hi hz, hr, newRow, run_newObj']
theorem run_makeSlice {t e : TypeId} {len cap : Nat} {k1 k2 : IntKind} {i : TypeInfo} {v0 : Value} (hd : P.underlying t = some (.slice e)) (hi : P.info? e = some i) (hz : i.zero = some v0) (h1 : len ≤ cap) (h2 : cap ≤ 1000000000) (h3 : cap * i.bytes ≤ 1000000000) :
    (Instr.makeSlice t (.int k1 (.ofNat len)) (.int k2 (.ofNat cap))).run P w = .ok (.slice (some ⟨w.heap.size, 0, none⟩) len cap) (w.alloc (.cells ((Array.range (cap * i.size)).map (v0.cells[· % v0.cells.size]!)) e)) := by
  have wl : IntKind.i64.wrap (len : Int) = (len : Int) := IntWalk.i64_in _ (by omega)
  have wc : IntKind.i64.wrap (cap : Int) = (cap : Int) := IntWalk.i64_in _ (by omega)
  have hbc : ((i.bytes : Int) * (cap : Int)) = ((cap * i.bytes : Nat) : Int) := by rw [Int.natCast_mul, Int.mul_comm]
  have g1 : ¬ ((cap : Int) < 0) := by omega
  have g2 : ¬ ((i.bytes : Int) * (cap : Int) > 281474976710656) := by rw [hbc]; omega
  have g3 : ¬ ((len : Int) < 0) := by omega
  have g4 : ¬ ((len : Int) > (cap : Int)) := by omega
  unfold Instr.makeSlice
  simp only [Sem.run_bind, run_underlying hd, Result.andThen_ok, asInt, asIntOf, Sem.run_pure, typeInfo, run_program, hi, Int.ofNat_eq_natCast, wl, wc]
  by_cases hz0 : cap * i.size = 0
  · have he : ∀ f : Nat → Value, Array.map f (Array.range 0) = #[] := fun f => by simp
    simp [g1, g2, g3, g4, run_size hi, hz0, newRow]
    rw [he, he]
  · simp [g1, g2, g3, g4, run_size hi, hz0, run_zero hi hz, newRow]
theorem alloc_ok {n : Nat} {ρ ρ' : Operand → Value} {o : Oper} (hρ : ∀ x ∈ opL o.op, VR E (ρ x) (ρ' x)) {v : Value} {so : SObj} (h : allocS P n ρ o = some (v, so)) :
    ∃ (obj : Obj) (k : Nat) (mk : Nat → Value), (∀ w, (execOp ρ' o).run P w = .ok (.value (mk w.heap.size)) (w.alloc obj)) ∧ (∀ (E' : Env) b, E' n = some ⟨b, 0, k⟩ → VR E' v (mk b)) ∧ (∀ (E' : Env) w b, E.le E' → w.heap[b]? = some obj → ObjR E' w ⟨b, 0, k⟩ so) := by
  obtain ⟨dst, op, type, pos, after, guard⟩ := o
  unfold allocS at h
  cases op with
  | alloc t =>
    simp only at h
    split at h
    · rename_i z hz
      cases h
      obtain ⟨i, v0, hi, hv0, rfl, hzz⟩ := zeroOf_some (E := E) hz
      exact ⟨.cells v0.cells t, v0.cells.size, fun b => .pointer (some ⟨b, 0, none⟩), fun w => by simp [execOp, Instr.alloc, run_zero hi hv0, newVar, newRow], fun E' b he => .ptr ⟨rfl, _, he, by simp⟩, row_laid hzz t⟩
    · cases h
  | box t x =>
    simp only at h
    cases h
    have hx := hρ x (by simp [opL])
    exact ⟨.cells (ρ' x).cells t, (ρ' x).cells.size, fun b => .pointer (some ⟨b, 0, none⟩), fun w => by simp [execOp, Instr.box, newVar, newRow], fun E' b he => .ptr ⟨rfl, _, he, by simp⟩, row_laid (cells_VL hx) t⟩
  | buildSlice t len ps =>
    simp only at h
    unfold buildSliceS at h
    split at h
    · rename_i e hd
      split at h
      · rename_i z k hz hk
        obtain ⟨i, v0, hi, hv0, rfl, hzz⟩ := zeroOf_some (E := E) hz
        obtain ⟨j, hj, rfl⟩ := sizeT_some hk
        rw [hi] at hj; cases hj
        by_cases hc : (!(Nat.ble (len * i.size) 10000) || !(Nat.beq v0.cells.toList.length i.size) || !(Nat.blt len CAPX)) = true
        · rw [hc] at h; cases h
        · rw [Bool.eq_false_iff.2 hc, cond_false] at h
          simp only [Bool.not_eq_true, Bool.or_eq_false_iff, Bool.not_eq_false'] at hc
          have hle := Nat.le_of_ble_eq_true hc.1.1
          have hzl : v0.cells.size = i.size := by simpa using Nat.eq_of_beq_eq_true hc.1.2
          have hX : len < CAPX := Nat.le_of_ble_eq_true hc.2
          split at h
          · rename_i cs hcs
            cases h
            have hps : LR (fun p q : Nat × Value => p.1 = q.1 ∧ VR E p.2 q.2) (ps.toList.map fun p => (p.1, ρ p.2)) (ps.toList.map fun p => (p.1, ρ' p.2)) := LR.of_map fun p hp => ⟨rfl, hρ p.2 (by simp [opL, Op.operands]; exact ⟨p.1, by simpa using hp⟩)⟩
            have h0 : VL E (repL len v0.cells.toList).toArray.toList ((Array.range (len * i.size)).map (v0.cells[· % v0.cells.size]!)).toList := by
              rw [← hzl, zeros_eq]
              simpa using zeros_VL hzz len
            obtain ⟨r', hr', hL⟩ := fill_rel (E := E) _ _ _ hps _ _ h0 cs hcs
            refine ⟨.cells r' e, r'.size, fun b => .slice (some ⟨b, 0, none⟩) len len, fun w => ?_, fun E' b he => .sl ⟨rfl, Nat.le_refl _, .inr ⟨rfl, _, he, by simp⟩, ?_⟩, row_laid hL e⟩
            · have hpm : (Array.map (fun p : Nat × Operand => (p.1, ρ' p.2)) ps).toList = ps.toList.map fun p => (p.1, ρ' p.2) := by simp
              have := run_buildSlice (w := w) (len := len) hd hi hv0 (by omega) (ps := Array.map (fun p : Nat × Operand => (p.1, ρ' p.2)) ps) (by rw [hpm]; exact hr')
              simp only [execOp, Sem.run_bind, this, Result.andThen_ok, Sem.run_pure]
            · exact .inl ⟨hX, rfl⟩
          · cases h
      · cases h
    · cases h
  | makeMap t r =>
    simp only at h
    have key : ∀ (E' : Env) (w : World) (b : Nat), E.le E' → w.heap[b]? = some (.map #[] 0) → ObjR E' w ⟨b, 0, 0⟩ (.map [] 0) := fun E' w b _ hb => ⟨#[], hb, LR.nil⟩
    split at h
    · cases h
      exact ⟨.map #[] 0, 0, fun b => .map (some b), fun w => by simp [execOp, Instr.makeMap], fun E' b he => .map he, key⟩
    · rename_i x
      split at h
      · rename_i k e j m hd hx
        cases h
        have hr := hρ x (by simp [opL, Op.operands])
        rw [hx] at hr
        generalize hy : ρ' x = y at hr
        cases hr
        exact ⟨.map #[] 0, 0, fun b => .map (some b), fun w => by simp [execOp, Instr.makeMap, run_underlying hd, hy, asInt, asIntOf], fun E' b he => .map he, key⟩
      · cases h
  | makeSlice t l c =>
    simp only at h
    unfold makeSliceS at h
    split at h
    · rename_i e k1 len k2 cap hd hl hc
      split at h
      · rename_i z i hz hi
        obtain ⟨j, v0, hj, hv0, rfl, hzz⟩ := zeroOf_some (E := E) hz
        rw [hi] at hj; cases hj
        by_cases hcond : (Nat.ble len cap && Nat.ble (cap * (i.bytes + 1)) 1000000000 && Nat.beq v0.cells.toList.length i.size) = true
        · rw [hcond, cond_true] at h
          cases h
          simp only [Bool.and_eq_true] at hcond
          have h1 := Nat.le_of_ble_eq_true hcond.1.1
          have h2 := Nat.le_of_ble_eq_true hcond.1.2
          have h3 : v0.cells.size = i.size := by simpa using Nat.eq_of_beq_eq_true hcond.2
          have hb : cap * i.bytes ≤ 1000000000 := Nat.le_trans (Nat.mul_le_mul_left _ (Nat.le_succ _)) h2
          have hcp : cap ≤ 1000000000 := Nat.le_trans (Nat.le_mul_of_pos_right _ (Nat.succ_pos _)) h2
          have hrl := hρ l (by simp [opL])
          have hrc := hρ c (by simp [opL])
          rw [hl] at hrl
          rw [hc] at hrc
          generalize hyl : ρ' l = yl at hrl
          generalize hyc : ρ' c = yc at hrc
          cases hrl; cases hrc
          have hL : VL E (repL cap v0.cells.toList) ((Array.range (cap * i.size)).map (v0.cells[· % v0.cells.size]!)).toList := by
            rw [← h3, zeros_eq]
            exact zeros_VL hzz cap
          refine ⟨.cells ((Array.range (cap * i.size)).map (v0.cells[· % v0.cells.size]!)) e, _, fun b => .slice (some ⟨b, 0, none⟩) len cap, fun w => ?_, fun E' b he => .sl ⟨rfl, h1, .inr ⟨rfl, _, he, by simp⟩, .inl ⟨by simp only [CAPX]; omega, rfl⟩⟩, row_laid hL e⟩
          simp only [execOp, hyl, hyc, Sem.run_bind, run_makeSlice (w := w) hd hi hv0 h1 hcp hb, Result.andThen_ok, Sem.run_pure]
        · rw [Bool.eq_false_iff.2 hcond] at h; cases h
      · cases h
    · cases h
  | _ => simp at h
end
end Go.Proofs.YtfjippjkikcpfaaGreatDoor

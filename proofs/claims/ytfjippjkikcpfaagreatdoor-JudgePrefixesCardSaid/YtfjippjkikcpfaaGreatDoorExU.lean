/- The executor: an operation, whole. -/
import Derived.Test.YtfjippjkikcpfaaGreatDoorExT
namespace Go.Proofs.YtfjippjkikcpfaaGreatDoor
open Go
section
variable {P : Program} {G : Nat} {F : Nat → Option Obj} {W : World} {E : Env} {S S' : SW} {w : World} {x : ONext} {r : Result Next}
theorem valS_some {o : Option Value} (h : valS S o = some (x, S')) : ∃ v, o = some v ∧ x = .val v ∧ S' = S := by
  unfold valS at h
  split at h
  · cases h; exact ⟨_, rfl, rfl, rfl⟩
  · cases h
theorem skipV_some {o : Option SW} (h : skipV o = some (x, S')) : o = some S' ∧ x = .skip := by
  unfold skipV at h
  split at h
  · cases h; exact ⟨rfl, rfl⟩
  · cases h
theorem setV_some {o : Option (Value × SW)} (h : setV o = some (x, S')) : ∃ v, o = some (v, S') ∧ x = .val v := by
  unfold setV at h
  split at h
  · cases h; exact ⟨_, rfl, rfl⟩
  · cases h
theorem boolV_some {o : Option Bool} (h : boolV S o = some (x, S')) : ∃ b, o = some b ∧ x = .val (.bool b) ∧ S' = S := by
  unfold boolV at h
  split at h
  · cases h; exact ⟨_, rfl, rfl, rfl⟩
  · cases h
theorem allocV_some {o : Option (Value × SObj)} (h : allocV S o = some (x, S')) : ∃ v so, o = some (v, so) ∧ x = .val v ∧ S' = S.new so := by
  unfold allocV at h
  split at h
  · cases h; exact ⟨_, _, rfl, rfl, rfl⟩
  · cases h
theorem OpOk.quiet (h : Sat G F W E S w) {v : Value} {s : Sem Value} (hs : ∃ v', s.run P w = .ok v' w ∧ VR E v v') (hr : r = (s.run P w).andThen fun v w => .ok (.value v) w) : OpOk P G F W E S S w (.val v) r := by
  obtain ⟨v', h1, h2⟩ := hs
  exact OpOk.val h h2 (by rw [hr, h1]; rfl)
theorem OpOk.app {v : Value} {s : Sem Value} (hs : AppPost G F W E S S' v (s.run P w)) (hr : r = (s.run P w).andThen fun v w => .ok (.value v) w) : OpOk P G F W E S S' w (.val v) r := by
  obtain ⟨v', w', E', h1, h2, h3, h4, h5⟩ := hs
  exact ⟨v', w', E', by rw [hr, h1]; rfl, h2, h3, h4, h5⟩
theorem OpOk.turned {v : Value} {s : Sem Value} (hs : ∃ v' w', s.run P w = .ok v' w' ∧ VR E v v' ∧ Sat G F W E S' w' ∧ S'.n = S.n) (hr : r = (s.run P w).andThen fun v w => .ok (.value v) w) : OpOk P G F W E S S' w (.val v) r := by
  obtain ⟨v', w', h1, h2, h3, h4⟩ := hs
  exact ⟨v', w', E, by rw [hr, h1]; rfl, Ext.refl _ _, by omega, h3, h2⟩
theorem OpOk.skipped {s : Sem Unit} (hs : ∃ w', s.run P w = .ok () w' ∧ Sat G F W E S' w' ∧ S'.n = S.n) (hr : r = (s.run P w).andThen fun _ w => .ok .skip w) : OpOk P G F W E S S' w .skip r := by
  obtain ⟨w', h1, h3, h4⟩ := hs
  exact ⟨w', E, by rw [hr, h1]; rfl, Ext.refl _ _, by omega, h3⟩
theorem run_v (s : Sem Value) (w : World) : (do pure (.value (← s)) : Sem Next).run P w = (s.run P w).andThen fun v w => .ok (.value v) w := by simp
theorem run_u (s : Sem Unit) (w : World) : (do s; pure .skip : Sem Next).run P w = (s.run P w).andThen fun _ w => .ok .skip w := by simp
theorem OR_map {ρ ρ' : Operand → Value} {o : Option Operand} (h : ∀ x ∈ o.toList, VR E (ρ x) (ρ' x)) : OR (VR E) (o.map ρ) (o.map ρ') := by
  cases o with
  | none => trivial
  | some x => exact h x (by simp)
theorem VL_map {ρ ρ' : Operand → Value} {l : List Operand} (h : ∀ x ∈ l, VR E (ρ x) (ρ' x)) : VL E (l.map ρ) (l.map ρ') := LR.of_map h
/-! ### Of two -/
theorem fastBin_ok {op : BinOp} {a b a' b' v : Value} (ha : VR E a a') (hb : VR E b b') (h : fastBin op a b = some v) {t : TypeId} {x y : Operand} :
    (do eqGuard op t x y a' b'; binOp op t a' b' : Sem Value).run P w = .ok v w ∧ VR E v v := by
  unfold fastBin at h
  split at h
  · rename_i k n j m
    cases ha; cases hb
    have hg : ∀ op, (eqGuard op t x y (.int k n) (.int j m)).run P w = .ok () w := fun op => by
      unfold eqGuard
      cases op <;> simp
    split at h
    all_goals first
      | (split at h
         all_goals first
           | (cases h; rw [Sem.run_bind, hg, Result.andThen_ok]; exact ⟨by simp [binOp, Op.intArith, Op.intCmp] <;> rfl, by constructor⟩)
           | cases h)
      | cases h
  · cases h
theorem eqGuard_ok {op : BinOp} {t : TypeId} {x y : Operand} {a b : Value} (h1 : ¬ (a = .nilIface ∧ b = .nilIface)) (h2 : ∀ u v, ¬ (a = .agg u ∧ b = .agg v)) : (eqGuard op t x y a b).run P w = .ok () w := by
  unfold eqGuard
  cases op <;> first
    | (simp; done)
    | (cases a <;> cases b <;> first
        | exact absurd ⟨rfl, rfl⟩ h1
        | exact absurd ⟨rfl, rfl⟩ (h2 _ _)
        | simp)
theorem eqS_shape {t : TypeId} {a b a' b' : Value} (ha : VR E a a') (hb : VR E b b') {r : Bool} (h : eqS P S t a b = some r) (op : BinOp) (x y : Operand) :
    (eqGuard op t x y a' b').run P w = .ok () w ∧ binOp .eql t a' b' = (do pure (.bool (← Op.equal t a' b'))) ∧ binOp .neq t a' b' = (do pure (.bool (!(← Op.equal t a' b')))) := by
  unfold eqS at h
  split at h
  all_goals first
    | (cases h; done)
    | (cases ha; cases hb; exact ⟨eqGuard_ok (by simp) (by simp), by simp [binOp], by simp [binOp]⟩)
theorem opEq_ok (hs : Sat G F W E S w) {op : BinOp} {t ty : TypeId} {x y : Operand} {ρ ρ' : Operand → Value} (hx : VR E (ρ x) (ρ' x)) (hy : VR E (ρ y) (ρ' y)) {o : Oper} {z : ONext} (h : opEq op t x y P S ρ o = some (z, S')) (ho : o.op = .binOp op t x y ty) :
    OpOk P G F W E S S' w z ((execOp ρ' o).run P w) := by
  have hrun : (execOp ρ' o).run P w = ((do eqGuard op t x y (ρ' x) (ρ' y); binOp op t (ρ' x) (ρ' y) : Sem Value).run P w).andThen fun v w => .ok (.value v) w := by
    simp only [execOp, ho]; exact run_v _ _
  unfold opEq at h
  split at h
  · obtain ⟨b, hb, rfl, rfl⟩ := boolV_some h
    obtain ⟨g1, g2, g3⟩ := eqS_shape (w := w) hx hy hb .eql x y
    refine OpOk.quiet hs (v := .bool b) ⟨.bool b, ?_, .bool _⟩ hrun
    rw [Sem.run_bind, g1, Result.andThen_ok, g2]
    simp [eq_ok hs hx hy hb]
  · obtain ⟨b, hb, rfl, rfl⟩ := boolV_some h
    split at hb
    · rename_i c hc
      cases hb
      obtain ⟨g1, g2, g3⟩ := eqS_shape (w := w) hx hy hc .neq x y
      refine OpOk.quiet hs (v := .bool (!c)) ⟨.bool (!c), ?_, .bool _⟩ hrun
      rw [Sem.run_bind, g1, Result.andThen_ok, g3]
      simp [eq_ok hs hx hy hc]
    · cases hb
  · cases h
theorem opBin_ok (hs : Sat G F W E S w) {op : BinOp} {t ty : TypeId} {x y : Operand} {ρ ρ' : Operand → Value} (hx : VR E (ρ x) (ρ' x)) (hy : VR E (ρ y) (ρ' y)) {o : Oper} {z : ONext} (h : opBin op t x y P S ρ o = some (z, S')) (ho : o.op = .binOp op t x y ty) :
    OpOk P G F W E S S' w z ((execOp ρ' o).run P w) := by
  unfold opBin at h
  split at h
  · rename_i v hv
    cases h
    have hrun : (execOp ρ' o).run P w = ((do eqGuard op t x y (ρ' x) (ρ' y); binOp op t (ρ' x) (ρ' y) : Sem Value).run P w).andThen fun v w => .ok (.value v) w := by
      simp only [execOp, ho]; exact run_v _ _
    exact OpOk.quiet hs (v := v) ⟨v, fastBin_ok hx hy hv⟩ hrun
  · exact opEq_ok hs hx hy h ho
/-! ### Calls -/
theorem run_call {c : Call} {o : Oper} (ho : o.op = .call c) (ρ : Operand → Value) (w : World) : (execOp ρ o).run P w = ((resolve ρ c o.type).run P w).andThen fun d w => (invoke d.target d.args).run P w := by
  simp [execOp, ho]
theorem call_ok (hs : Sat G F W E S w) {c : Call} {ρ ρ' : Operand → Value} {o : Oper} (ho : o.op = .call c) (hρ : ∀ x ∈ opL o.op, VR E (ρ x) (ρ' x)) {z : ONext} (h : callS P S ρ c = some (z, S')) : OpOk P G F W E S S' w z ((execOp ρ' o).run P w) := by
  have hL : opL o.op = c.operands.toList := by rw [ho]; rfl
  rw [hL] at hρ
  have hargs : VL E (c.args.toList.map ρ) (c.args.map ρ').toList := by
    rw [Array.toList_map]
    exact VL_map fun x hx => hρ x (by simp [Call.operands]; exact .inr (by simpa using hx))
  rw [run_call ho]
  unfold callS at h
  simp only at h
  split at h
  · rename_i f hc
    have hf := hρ f (by simp [Call.operands, hc])
    split at h
    · rename_i g first cap hv
      rw [hv] at hf
      generalize hv' : ρ' f = fv at hf
      cases hf with | func hf1 ha ha' hb hb' =>
      rename_i f' a' b'
      cases hf1
      split at h
      · rename_i y hy
        cases h
        obtain ⟨rfl, hrun⟩ := enter_ok hy
        refine ⟨a' ++ c.args.map ρ' ++ b', ?_, ?_, rfl⟩
        · simp only [resolve, hc, hv', Deferred.ofValue, Sem.run_pure, Result.andThen_ok, invoke, hrun]
        · simp only [Array.toList_append]
          exact (LR.append (LR.append ⟨ha, ha'⟩ hargs) ⟨hb, hb'⟩)
      · cases h
    · rename_i l first cap hv
      rw [hv] at hf
      generalize hv' : ρ' f = fv at hf
      cases hf with | func hf1 ha ha' hb hb' =>
      rename_i f' a' b'
      cases h
      cases hf1 with
      | same _ hno => cases hno
      | yield he =>
        rename_i e
        refine ⟨e, a' ++ c.args.map ρ', he, ?_, ?_, rfl⟩
        · simp only [resolve, hc, hv', Deferred.ofValue, Sem.run_pure, Result.andThen_ok, invoke]
        · simp only [Array.toList_append]
          exact LR.append ⟨ha, ha'⟩ hargs
    · cases h
  · rename_i rc name hc
    have hf := hρ rc (by simp [Call.operands, hc])
    split at h
    · rename_i t v hv
      rw [hv] at hf
      generalize hv' : ρ' rc = fv at hf
      cases hf with | iface hv1 =>
      rename_i v'
      split at h
      · rename_i f hm
        split at h
        · rename_i y hy
          cases h
          obtain ⟨rfl, hrun⟩ := enter_ok hy
          refine ⟨#[v'] ++ c.args.map ρ', ?_, ?_, rfl⟩
          · have he : (#[Value.iface t v'] ++ c.args.map ρ').extract 1 (#[Value.iface t v'] ++ c.args.map ρ').size = c.args.map ρ' := by
              apply Array.ext'
              simp [Array.toList_extract, List.extract]
              exact List.take_of_length_le (by simp)
            simp only [resolve, hc, hv', Sem.run_pure, Result.andThen_ok, invoke]
            simp only [Array.getElem?_append_left, List.size_toArray, List.length_cons, List.length_nil, Nat.zero_lt_succ, List.getElem?_toArray, List.getElem?_cons_zero, he, callMethod, Sem.run_bind, run_program, Result.andThen_ok, method_ok hm w, hrun]
          · simp only [Array.toList_append]
            exact LR.cons hv1 hargs
        · cases h
      · cases h
    · cases h
  · rename_i b hc
    have hb : ∀ k (q : List Value), c.args.toList.map ρ = q → q.length = k → ∃ q', (c.args.map ρ') = q'.toArray ∧ VL E q q' := fun k q hq _ => ⟨(c.args.map ρ').toList, (Array.toArray_toList).symm, by rw [← hq]; exact hargs⟩
    obtain ⟨cs, hinv⟩ : ∃ cs, ((resolve ρ' c o.type).run P w).andThen (fun d w => (invoke d.target d.args).run P w) = (builtin b c.argTypes o.type cs (c.args.map ρ')).run P w :=
      ⟨_, by simp only [resolve, hc, Sem.run_pure, Result.andThen_ok, invoke]; rfl⟩
    rw [hinv]
    split at h
    · rename_i s x hq
      obtain ⟨q', hq', hl⟩ := hb 2 _ hq rfl
      obtain ⟨s', m, rfl, h1, hm⟩ := hl.inv_cons
      obtain ⟨x', m', rfl, h2, hm'⟩ := hm.inv_cons
      rw [LR.inv_nil hm'] at hq'
      split at h
      · rename_i v S1 hv
        cases h
        refine OpOk.app (s := Builtin.append_ c.argTypes o.type #[s', x']) (append_ok hs h1 h2 hv) ?_
        rw [hq']; simp [builtin]
      · cases h
    · rename_i s x hq
      obtain ⟨q', hq', hl⟩ := hb 2 _ hq rfl
      obtain ⟨s', m, rfl, h1, hm⟩ := hl.inv_cons
      obtain ⟨x', m', rfl, h2, hm'⟩ := hm.inv_cons
      rw [LR.inv_nil hm'] at hq'
      split at h
      · rename_i v S1 hv
        cases h
        refine OpOk.turned (s := Builtin.copy_ c.argTypes o.type #[s', x']) (copy_ok hs h1 h2 hv) ?_
        rw [hq']; simp [builtin]
      · cases h
    · rename_i x hq
      obtain ⟨q', hq', hl⟩ := hb 1 _ hq rfl
      obtain ⟨x', m, rfl, h1, hm⟩ := hl.inv_cons
      rw [LR.inv_nil hm] at hq'
      split at h
      · rename_i v hv
        cases h
        refine OpOk.quiet hs (s := Builtin.len_ c.argTypes o.type #[x']) ⟨v, len_ok hs h1 hv⟩ ?_
        rw [hq']; simp [builtin]
      · cases h
    · rename_i x hq
      obtain ⟨q', hq', hl⟩ := hb 1 _ hq rfl
      obtain ⟨x', m, rfl, h1, hm⟩ := hl.inv_cons
      rw [LR.inv_nil hm] at hq'
      split at h
      · rename_i v hv
        cases h
        refine OpOk.quiet hs (s := Builtin.cap_ c.argTypes o.type #[x']) ⟨v, cap_ok h1 hv⟩ ?_
        rw [hq']; simp [builtin]
      · cases h
    · rename_i x hq
      obtain ⟨q', hq', hl⟩ := hb 1 _ hq rfl
      obtain ⟨x', m, rfl, h1, hm⟩ := hl.inv_cons
      rw [LR.inv_nil hm] at hq'
      split at h
      · rename_i t tl ht
        have ht' : c.argTypes[0]? = some t := by
          have : c.argTypes.toList[0]? = some t := by rw [ht]; rfl
          simpa using this
        split at h
        · rename_i S1 hv
          cases h
          obtain ⟨w', k1, k2, k3⟩ := clear_ok (P := P) (ty := o.type) hs ht' h1 hv
          refine OpOk.turned (s := Builtin.clear_ c.argTypes o.type #[x']) ⟨.tuple #[], w', k1, plain_refl 1 _ rfl, k2, k3⟩ ?_
          rw [hq']; simp [builtin]
        · cases h
      · cases h
    · rename_i m0 k0 hq
      obtain ⟨q', hq', hl⟩ := hb 2 _ hq rfl
      obtain ⟨s', m, rfl, h1, hm⟩ := hl.inv_cons
      obtain ⟨x', m', rfl, h2, hm'⟩ := hm.inv_cons
      rw [LR.inv_nil hm'] at hq'
      split at h
      · rename_i t tl ht
        have ht' : c.argTypes[0]? = some t := by
          have : c.argTypes.toList[0]? = some t := by rw [ht]; rfl
          simpa using this
        split at h
        · rename_i S1 hv
          cases h
          obtain ⟨w', k1, k2, k3⟩ := del_ok (P := P) (ty := o.type) hs ht' h1 h2 hv
          refine OpOk.turned (s := Builtin.delete_ c.argTypes o.type #[s', x']) ⟨.tuple #[], w', k1, plain_refl 1 _ rfl, k2, k3⟩ ?_
          rw [hq']; simp [builtin]
        · cases h
      · cases h
    · rename_i t v hq
      obtain ⟨q', hq', hl⟩ := hb 1 _ hq rfl
      obtain ⟨x', m, rfl, h1, hm⟩ := hl.inv_cons
      rw [LR.inv_nil hm] at hq'
      cases h
      cases h1 with | iface hv =>
      rename_i v'
      refine ⟨.iface t v', ?_, .iface hv, rfl⟩
      rw [hq']; simp [builtin, Instr.panic]
    · cases h
theorem defer_ok {c : Call} {ρ ρ' : Operand → Value} {o : Oper} (ho : o.op = .defer c) (hρ : ∀ x ∈ opL o.op, VR E (ρ x) (ρ' x)) {z : ONext} (h : deferS ρ c = some z) : OpOk P G F W E S S w z ((execOp ρ' o).run P w) := by
  have hL : opL o.op = c.operands.toList := by rw [ho]; rfl
  rw [hL] at hρ
  have hargs : VL E (c.args.map ρ).toList (c.args.map ρ').toList := by
    rw [Array.toList_map, Array.toList_map]
    exact VL_map fun x hx => hρ x (by simp [Call.operands]; exact .inr (by simpa using hx))
  unfold deferS at h
  split at h
  · rename_i f hc
    have hf := hρ f (by simp [Call.operands, hc])
    split at h
    · rename_i g first cap hv
      rw [hv] at hf
      generalize hv' : ρ' f = fv at hf
      cases hf with | func hf1 ha ha' hb hb' =>
      rename_i f' a' b'
      cases hf1
      cases h
      refine ⟨⟨.fn (.func g) b', a' ++ c.args.map ρ'⟩, ?_, .fn ⟨hb, hb'⟩ ?_, rfl⟩
      · simp [execOp, ho, resolve, hc, hv', Deferred.ofValue]
      · simp only [Array.toList_append]
        exact LR.append ⟨ha, ha'⟩ hargs
    · cases h
  · cases h
end
end Go.Proofs.YtfjippjkikcpfaaGreatDoor

/- errors.As of the error that a player goes wrong with, at its own type: walked (turned from the guide's worked example on errors.As at a concrete target). -/
import Derived.Test.YtbjecfbfcpiilaaGreatDoorBase
import Derived.LaidEql
import Derived.Laws.Cells
import Derived.Stop.Asserts
import Derived.RowKitTokens
namespace Go.Proofs.YtbjecfbfcpiilaaGreatDoor
open Go.RowKit Go.Extern.Stop Go.Stop Go.Extern

abbrev WT : TypeId := 166
abbrev PT : TypeId := 171
abbrev ET : TypeId := 169
abbrev RT : TypeId := 329
abbrev IT : TypeId := 265
abbrev VT : TypeId := 262
abbrev NG : Nat := 10
def hdl (t : TypeId) : Value := .agg #[.pointer (some ⟨NG, t, none⟩)]
def vPtr (a : Addr) : Value := .agg #[.pointer (some ⟨NG, PT, none⟩), .pointer (some a), .int .u64 150]
def vVar (a : Addr) : Value := .agg #[.pointer (some ⟨NG, WT, none⟩), .pointer (some a), .int .u64 409]
def vVal (a : Addr) : Value := .agg #[.pointer (some ⟨NG, WT, none⟩), .pointer (some a), .int .u64 153]
theorem as_valueOfP (t : Addr) (w : World) : (ReflectliteValue.unpack (.iface PT (.pointer (some t)))).run Tryz.prog w = .ok (vPtr ⟨w.heap.size, 0, none⟩) (w.alloc (.cells #[.pointer (some t)] PT)) := by kernel_rfl
theorem as_typeP (a : Addr) (w : World) : (ReflectliteValue.methodAny (ReflectliteValue.valueError "reflectlite.Value.Type" 0) (fun t _ _ _ => ReflectliteType.toType t) #[vPtr a]).run Tryz.prog w = .ok (.iface RT (hdl PT)) w := by kernel_rfl
theorem as_methodKind (h : Value) (w : World) : (Go.method IT RT (.agg #[h]) "Kind").run Tryz.prog w = .ok (524, h) w := by kernel_rfl
theorem as_kindP (w : World) : ((ReflectliteType.abiMethod fun t => (fun a : Nat => Value.int IntKind.u8 (a : Int)) <$> Rtype.kind t) #[.pointer (some ⟨NG, PT, none⟩)]).run Tryz.prog w = .ok (.int .u8 22) w := by kernel_rfl
theorem as_kindW (w : World) : ((ReflectliteType.abiMethod fun t => (fun a : Nat => Value.int IntKind.u8 (a : Int)) <$> Rtype.kind t) #[.pointer (some ⟨NG, WT, none⟩)]).run Tryz.prog w = .ok (.int .u8 25) w := by kernel_rfl
theorem as_rlm (z : Sem Value) (f : TypeId → Addr → Nat → Nat → Sem Value) (v : Value) :
    ReflectliteValue.method z f #[v] = (do match ← ReflectliteValue.parts v with | none => z | some (t, a, fl) => f t a fl (fl % 32)) := rfl
theorem as_partsP (a : Addr) (w : World) : (ReflectliteValue.parts (vPtr a)).run Tryz.prog w = .ok (some (PT, a, 150)) w := by kernel_rfl
theorem as_underP : Tryz.prog.underlying PT = some (.pointer WT) := by kernel_rfl
/-- (Value).IsNil at the Value of a pointer to a fault that is not nil. -/
theorem as_isNil (a p : Addr) (W : World) (ha : W.cell? a = some (.pointer (some p))) :
    (ReflectliteValue.method (ReflectliteValue.valueError "reflectlite.Value.IsNil" 0) ReflectliteValue.isNil #[vPtr a]).run Tryz.prog W = .ok (.bool false) W := by
  rw [as_rlm]
  simp only [Sem.run_bind, as_partsP, Result.andThen]
  simp [ReflectliteValue.isNil, loadVar, isAgg, underlying, Tryz.underlying171, ha, Result.andThen]
theorem as_methodElem (h : Value) (w : World) : (Go.method IT RT (.agg #[h]) "Elem").run Tryz.prog w = .ok (542, .agg #[h]) w := by kernel_rfl
theorem as_methodImplements (h : Value) (w : World) : (Go.method IT RT (.agg #[h]) "Implements").run Tryz.prog w = .ok (543, .agg #[h]) w := by kernel_rfl
theorem as_methodAssignableTo (h : Value) (w : World) : (Go.method IT RT (.agg #[h]) "AssignableTo").run Tryz.prog w = .ok (540, .agg #[h]) w := by kernel_rfl
theorem as_elemT (w : World) : (ReflectliteType.method ReflectliteType.elem #[hdl PT]).run Tryz.prog w = .ok (.iface RT (hdl WT)) w := by kernel_rfl
theorem as_implements (w : World) : (ReflectliteType.relation "Implements" ReflectliteType.implements_ #[hdl WT, .iface RT (hdl ET)]).run Tryz.prog w = .ok (.bool true) w := by kernel_rfl
theorem as_typeOf (v : Value) (w : World) : (ReflectliteType.typeOf #[.iface WT v]).run Tryz.prog w = .ok (.iface RT (hdl WT)) w := by kernel_rfl
theorem as_assignable (w : World) : (ReflectliteType.relation "AssignableTo" ReflectliteType.assignableTo #[hdl WT, .iface RT (hdl WT)]).run Tryz.prog w = .ok (.bool true) w := by kernel_rfl
theorem as_valueOfW (x y : Int) (w : World) : (ReflectliteValue.unpack (.iface WT (.agg #[.int .i64 x, .int .i64 y]))).run Tryz.prog w
    = .ok (vVal ⟨w.heap.size, 0, none⟩) (w.alloc (.cells #[.int .i64 x, .int .i64 y] WT)) := by kernel_rfl
theorem as_elemOf (w : World) : (Rtype.elem? PT).run Tryz.prog w = .ok (some WT) w := by kernel_rfl
theorem as_mk (p : Addr) (w : World) : (ReflectliteValue.mk WT p ReflectliteValue.flagAddr).run Tryz.prog w = .ok (vVar p) w := by kernel_rfl
theorem as_elemV (a p : Addr) (W : World) (ha : W.cell? a = some (.pointer (some p))) :
    (ReflectliteValue.method (ReflectliteValue.valueError "reflectlite.Value.Elem" 0) ReflectliteValue.elem #[vPtr a]).run Tryz.prog W = .ok (vVar p) W := by
  rw [as_rlm]
  simp only [Sem.run_bind, as_partsP, Result.andThen]
  simp [ReflectliteValue.elem, loadVar, isAgg, underlying, Tryz.underlying171, ha, Result.andThen, as_elemOf, as_mk]
theorem as_rls (v x : Value) : ReflectliteValue.set #[v, x] = (do
    let (some (dst, a, fl), some (src, b, _)) := (← ReflectliteValue.parts v, ← ReflectliteValue.parts x)
      | unsupported (.noEntry "extern/(internal/reflectlite.Value).Set.zeroValue")
    if fl / ReflectliteValue.flagAddr % 2 == 0 then unsupported (.noEntry "extern/(internal/reflectlite.Value).Set.unaddressable")
    let val ← loadVar src b
    if ← Rtype.directlyAssignable dst src then storeVar dst a val
    else if ← Rtype.implements dst src then
      if (← Rtype.kind src) == 20 then
        match val with
        | .nilIface => unsupported (.noEntry "extern/reflectlite: a nil value of one interface type handed on as a value of another")
        | _ => storeVar dst a val
      else storeVar dst a (.iface src val)
    else panicString ("reflectlite.Set: value of type " ++ (← Rtype.spelt src) ++ " is not assignable to type " ++ (← Rtype.spelt dst))
    pure (.tuple #[])) := rfl
theorem as_partsVar (a : Addr) (w : World) : (ReflectliteValue.parts (vVar a)).run Tryz.prog w = .ok (some (WT, a, 409)) w := by kernel_rfl
theorem as_partsVal (a : Addr) (w : World) : (ReflectliteValue.parts (vVal a)).run Tryz.prog w = .ok (some (WT, a, 153)) w := by kernel_rfl
theorem as_direct (w : World) : (Rtype.directlyAssignable WT WT).run Tryz.prog w = .ok true w := by kernel_rfl
/-- (Value).Set: the fault's variable gets what the Value's own one holds. -/
theorem as_set (t b : Nat) (x y : Int) (u v : Value) (W : World) (hb0 : W.cell? ⟨b, 0, none⟩ = some (.int .i64 x)) (hb1 : W.cell? ⟨b, 1, none⟩ = some (.int .i64 y)) (ht0 : W.cell? ⟨t, 0, none⟩ = some u) (ht1 : W.cell? ⟨t, 1, none⟩ = some v)
    (hf0 : W.frozen? ⟨t, 0, none⟩ = false) (hf1 : W.frozen? ⟨t, 1, none⟩ = false) :
    (ReflectliteValue.set #[vVar ⟨t, 0, none⟩, vVal ⟨b, 0, none⟩]).run Tryz.prog W = .ok (.tuple #[]) ((W.setCell ⟨t, 0, none⟩ (.int .i64 x)).setCell ⟨t, 1, none⟩ (.int .i64 y)) := by
  have hl : (loadVar WT ⟨b, 0, none⟩).run Tryz.prog W = .ok (.agg #[.int .i64 x, .int .i64 y]) W := by
    have hc : (loadCells ⟨b, 0, none⟩ 2).run Tryz.prog W = .ok #[.int .i64 x, .int .i64 y] W := run_loadCells_list W ⟨b, 0, none⟩ [.int .i64 x, .int .i64 y] (fun j v hj => by
      match j with
      | 0 => cases hj; exact hb0
      | 1 => cases hj; exact hb1
      | j + 2 => simp at hj)
    simp [loadVar, isAgg, underlying, Tryz.underlying166, Result.andThen, hc]
  have hs : (storeVar WT ⟨t, 0, none⟩ (.agg #[.int .i64 x, .int .i64 y])).run Tryz.prog W = .ok () ((W.setCell ⟨t, 0, none⟩ (.int .i64 x)).setCell ⟨t, 1, none⟩ (.int .i64 y)) := by
    simp [storeVar, Value.cells, storeCells, Addr.add]
    have e1 := run_store Tryz.prog W ⟨t, 0, none⟩ (.int .i64 x) .plain rfl
    have ht1' : (W.setCell ⟨t, 0, none⟩ (.int .i64 x)).cell? ⟨t, 1, none⟩ = some v := (World.cell?_setCell_other _ _ _ _ (by simp)).trans ht1
    have hf1' : (W.setCell ⟨t, 0, none⟩ (.int .i64 x)).frozen? ⟨t, 1, none⟩ = false := by rw [World.frozen?_setCell]; exact hf1
    have e2 := run_store Tryz.prog (W.setCell ⟨t, 0, none⟩ (.int .i64 x)) ⟨t, 1, none⟩ (.int .i64 y) .plain rfl
    simp [ht0, hf0] at e1
    simp [ht1', hf1'] at e2
    rw [e1]
    exact e2
  rw [as_rls]
  simp only [Sem.run_bind, as_partsVar, as_partsVal, Result.andThen]
  simp [ReflectliteValue.flagAddr, hl, Result.andThen, as_direct, hs]
/-- The world behind errors.As that hits. -/
def asWorld (w : World) (t : Nat) (x y : Int) : World :=
  (((((w.alloc (.cells #[.pointer (some ⟨t, 0, none⟩)] PT)).alloc (.cells #[.pointer (some ⟨NG, PT, none⟩), .pointer (some ⟨w.heap.size, 0, none⟩), .int .u64 150] VT)).alloc (.cells #[.pointer (some ⟨NG, PT, none⟩), .pointer (some ⟨w.heap.size, 0, none⟩), .int .u64 150] VT)).alloc (.cells #[.int .i64 x, .int .i64 y] WT)).setCell ⟨t, 0, none⟩ (.int .i64 x)).setCell ⟨t, 1, none⟩ (.int .i64 y)
set_option maxRecDepth 100000 in
set_option maxHeartbeats 4000000 in
theorem as_hit (x y : Int) (t : Nat) (u v : Value) (w : World) (hg : w.cell? ⟨0, 0, none⟩ = some (.iface RT (hdl ET))) (ht0 : w.cell? ⟨t, 0, none⟩ = some u) (ht1 : w.cell? ⟨t, 1, none⟩ = some v) (hf0 : w.frozen? ⟨t, 0, none⟩ = false) (hf1 : w.frozen? ⟨t, 1, none⟩ = false) :
    Calls Tryz.prog 67 #[.iface WT (.agg #[.int .i64 x, .int .i64 y]), .iface PT (.pointer (some ⟨t, 0, none⟩))] w fun ev w' => ev = .returned (.bool true) ∧ w' = asWorld w t x y := by
  have h6 := @run_callFunc_extern Tryz.prog 118 _ (fun args => ReflectliteValue.unpack (args.getD 0 (.tuple #[]))) Tryz.func118 (by kernel_rfl) (by kernel_rfl) (by kernel_rfl) (by kernel_rfl)
  have h7 := @run_callFunc_extern Tryz.prog 119 _ (ReflectliteValue.methodAny (ReflectliteValue.valueError "reflectlite.Value.Type" 0) (fun t _ _ _ => ReflectliteType.toType t)) Tryz.func119 (by kernel_rfl) (by kernel_rfl) (by kernel_rfl) (by kernel_rfl)
  have h8 := @run_callFunc_extern Tryz.prog 120 _ (ReflectliteValue.method (ReflectliteValue.valueError "reflectlite.Value.IsNil" 0) ReflectliteValue.isNil) Tryz.func120 (by kernel_rfl) (by kernel_rfl) (by kernel_rfl) (by kernel_rfl)
  have h27 := @run_callFunc_extern Tryz.prog 524 _ (ReflectliteType.abiMethod fun t => do pure (.int .u8 (← Rtype.kind t))) Tryz.func524 (by kernel_rfl) (by kernel_rfl) (by kernel_rfl) (by kernel_rfl)
  have h37 := @run_callFunc_extern Tryz.prog 542 _ (ReflectliteType.method ReflectliteType.elem) Tryz.func542 (by kernel_rfl) (by kernel_rfl) (by kernel_rfl) (by kernel_rfl)
  have h38 := @run_callFunc_extern Tryz.prog 543 _ (ReflectliteType.relation "Implements" ReflectliteType.implements_) Tryz.func543 (by kernel_rfl) (by kernel_rfl) (by kernel_rfl) (by kernel_rfl)
  have h10 := @run_callFunc_extern Tryz.prog 190 _ ReflectliteType.typeOf Tryz.func190 (by kernel_rfl) (by kernel_rfl) (by kernel_rfl) (by kernel_rfl)
  have h35 := @run_callFunc_extern Tryz.prog 540 _ (ReflectliteType.relation "AssignableTo" ReflectliteType.assignableTo) Tryz.func540 (by kernel_rfl) (by kernel_rfl) (by kernel_rfl) (by kernel_rfl)
  have h11 := @run_callFunc_extern Tryz.prog 191 _ (ReflectliteValue.method (ReflectliteValue.valueError "reflectlite.Value.Elem" 0) ReflectliteValue.elem) Tryz.func191 (by kernel_rfl) (by kernel_rfl) (by kernel_rfl) (by kernel_rfl)
  have h12 := @run_callFunc_extern Tryz.prog 192 _ ReflectliteValue.set Tryz.func192 (by kernel_rfl) (by kernel_rfl) (by kernel_rfl) (by kernel_rfl)
  have htl : t < w.heap.size := World.block_lt_of_cell? w _ ht0
  have hlt : 0 < w.heap.size := World.block_lt_of_cell? w _ hg
  have tO := as_typeOf
  have mA := as_methodAssignableTo
  have a25 := as_assignable
  have v25 := as_valueOfW
  have f6 := as_valueOfP
  have f7 := as_typeP
  have mK := as_methodKind
  have mE := as_methodElem
  have mI := as_methodImplements
  have k27 := as_kindP
  have k25 := as_kindW
  have e27 := as_elemT
  have i25 := as_implements
  have n8 := as_isNil ⟨w.heap.size, 0, none⟩ ⟨t, 0, none⟩ ((w.alloc (.cells #[.pointer (some ⟨t, 0, none⟩)] PT)).alloc (.cells #[.pointer (some ⟨NG, PT, none⟩), .pointer (some ⟨w.heap.size, 0, none⟩), .int .u64 150] VT)) (by simp)
  have hg2 : ((w.alloc (.cells #[.pointer (some ⟨t, 0, none⟩)] PT)).alloc (.cells #[.pointer (some ⟨NG, PT, none⟩), .pointer (some ⟨w.heap.size, 0, none⟩), .int .u64 150] VT)).cell? ⟨0, 0, none⟩ = some (.iface RT (hdl ET)) := by
    rw [World.cell?_alloc_lt _ _ ⟨0, 0, none⟩ (by simp), World.cell?_alloc_lt _ _ ⟨0, 0, none⟩ hlt]; exact hg
  have el := as_elemV ⟨w.heap.size, 0, none⟩ ⟨t, 0, none⟩ (((w.alloc (.cells #[.pointer (some ⟨t, 0, none⟩)] PT)).alloc (.cells #[.pointer (some ⟨NG, PT, none⟩), .pointer (some ⟨w.heap.size, 0, none⟩), .int .u64 150] VT)).alloc (.cells #[.pointer (some ⟨NG, PT, none⟩), .pointer (some ⟨w.heap.size, 0, none⟩), .int .u64 150] VT)) (by rw [World.cell?_alloc_lt _ _ ⟨w.heap.size, 0, none⟩ (by simp; omega)]; simp)
  have st := as_set t (w.heap.size + 1 + 1 + 1) x y u v ((((w.alloc (.cells #[.pointer (some ⟨t, 0, none⟩)] PT)).alloc (.cells #[.pointer (some ⟨NG, PT, none⟩), .pointer (some ⟨w.heap.size, 0, none⟩), .int .u64 150] VT)).alloc (.cells #[.pointer (some ⟨NG, PT, none⟩), .pointer (some ⟨w.heap.size, 0, none⟩), .int .u64 150] VT)).alloc (.cells #[.int .i64 x, .int .i64 y] WT))
    (by rw [World.cell?_alloc_at _ _ _ _ (by simp)]; rfl) (by rw [World.cell?_alloc_at _ _ _ _ (by simp)]; rfl)
    (by rw [World.cell?_alloc_lt _ _ ⟨t, 0, none⟩ (by simp; omega), World.cell?_alloc_lt _ _ ⟨t, 0, none⟩ (by simp; omega), World.cell?_alloc_lt _ _ ⟨t, 0, none⟩ (by simp; omega), World.cell?_alloc_lt _ _ ⟨t, 0, none⟩ htl]; exact ht0)
    (by rw [World.cell?_alloc_lt _ _ ⟨t, 1, none⟩ (by simp; omega), World.cell?_alloc_lt _ _ ⟨t, 1, none⟩ (by simp; omega), World.cell?_alloc_lt _ _ ⟨t, 1, none⟩ (by simp; omega), World.cell?_alloc_lt _ _ ⟨t, 1, none⟩ htl]; exact ht1)
    (by rw [World.frozen?_alloc_old _ _ ⟨t, 0, none⟩ (by simp; omega), World.frozen?_alloc_old _ _ ⟨t, 0, none⟩ (by simp; omega), World.frozen?_alloc_old _ _ ⟨t, 0, none⟩ (by simp; omega), World.frozen?_alloc_old _ _ ⟨t, 0, none⟩ (Nat.ne_of_lt htl)]; exact hf0)
    (by rw [World.frozen?_alloc_old _ _ ⟨t, 1, none⟩ (by simp; omega), World.frozen?_alloc_old _ _ ⟨t, 1, none⟩ (by simp; omega), World.frozen?_alloc_old _ _ ⟨t, 1, none⟩ (by simp; omega), World.frozen?_alloc_old _ _ ⟨t, 1, none⟩ (Nat.ne_of_lt htl)]; exact hf1)
  unfold hdl vPtr vVar vVal at *
  go_enter Tryz.func67, Tryz.ntmps67
  go_wp2
  refine wp_loop_rounds 1 ?_
  rw [rounds_succ]
  go_wp2
  go_ret
  exact ⟨rfl, rfl⟩
end Go.Proofs.YtbjecfbfcpiilaaGreatDoor

/- Closed facts of the card: no function of the translation starts a goroutine. -/
import Derived.Test.YtaeophaecclnbaaGreatDoorRows
import Derived.KernelRfl
import GoSem.ClaimGoes
namespace Go.Proofs.YtaeophaecclnbaaGreatDoor
namespace nodeReads
open Go
theorem no_go : (Tryz.prog.funcs.toList.any Func.goes) = false := by kernel_rfl
theorem goes_none (f : FuncId) : Tryz.prog.goes f = false := by
  have h : Tryz.prog.funcs.any Func.goes = false := by rw [← Array.any_toList]; exact no_go
  unfold Program.goes
  rw [h, Bool.and_false, Bool.or_false, List.any_eq_false]
  intro g _
  cases hg : Tryz.prog.funcs[g]? with
  | none => simp
  | some fn =>
    have := List.any_eq_false.1 no_go fn (Array.mem_toList_iff.2 (Array.mem_of_getElem? hg))
    simpa using this
theorem goes_any (o : Option FuncId) : o.any Tryz.prog.goes = false := by
  cases o with
  | none => simp
  | some f => rw [Option.any_some, goes_none]
theorem goes_off : false = Rows.nodeReadsRow.goesBy Tryz.pinned.checked.prog := by
  show false = Tryz.prog.goesAt .entering _
  unfold Program.goesAt Program.goesFrom
  rw [goes_any]
  simp
end nodeReads
end Go.Proofs.YtaeophaecclnbaaGreatDoor

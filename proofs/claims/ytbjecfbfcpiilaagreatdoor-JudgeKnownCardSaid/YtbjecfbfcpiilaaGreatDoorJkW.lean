/- JudgeKnown: there is an input that fits. -/
import Derived.Test.YtbjecfbfcpiilaaGreatDoorFrame
import Derived.Test.YtbjecfbfcpiilaaGreatDoorErrW
namespace Go.Proofs.YtbjecfbfcpiilaaGreatDoor
namespace judgeKnown
open Go.RowKit Go.ChangeShapes Go.WideShapes Go.ChangeAt
open Go.ChangeMaps (open_string)

set_option maxRecDepth 100000 in
theorem fits (os : Os) {H : Type} (enc : TypeId × Value → H) : ∃ (w : World) (tape : Tape) (i : Input), w.os = os ∧ (w.forCall tape i).Shaped Tryz.prog ∧ i.vars = [] ∧ Input.okWide Tryz.prog (w.forCall tape i) .any w.heap.size 3 i ∧
      (OpenSpec.ofChange Rows.judgeKnownSpec).preRow enc Tryz.prog Tryz.f3 [] false Rows.judgeKnownRow.laid (w.forCall tape i).memory i.args ∧ ({} : Assume).holds Tryz.prog (lone (Frame.enter Tryz.prog 3 i.args .normal) [] (w.forCall tape i)) :=
  err_witness (enc := enc) (s := OpenSpec.ofChange Rows.judgeKnownSpec) (laid := Rows.judgeKnownRow.laid) #[] (x := ([], [], [])) 8 (World.shaped_of_ZipB (by kernel_rfl) (by kernel_rfl)) (by kernel_rfl) (by kernel_rfl) (fun k hk => by cases hk) (by kernel_rfl)
      (err_met os _)
end judgeKnown
end Go.Proofs.YtbjecfbfcpiilaaGreatDoor

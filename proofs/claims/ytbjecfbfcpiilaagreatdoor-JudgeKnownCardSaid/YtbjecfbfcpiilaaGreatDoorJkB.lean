/- JudgeKnown: from the walk to the row's post. -/
import Derived.Test.YtbjecfbfcpiilaaGreatDoorFrame
import Derived.Test.YtbjecfbfcpiilaaGreatDoorJkA
import Derived.Test.YtbjecfbfcpiilaaGreatDoorErrO
namespace Go.Proofs.YtbjecfbfcpiilaaGreatDoor
namespace judgeKnown
open Go.RowKit Go.ChangeShapes Go.WideShapes Go.ChangeAt
open Go.ChangeMaps (open_string)

set_option maxRecDepth 100000 in
theorem contract (H : Type) (enc : TypeId × Value → H) (W : World) (base : Nat) (args : Array Value) (ds gs : List (DataW H)) (before : List MemPlace)
    (hval : ∀ (j : Nat) t v, Tryz.f3.params[j]? = some t → args[j]? = some v → Value.okWide Tryz.prog W .any base t v)
    (hW : DataW.Whole enc Tryz.prog Tryz.f3.params.toList Rows.judgeKnownSpec.vars false W args.toList ds gs before) (_hLH : laidMetH Tryz.prog Rows.judgeKnownRow.laid W) (hS : W.ShapedOpen Tryz.prog) :
    Calls Tryz.prog 3 args W fun e W' => ∃ v, e = .returned v ∧ Rows.judgeKnownSpec.post enc Tryz.prog Tryz.f3 false true false false W args v W' := by
  have hW' := hW
  obtain ⟨p, q, hA0, hV, rfl, hfz, hnd⟩ := hW
  have hA : DataW.TrodAll enc Tryz.prog W 0 (fun _ => true) true Tryz.f3.params.toList args.toList ds p := hA0
  rw [Tryz.params3] at hA hval
  obtain ⟨hargs, rfl, rfl⟩ := trodAll_nil hA
  obtain rfl : args = #[] := by cases args; simp_all
  obtain ⟨rfl, rfl⟩ := trodVars_none hV
  clear hA0
  refine (known_any  W (err_of _hLH hS)).mono fun e W' ⟨he, hb⟩ => ⟨_, he, law_post (by kernel_rfl) rfl rfl rfl hW' hb⟩

end judgeKnown
end Go.Proofs.YtbjecfbfcpiilaaGreatDoor

/- 'There is an input that fits', at the world that the program's own statements lay. -/
import Derived.Test.YtfjippjkikcpfaaGreatDoorFrame
import Derived.LaidMore
import Derived.LaidHandle
namespace Go.Proofs.YtfjippjkikcpfaaGreatDoor
open Go.RowKit Go.ChangeShapes Go.WideShapes Go.ChangeAt

theorem door_witness {os : Os} {H : Type} {enc : TypeId × Value → H} {f : FuncId} {fn : Func} {s : OpenSpec} {laid : List (String × DataW Unit)} (n : Nat) (args : Array Value) {x : List (DataW H) × List (DataW H) × List MemPlace} (fuel : Nat)
    (hsh : ((World.doorLaid Tryz.prog n os).forCall (fun _ _ => 0) ⟨#[], args, []⟩).Shaped Tryz.prog)
    (hok : Input.okWideB Tryz.prog ((World.doorLaid Tryz.prog n os).forCall (fun _ _ => 0) ⟨#[], args, []⟩) f ⟨#[], args, []⟩ = true)
    (hx : DataW.whole enc Tryz.prog ((World.doorLaid Tryz.prog n os).forCall (fun _ _ => 0) ⟨#[], args, []⟩).memory fn.params.toList s.vars false args.toList fuel = some x)
    (hkk : ∀ k, s.cond = some k → k H (x.1 ++ x.2.1) = true)
    (hsz : s.bare.sizedB enc Tryz.prog fn false ((World.doorLaid Tryz.prog n os).forCall (fun _ _ => 0) ⟨#[], args, []⟩).memory args fuel = true)
    (hl : laidMetH Tryz.prog laid ((World.doorLaid Tryz.prog n os).forCall (fun _ _ => 0) ⟨#[], args, []⟩).memory) :
    ∃ (w : World) (tape : Tape) (i : Input), w.os = os ∧ (w.forCall tape i).Shaped Tryz.prog ∧ i.vars = [] ∧ Input.okWide Tryz.prog (w.forCall tape i) .any w.heap.size f i ∧
      s.preRow enc Tryz.prog fn [] false laid (w.forCall tape i).memory i.args ∧ ({} : Assume).holds Tryz.prog (lone (Frame.enter Tryz.prog f i.args .normal) [] (w.forCall tape i)) :=
  ⟨World.doorLaid Tryz.prog n os, fun _ _ => 0, ⟨#[], args, []⟩, rfl, hsh, (Input.okWide_of_okWideB (base := 0) hok).1, (Input.okWide_of_okWideB hok).2,
    OpenSpec.preRow_of_cond fuel hx rfl hkk hsz hl, by
      simp [Assume.holds]⟩
theorem door_met (os : Os) (args : Array Value) : laidMetH Tryz.prog [("errors.errorType", Rows.laid_errors_errorType)] ((World.doorLaid Tryz.prog 16 os).forCall (fun _ _ => 0) ⟨#[], args, []⟩).memory :=
  laidMetH_of_parts (laidMet_nil _ _) (by kernel_rfl)
end Go.Proofs.YtfjippjkikcpfaaGreatDoor

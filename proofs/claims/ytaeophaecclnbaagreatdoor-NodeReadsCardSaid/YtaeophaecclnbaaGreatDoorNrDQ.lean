/- NodeReads: the row's statement. -/
import Derived.Test.YtaeophaecclnbaaGreatDoorMgY
import Derived.Test.YtaeophaecclnbaaGreatDoorNrFZ
namespace Go.Proofs.YtaeophaecclnbaaGreatDoor
namespace nodeReads
open Go.RowKit Go.ChangeShapes Go.WideShapes Go.ChangeAt
open Go.ChangeMaps (open_string)

theorem said : Rows.NodeReadsSaid :=
  OpenClaim.holds_of_cond 3 Tryz.f3 rfl rfl rfl rfl rfl rfl rfl ⟨rfl, rfl, rfl, rfl, rfl⟩ rfl rfl rfl rfl rfl (by kernel_rfl) Tryz.func3 jf_all
    (of_decide_eq_true (by kernel_rfl)) (by unfold Func.isWrapper; first | (rw [if_pos (by decide +kernel)]; kernel_rfl) | (rw [if_neg (by decide +kernel)]; exact ⟨rfl, rfl⟩))
    (fun os started H enc _ F => by rw [OpenClaim.pre_eq_preRow]; exact lifted os started H enc F)

end nodeReads
end Go.Proofs.YtaeophaecclnbaaGreatDoor

/- wakes() is true; the world below stays. -/
import Derived.Test.YtaeophaecclnbaaGreatDoorBase
import Derived.Test.YtaeophaecclnbaaGreatDoorMgN
import Derived.Test.YtaeophaecclnbaaGreatDoorProg
import Derived.KernelRfl
namespace Go.Proofs.YtaeophaecclnbaaGreatDoor
open Go Go.RowKit

def saysTrue : Option (SEnd × SW) → Bool
  | some (.ret (.bool b), _) => b
  | _ => false
theorem says_true {r : Option (SEnd × SW)} (h : saysTrue r = true) : ∃ S', r = some (.ret (.bool true), S') := by
  unfold saysTrue at h
  split at h
  · subst h; exact ⟨_, rfl⟩
  · cases h
set_option maxRecDepth 1000000 in
theorem wakes_runs : saysTrue (callE [] Tryz.prog 15 3000 ⟨15, .leaf⟩ 7 []) = true := by kernel_rfl
theorem wakes_mixed : Tryz.prog.follows .mixedOrders = true := by kernel_rfl
theorem wakes_any (w : World) : Calls Tryz.prog 7 #[] w (RetB (.bool true) w) := by
  obtain ⟨S', h⟩ := says_true wakes_runs
  refine (callsIn_wide.1 (closed_ok HooksOk.nil wakes_mixed h w 0)).mono ?_
  rintro e w' ⟨⟨E', he⟩, h1, h2, h3, h4, h5⟩
  cases e with
  | returned v =>
    have hv : VR E' (.bool true) v := he
    cases hv
    exact ⟨rfl, ⟨h3, h4, h5, h2, h1⟩⟩
  | panicked ch => exact he.elim
  | outgrown => exact he.elim
end Go.Proofs.YtaeophaecclnbaaGreatDoor

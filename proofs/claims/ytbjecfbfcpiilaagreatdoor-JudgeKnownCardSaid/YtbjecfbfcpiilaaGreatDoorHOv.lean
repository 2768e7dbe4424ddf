/- A call that is known: overtaken, whose steps over a map may come in either order. -/
import Derived.Test.YtbjecfbfcpiilaaGreatDoorExI
import Derived.Test.YtbjecfbfcpiilaaGreatDoorMxd
import Derived.Test.YtbjecfbfcpiilaaGreatDoorProg
import Derived.KernelRfl
namespace Go.Proofs.YtbjecfbfcpiilaaGreatDoor
open Go

set_option maxRecDepth 1000000 in
noncomputable def hk_Ov : HookE :=
  ⟨45, [.pointer (some ⟨2295,0,none⟩), .int .i64 1, .int .i64 2], 2479, [(2295, .cells [.slice (some ⟨2032,0,none⟩) 4 4, .map (some 2292), .map (some 2293), .map (some 2294)] 73 true), (2292, .map [⟨.agg #[.string ⟨#[98]⟩, .int .i64 1], .slice (some ⟨2346,0,none⟩) 1 4611686018427387905, 0⟩, ⟨.agg #[.string ⟨#[97]⟩, .int .i64 1], .slice (some ⟨2431,0,none⟩) 1 4611686018427387905, 1⟩] 2), (2346, .cells [.int .i64 0] 3 false), (2431, .cells [.int .i64 2] 3 false), (2294, .map [⟨.agg #[.string ⟨#[97]⟩, .int .i64 1], .int .i64 0, 0⟩, ⟨.agg #[.string ⟨#[98]⟩, .int .i64 1], .int .i64 2, 1⟩] 2)], .bool true, 2482, [(2295, .cells [.slice (some ⟨2032,0,none⟩) 4 4, .map (some 2292), .map (some 2293), .map (some 2294)] 73 true), (2292, .map [⟨.agg #[.string ⟨#[98]⟩, .int .i64 1], .slice (some ⟨2346,0,none⟩) 1 4611686018427387905, 0⟩, ⟨.agg #[.string ⟨#[97]⟩, .int .i64 1], .slice (some ⟨2431,0,none⟩) 1 4611686018427387905, 1⟩] 2), (2346, .cells [.int .i64 0] 3 false), (2431, .cells [.int .i64 2] 3 false), (2294, .map [⟨.agg #[.string ⟨#[97]⟩, .int .i64 1], .int .i64 0, 0⟩, ⟨.agg #[.string ⟨#[98]⟩, .int .i64 1], .int .i64 2, 1⟩] 2)]⟩
set_option maxRecDepth 1000000 in
theorem hk_Ov_test : hookTestN [] Tryz.prog 15 300 300 hk_Ov = true := by kernel_rfl
theorem hk_Ov_ok : HookOk Tryz.prog 15 hk_Ov := hookN_ok HooksOk.nil mixed_ok hk_Ov_test
end Go.Proofs.YtbjecfbfcpiilaaGreatDoor

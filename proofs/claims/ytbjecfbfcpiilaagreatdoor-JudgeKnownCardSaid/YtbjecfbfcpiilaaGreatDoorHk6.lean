/- Calls that are known: prompter/judge.Trace. -/
import Derived.Test.YtbjecfbfcpiilaaGreatDoorExF
import Derived.Test.YtbjecfbfcpiilaaGreatDoorProg
import Derived.KernelRfl
import Derived.Test.YtbjecfbfcpiilaaGreatDoorMxd
import Derived.Test.YtbjecfbfcpiilaaGreatDoorHAs
import Derived.Test.YtbjecfbfcpiilaaGreatDoorHOv
import Derived.Test.YtbjecfbfcpiilaaGreatDoorHk5
namespace Go.Proofs.YtbjecfbfcpiilaaGreatDoor
open Go

set_option maxRecDepth 1000000 in
noncomputable def hk_Hk16 : HookE :=
  ⟨4, [.string ⟨#[102, 108, 111, 119, 32, 102, 40, 41, 32, 123, 32, 114, 101, 116, 117, 114, 110, 32, 49, 32, 125]⟩, .int .i64 100, .slice (some ⟨2606,0,none⟩) 3 3], 2607, [(0, .cells [.iface 329 (.agg #[.pointer (some ⟨10,169,none⟩)])] 265 true), (2606, .cells [.int .u8 1, .int .i64 0, .string ⟨#[102]⟩, .slice (some ⟨2604,0,none⟩) 1 1, .int .i64 1, .int .u8 2, .int .i64 0, .string ⟨#[]⟩, .slice none 0 0, .int .i64 1, .int .u8 6, .int .i64 0, .string ⟨#[]⟩, .slice (some ⟨2605,0,none⟩) 1 1, .int .i64 0] 28 true), (2604, .cells [.int .u8 5, .int .i64 0, .int .i64 0, .string ⟨#[]⟩, .complex .f64 0 0] 24 true), (2605, .cells [.int .u8 2, .int .i64 0, .int .i64 1, .string ⟨#[]⟩, .complex .f64 0 0] 24 true)], .tuple #[.int .i64 3, .int .i64 0], 3313, [(0, .cells [.iface 329 (.agg #[.pointer (some ⟨10,169,none⟩)])] 265 true), (2606, .cells [.int .u8 1, .int .i64 0, .string ⟨#[102]⟩, .slice (some ⟨2604,0,none⟩) 1 1, .int .i64 1, .int .u8 2, .int .i64 0, .string ⟨#[]⟩, .slice none 0 0, .int .i64 1, .int .u8 6, .int .i64 0, .string ⟨#[]⟩, .slice (some ⟨2605,0,none⟩) 1 1, .int .i64 0] 28 true), (2604, .cells [.int .u8 5, .int .i64 0, .int .i64 0, .string ⟨#[]⟩, .complex .f64 0 0] 24 true), (2605, .cells [.int .u8 2, .int .i64 0, .int .i64 1, .string ⟨#[]⟩, .complex .f64 0 0] 24 true)]⟩
set_option maxRecDepth 1000000 in
theorem hk_Hk16_test : hookTest hk_Hk16 (callE [hk_Hk13, hk_Hk14, hk_Hk15, hk_As, hk_Ov] Tryz.prog 15 3000 ⟨hk_Hk16.n, putAll hk_Hk16.pre .leaf⟩ hk_Hk16.f hk_Hk16.args) = true := by kernel_rfl
theorem hk_Hk16_ok : HookOk Tryz.prog 15 hk_Hk16 := hook_of hk_Hk16_test fun _ _ h => callE_ok (HooksOk.cons hk_Hk13_ok (HooksOk.cons hk_Hk14_ok (HooksOk.cons hk_Hk15_ok (HooksOk.cons hk_As_ok (HooksOk.cons hk_Ov_ok HooksOk.nil))))) mixed_ok h
end Go.Proofs.YtbjecfbfcpiilaaGreatDoor

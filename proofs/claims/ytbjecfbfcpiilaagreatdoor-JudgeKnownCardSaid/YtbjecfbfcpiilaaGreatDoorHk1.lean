/- Calls that are known: prompter/parse.Flow, prompter/replay.Decide. -/
import Derived.Test.YtbjecfbfcpiilaaGreatDoorExF
import Derived.Test.YtbjecfbfcpiilaaGreatDoorProg
import Derived.KernelRfl
import Derived.Test.YtbjecfbfcpiilaaGreatDoorMxd
import Derived.Test.YtbjecfbfcpiilaaGreatDoorHAs
import Derived.Test.YtbjecfbfcpiilaaGreatDoorHOv
namespace Go.Proofs.YtbjecfbfcpiilaaGreatDoor
open Go

set_option maxRecDepth 1000000 in
noncomputable def hk_Hk1 : HookE :=
  ⟨9, [.string ⟨#[102, 108, 111, 119, 32, 102, 40, 41, 32, 123, 32, 114, 101, 116, 117, 114, 110, 32, 97, 119, 97, 105, 116, 32, 99, 97, 108, 108, 32, 112, 97, 121, 40, 49, 41, 32, 125]⟩], 21, [(0, .cells [.iface 329 (.agg #[.pointer (some ⟨10,169,none⟩)])] 265 true)], .tuple #[.slice (some ⟨129,0,none⟩) 6 4611686018427387908, .int .i64 0, .int .i64 0], 216, [(129, .cells [.int .u8 1, .int .i64 1, .int .i64 0, .string ⟨#[102]⟩, .int .u8 3, .int .i64 1, .int .i64 0, .string ⟨#[]⟩, .int .u8 8, .int .i64 1, .int .i64 0, .string ⟨#[]⟩, .int .u8 54, .int .i64 1, .int .i64 0, .string ⟨#[]⟩, .int .u8 50, .int .i64 1, .int .i64 0, .string ⟨#[112, 97, 121]⟩, .int .u8 23, .int .i64 0, .int .i64 1, .string ⟨#[]⟩] 92 false), (0, .cells [.iface 329 (.agg #[.pointer (some ⟨10,169,none⟩)])] 265 true)]⟩
set_option maxRecDepth 1000000 in
theorem hk_Hk1_test : hookTest hk_Hk1 (callE [hk_As, hk_Ov] Tryz.prog 15 3000 ⟨hk_Hk1.n, putAll hk_Hk1.pre .leaf⟩ hk_Hk1.f hk_Hk1.args) = true := by kernel_rfl
theorem hk_Hk1_ok : HookOk Tryz.prog 15 hk_Hk1 := hook_of hk_Hk1_test fun _ _ h => callE_ok (HooksOk.cons hk_As_ok (HooksOk.cons hk_Ov_ok HooksOk.nil)) mixed_ok h
set_option maxRecDepth 1000000 in
noncomputable def hk_Hk2 : HookE :=
  ⟨12, [.slice (some ⟨350,0,none⟩) 5 4611686018427387908, .int .i64 0, .int .i64 100, .slice (some ⟨18,0,none⟩) 3 3], 412, [(0, .cells [.iface 329 (.agg #[.pointer (some ⟨10,169,none⟩)])] 265 true), (350, .cells [.int .u8 23, .int .i64 0, .int .i64 1, .string ⟨#[]⟩, .int .u8 50, .int .i64 1, .int .i64 0, .string ⟨#[112, 97, 121]⟩, .int .u8 54, .int .i64 0, .int .i64 0, .string ⟨#[]⟩, .int .u8 8, .int .i64 0, .int .i64 0, .string ⟨#[]⟩, .int .u8 28, .int .i64 0, .int .i64 0, .string ⟨#[]⟩] 154 false), (18, .cells [.int .u8 1, .int .i64 0, .string ⟨#[102]⟩, .slice (some ⟨20,0,none⟩) 1 1, .int .i64 1, .int .u8 2, .int .i64 0, .string ⟨#[]⟩, .slice none 0 0, .int .i64 1, .int .u8 3, .int .i64 0, .string ⟨#[112, 97, 121]⟩, .slice (some ⟨15,0,none⟩) 2 2, .int .i64 0] 28 true), (20, .cells [.int .u8 5, .int .i64 0, .int .i64 0, .string ⟨#[]⟩, .complex .f64 0 0] 24 true), (15, .cells [.int .u8 5, .int .i64 1, .int .i64 0, .string ⟨#[]⟩, .complex .f64 0 0, .int .u8 2, .int .i64 0, .int .i64 1, .string ⟨#[]⟩, .complex .f64 0 0] 24 true)], .tuple #[.slice (some ⟨709,5,none⟩) 0 0, .int .i64 0, .int .i64 0], 712, [(709, .cells [.int .u8 3, .int .i64 0, .string ⟨#[112, 97, 121]⟩, .slice (some ⟨711,0,none⟩) 2 4611686018427387909, .int .i64 0] 28 false), (711, .cells [.int .u8 5, .int .i64 1, .int .i64 0, .string ⟨#[]⟩, .complex .f64 0 0, .int .u8 2, .int .i64 0, .int .i64 1, .string ⟨#[]⟩, .complex .f64 0 0] 24 false), (0, .cells [.iface 329 (.agg #[.pointer (some ⟨10,169,none⟩)])] 265 true), (350, .cells [.int .u8 23, .int .i64 0, .int .i64 1, .string ⟨#[]⟩, .int .u8 50, .int .i64 1, .int .i64 0, .string ⟨#[112, 97, 121]⟩, .int .u8 54, .int .i64 0, .int .i64 0, .string ⟨#[]⟩, .int .u8 8, .int .i64 0, .int .i64 0, .string ⟨#[]⟩, .int .u8 28, .int .i64 0, .int .i64 0, .string ⟨#[]⟩] 154 false), (18, .cells [.int .u8 1, .int .i64 0, .string ⟨#[102]⟩, .slice (some ⟨20,0,none⟩) 1 1, .int .i64 1, .int .u8 2, .int .i64 0, .string ⟨#[]⟩, .slice none 0 0, .int .i64 1, .int .u8 3, .int .i64 0, .string ⟨#[112, 97, 121]⟩, .slice (some ⟨15,0,none⟩) 2 2, .int .i64 0] 28 true), (20, .cells [.int .u8 5, .int .i64 0, .int .i64 0, .string ⟨#[]⟩, .complex .f64 0 0] 24 true), (15, .cells [.int .u8 5, .int .i64 1, .int .i64 0, .string ⟨#[]⟩, .complex .f64 0 0, .int .u8 2, .int .i64 0, .int .i64 1, .string ⟨#[]⟩, .complex .f64 0 0] 24 true)]⟩
set_option maxRecDepth 1000000 in
theorem hk_Hk2_test : hookTest hk_Hk2 (callE [hk_As, hk_Ov] Tryz.prog 15 3000 ⟨hk_Hk2.n, putAll hk_Hk2.pre .leaf⟩ hk_Hk2.f hk_Hk2.args) = true := by kernel_rfl
theorem hk_Hk2_ok : HookOk Tryz.prog 15 hk_Hk2 := hook_of hk_Hk2_test fun _ _ h => callE_ok (HooksOk.cons hk_As_ok (HooksOk.cons hk_Ov_ok HooksOk.nil)) mixed_ok h
end Go.Proofs.YtbjecfbfcpiilaaGreatDoor

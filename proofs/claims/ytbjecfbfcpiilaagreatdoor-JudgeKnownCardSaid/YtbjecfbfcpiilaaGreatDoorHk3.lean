/- Calls that are known: prompter/parse.Flow, prompter/replay.Decide. -/
import Derived.Test.YtbjecfbfcpiilaaGreatDoorExF
import Derived.Test.YtbjecfbfcpiilaaGreatDoorProg
import Derived.KernelRfl
import Derived.Test.YtbjecfbfcpiilaaGreatDoorMxd
import Derived.Test.YtbjecfbfcpiilaaGreatDoorHAs
import Derived.Test.YtbjecfbfcpiilaaGreatDoorHOv
namespace Go.Proofs.YtbjecfbfcpiilaaGreatDoor
open Go

set_option maxRecDepth 1000000 in
noncomputable def hk_Hk5 : HookE :=
  ⟨9, [.string ⟨#[102, 108, 111, 119, 32, 102, 40, 41, 32, 123, 32, 114, 101, 116, 117, 114, 110, 32, 97, 119, 97, 105, 116, 32, 99, 97, 108, 108, 32, 112, 97, 121, 40, 49, 41, 32, 125]⟩], 992, [(0, .cells [.iface 329 (.agg #[.pointer (some ⟨10,169,none⟩)])] 265 true)], .tuple #[.slice (some ⟨1100,0,none⟩) 6 4611686018427387908, .int .i64 0, .int .i64 0], 1187, [(1100, .cells [.int .u8 1, .int .i64 1, .int .i64 0, .string ⟨#[102]⟩, .int .u8 3, .int .i64 1, .int .i64 0, .string ⟨#[]⟩, .int .u8 8, .int .i64 1, .int .i64 0, .string ⟨#[]⟩, .int .u8 54, .int .i64 1, .int .i64 0, .string ⟨#[]⟩, .int .u8 50, .int .i64 1, .int .i64 0, .string ⟨#[112, 97, 121]⟩, .int .u8 23, .int .i64 0, .int .i64 1, .string ⟨#[]⟩] 92 false), (0, .cells [.iface 329 (.agg #[.pointer (some ⟨10,169,none⟩)])] 265 true)]⟩
set_option maxRecDepth 1000000 in
theorem hk_Hk5_test : hookTest hk_Hk5 (callE [hk_As, hk_Ov] Tryz.prog 15 3000 ⟨hk_Hk5.n, putAll hk_Hk5.pre .leaf⟩ hk_Hk5.f hk_Hk5.args) = true := by kernel_rfl
theorem hk_Hk5_ok : HookOk Tryz.prog 15 hk_Hk5 := hook_of hk_Hk5_test fun _ _ h => callE_ok (HooksOk.cons hk_As_ok (HooksOk.cons hk_Ov_ok HooksOk.nil)) mixed_ok h
set_option maxRecDepth 1000000 in
noncomputable def hk_Hk6 : HookE :=
  ⟨12, [.slice (some ⟨1321,0,none⟩) 5 4611686018427387908, .int .i64 0, .int .i64 100, .slice (some ⟨989,0,none⟩) 3 3], 1383, [(0, .cells [.iface 329 (.agg #[.pointer (some ⟨10,169,none⟩)])] 265 true), (1321, .cells [.int .u8 23, .int .i64 0, .int .i64 1, .string ⟨#[]⟩, .int .u8 50, .int .i64 1, .int .i64 0, .string ⟨#[112, 97, 121]⟩, .int .u8 54, .int .i64 0, .int .i64 0, .string ⟨#[]⟩, .int .u8 8, .int .i64 0, .int .i64 0, .string ⟨#[]⟩, .int .u8 28, .int .i64 0, .int .i64 0, .string ⟨#[]⟩] 154 false), (989, .cells [.int .u8 1, .int .i64 0, .string ⟨#[102]⟩, .slice (some ⟨991,0,none⟩) 1 1, .int .i64 1, .int .u8 2, .int .i64 0, .string ⟨#[]⟩, .slice none 0 0, .int .i64 1, .int .u8 3, .int .i64 0, .string ⟨#[112, 97, 121]⟩, .slice (some ⟨16,0,none⟩) 2 2, .int .i64 0] 28 true), (991, .cells [.int .u8 5, .int .i64 0, .int .i64 0, .string ⟨#[]⟩, .complex .f64 0 0] 24 true), (16, .cells [.int .u8 5, .int .i64 1, .int .i64 0, .string ⟨#[]⟩, .complex .f64 0 0, .int .u8 2, .int .i64 0, .int .i64 2, .string ⟨#[]⟩, .complex .f64 0 0] 24 true)], .tuple #[.slice none 0 0, .int .i64 2, .int .i64 180], 1679, [(0, .cells [.iface 329 (.agg #[.pointer (some ⟨10,169,none⟩)])] 265 true), (1321, .cells [.int .u8 23, .int .i64 0, .int .i64 1, .string ⟨#[]⟩, .int .u8 50, .int .i64 1, .int .i64 0, .string ⟨#[112, 97, 121]⟩, .int .u8 54, .int .i64 0, .int .i64 0, .string ⟨#[]⟩, .int .u8 8, .int .i64 0, .int .i64 0, .string ⟨#[]⟩, .int .u8 28, .int .i64 0, .int .i64 0, .string ⟨#[]⟩] 154 false), (989, .cells [.int .u8 1, .int .i64 0, .string ⟨#[102]⟩, .slice (some ⟨991,0,none⟩) 1 1, .int .i64 1, .int .u8 2, .int .i64 0, .string ⟨#[]⟩, .slice none 0 0, .int .i64 1, .int .u8 3, .int .i64 0, .string ⟨#[112, 97, 121]⟩, .slice (some ⟨16,0,none⟩) 2 2, .int .i64 0] 28 true), (991, .cells [.int .u8 5, .int .i64 0, .int .i64 0, .string ⟨#[]⟩, .complex .f64 0 0] 24 true), (16, .cells [.int .u8 5, .int .i64 1, .int .i64 0, .string ⟨#[]⟩, .complex .f64 0 0, .int .u8 2, .int .i64 0, .int .i64 2, .string ⟨#[]⟩, .complex .f64 0 0] 24 true)]⟩
set_option maxRecDepth 1000000 in
theorem hk_Hk6_test : hookTest hk_Hk6 (callE [hk_As, hk_Ov] Tryz.prog 15 3000 ⟨hk_Hk6.n, putAll hk_Hk6.pre .leaf⟩ hk_Hk6.f hk_Hk6.args) = true := by kernel_rfl
theorem hk_Hk6_ok : HookOk Tryz.prog 15 hk_Hk6 := hook_of hk_Hk6_test fun _ _ h => callE_ok (HooksOk.cons hk_As_ok (HooksOk.cons hk_Ov_ok HooksOk.nil)) mixed_ok h
end Go.Proofs.YtbjecfbfcpiilaaGreatDoor

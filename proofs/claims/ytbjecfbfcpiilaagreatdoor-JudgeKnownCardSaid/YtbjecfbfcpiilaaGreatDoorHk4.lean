/- Calls that are known: prompter/judge.Trace, prompter/parse.Flow, prompter/replay.Decide, prompter/judge.Trace. -/
import Derived.Test.YtbjecfbfcpiilaaGreatDoorExF
import Derived.Test.YtbjecfbfcpiilaaGreatDoorProg
import Derived.KernelRfl
import Derived.Test.YtbjecfbfcpiilaaGreatDoorMxd
import Derived.Test.YtbjecfbfcpiilaaGreatDoorHAs
import Derived.Test.YtbjecfbfcpiilaaGreatDoorHOv
import Derived.Test.YtbjecfbfcpiilaaGreatDoorHk3
namespace Go.Proofs.YtbjecfbfcpiilaaGreatDoor
open Go

set_option maxRecDepth 1000000 in
noncomputable def hk_Hk7 : HookE :=
  ⟨4, [.string ⟨#[102, 108, 111, 119, 32, 102, 40, 41, 32, 123, 32, 114, 101, 116, 117, 114, 110, 32, 97, 119, 97, 105, 116, 32, 99, 97, 108, 108, 32, 112, 97, 121, 40, 49, 41, 32, 125]⟩, .int .i64 100, .slice (some ⟨989,0,none⟩) 3 3], 992, [(0, .cells [.iface 329 (.agg #[.pointer (some ⟨10,169,none⟩)])] 265 true), (989, .cells [.int .u8 1, .int .i64 0, .string ⟨#[102]⟩, .slice (some ⟨991,0,none⟩) 1 1, .int .i64 1, .int .u8 2, .int .i64 0, .string ⟨#[]⟩, .slice none 0 0, .int .i64 1, .int .u8 3, .int .i64 0, .string ⟨#[112, 97, 121]⟩, .slice (some ⟨16,0,none⟩) 2 2, .int .i64 0] 28 true), (991, .cells [.int .u8 5, .int .i64 0, .int .i64 0, .string ⟨#[]⟩, .complex .f64 0 0] 24 true), (16, .cells [.int .u8 5, .int .i64 1, .int .i64 0, .string ⟨#[]⟩, .complex .f64 0 0, .int .u8 2, .int .i64 0, .int .i64 2, .string ⟨#[]⟩, .complex .f64 0 0] 24 true)], .tuple #[.int .i64 2, .int .i64 180], 1679, [(0, .cells [.iface 329 (.agg #[.pointer (some ⟨10,169,none⟩)])] 265 true), (989, .cells [.int .u8 1, .int .i64 0, .string ⟨#[102]⟩, .slice (some ⟨991,0,none⟩) 1 1, .int .i64 1, .int .u8 2, .int .i64 0, .string ⟨#[]⟩, .slice none 0 0, .int .i64 1, .int .u8 3, .int .i64 0, .string ⟨#[112, 97, 121]⟩, .slice (some ⟨16,0,none⟩) 2 2, .int .i64 0] 28 true), (991, .cells [.int .u8 5, .int .i64 0, .int .i64 0, .string ⟨#[]⟩, .complex .f64 0 0] 24 true), (16, .cells [.int .u8 5, .int .i64 1, .int .i64 0, .string ⟨#[]⟩, .complex .f64 0 0, .int .u8 2, .int .i64 0, .int .i64 2, .string ⟨#[]⟩, .complex .f64 0 0] 24 true)]⟩
set_option maxRecDepth 1000000 in
theorem hk_Hk7_test : hookTest hk_Hk7 (callE [hk_Hk5, hk_Hk6, hk_As, hk_Ov] Tryz.prog 15 3000 ⟨hk_Hk7.n, putAll hk_Hk7.pre .leaf⟩ hk_Hk7.f hk_Hk7.args) = true := by kernel_rfl
theorem hk_Hk7_ok : HookOk Tryz.prog 15 hk_Hk7 := hook_of hk_Hk7_test fun _ _ h => callE_ok (HooksOk.cons hk_Hk5_ok (HooksOk.cons hk_Hk6_ok (HooksOk.cons hk_As_ok (HooksOk.cons hk_Ov_ok HooksOk.nil)))) mixed_ok h
set_option maxRecDepth 1000000 in
noncomputable def hk_Hk8 : HookE :=
  ⟨9, [.string ⟨#[102, 108, 111, 119, 32, 102, 40, 41, 32, 123, 32, 114, 101, 116, 117, 114, 110, 32, 97, 119, 97, 105, 116, 32, 99, 97, 108, 108, 32, 112, 97, 121, 40, 49, 41, 32, 125]⟩], 1679, [(0, .cells [.iface 329 (.agg #[.pointer (some ⟨10,169,none⟩)])] 265 true)], .tuple #[.slice (some ⟨1787,0,none⟩) 6 4611686018427387908, .int .i64 0, .int .i64 0], 1874, [(1787, .cells [.int .u8 1, .int .i64 1, .int .i64 0, .string ⟨#[102]⟩, .int .u8 3, .int .i64 1, .int .i64 0, .string ⟨#[]⟩, .int .u8 8, .int .i64 1, .int .i64 0, .string ⟨#[]⟩, .int .u8 54, .int .i64 1, .int .i64 0, .string ⟨#[]⟩, .int .u8 50, .int .i64 1, .int .i64 0, .string ⟨#[112, 97, 121]⟩, .int .u8 23, .int .i64 0, .int .i64 1, .string ⟨#[]⟩] 92 false), (0, .cells [.iface 329 (.agg #[.pointer (some ⟨10,169,none⟩)])] 265 true)]⟩
set_option maxRecDepth 1000000 in
theorem hk_Hk8_test : hookTest hk_Hk8 (callE [hk_As, hk_Ov] Tryz.prog 15 3000 ⟨hk_Hk8.n, putAll hk_Hk8.pre .leaf⟩ hk_Hk8.f hk_Hk8.args) = true := by kernel_rfl
theorem hk_Hk8_ok : HookOk Tryz.prog 15 hk_Hk8 := hook_of hk_Hk8_test fun _ _ h => callE_ok (HooksOk.cons hk_As_ok (HooksOk.cons hk_Ov_ok HooksOk.nil)) mixed_ok h
set_option maxRecDepth 1000000 in
noncomputable def hk_Hk9 : HookE :=
  ⟨12, [.slice (some ⟨2008,0,none⟩) 5 4611686018427387908, .int .i64 0, .int .i64 100, .slice none 0 0], 2012, [(0, .cells [.iface 329 (.agg #[.pointer (some ⟨10,169,none⟩)])] 265 true), (2008, .cells [.int .u8 23, .int .i64 0, .int .i64 1, .string ⟨#[]⟩, .int .u8 50, .int .i64 1, .int .i64 0, .string ⟨#[112, 97, 121]⟩, .int .u8 54, .int .i64 0, .int .i64 0, .string ⟨#[]⟩, .int .u8 8, .int .i64 0, .int .i64 0, .string ⟨#[]⟩, .int .u8 28, .int .i64 0, .int .i64 0, .string ⟨#[]⟩] 154 false)], .tuple #[.slice none 0 0, .int .i64 0, .int .i64 3], 2015, [(0, .cells [.iface 329 (.agg #[.pointer (some ⟨10,169,none⟩)])] 265 true), (2008, .cells [.int .u8 23, .int .i64 0, .int .i64 1, .string ⟨#[]⟩, .int .u8 50, .int .i64 1, .int .i64 0, .string ⟨#[112, 97, 121]⟩, .int .u8 54, .int .i64 0, .int .i64 0, .string ⟨#[]⟩, .int .u8 8, .int .i64 0, .int .i64 0, .string ⟨#[]⟩, .int .u8 28, .int .i64 0, .int .i64 0, .string ⟨#[]⟩] 154 false)]⟩
set_option maxRecDepth 1000000 in
theorem hk_Hk9_test : hookTest hk_Hk9 (callE [hk_As, hk_Ov] Tryz.prog 15 3000 ⟨hk_Hk9.n, putAll hk_Hk9.pre .leaf⟩ hk_Hk9.f hk_Hk9.args) = true := by kernel_rfl
theorem hk_Hk9_ok : HookOk Tryz.prog 15 hk_Hk9 := hook_of hk_Hk9_test fun _ _ h => callE_ok (HooksOk.cons hk_As_ok (HooksOk.cons hk_Ov_ok HooksOk.nil)) mixed_ok h
set_option maxRecDepth 1000000 in
noncomputable def hk_Hk10 : HookE :=
  ⟨4, [.string ⟨#[102, 108, 111, 119, 32, 102, 40, 41, 32, 123, 32, 114, 101, 116, 117, 114, 110, 32, 97, 119, 97, 105, 116, 32, 99, 97, 108, 108, 32, 112, 97, 121, 40, 49, 41, 32, 125]⟩, .int .i64 100, .slice none 0 0], 1679, [(0, .cells [.iface 329 (.agg #[.pointer (some ⟨10,169,none⟩)])] 265 true)], .tuple #[.int .i64 0, .int .i64 3], 2015, [(0, .cells [.iface 329 (.agg #[.pointer (some ⟨10,169,none⟩)])] 265 true)]⟩
set_option maxRecDepth 1000000 in
theorem hk_Hk10_test : hookTest hk_Hk10 (callE [hk_Hk8, hk_Hk9, hk_As, hk_Ov] Tryz.prog 15 3000 ⟨hk_Hk10.n, putAll hk_Hk10.pre .leaf⟩ hk_Hk10.f hk_Hk10.args) = true := by kernel_rfl
theorem hk_Hk10_ok : HookOk Tryz.prog 15 hk_Hk10 := hook_of hk_Hk10_test fun _ _ h => callE_ok (HooksOk.cons hk_Hk8_ok (HooksOk.cons hk_Hk9_ok (HooksOk.cons hk_As_ok (HooksOk.cons hk_Ov_ok HooksOk.nil)))) mixed_ok h
end Go.Proofs.YtbjecfbfcpiilaaGreatDoor

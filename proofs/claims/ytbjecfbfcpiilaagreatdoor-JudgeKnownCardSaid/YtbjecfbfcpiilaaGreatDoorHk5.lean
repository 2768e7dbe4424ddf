/- Calls that are known: prompter/parse.Flow, prompter/judge.Trace, prompter/parse.Flow, prompter/replay.Decide, prompter/judge.walked. -/
import Derived.Test.YtbjecfbfcpiilaaGreatDoorExF
import Derived.Test.YtbjecfbfcpiilaaGreatDoorProg
import Derived.KernelRfl
import Derived.Test.YtbjecfbfcpiilaaGreatDoorMxd
import Derived.Test.YtbjecfbfcpiilaaGreatDoorHAs
import Derived.Test.YtbjecfbfcpiilaaGreatDoorHOv
namespace Go.Proofs.YtbjecfbfcpiilaaGreatDoor
open Go

set_option maxRecDepth 1000000 in
noncomputable def hk_Hk11 : HookE :=
  ⟨9, [.string ⟨#[120]⟩], 2018, [(0, .cells [.iface 329 (.agg #[.pointer (some ⟨10,169,none⟩)])] 265 true)], .tuple #[.slice none 0 0, .int .i64 0, .int .i64 9], 2027, [(0, .cells [.iface 329 (.agg #[.pointer (some ⟨10,169,none⟩)])] 265 true)]⟩
set_option maxRecDepth 1000000 in
theorem hk_Hk11_test : hookTest hk_Hk11 (callE [hk_As, hk_Ov] Tryz.prog 15 3000 ⟨hk_Hk11.n, putAll hk_Hk11.pre .leaf⟩ hk_Hk11.f hk_Hk11.args) = true := by kernel_rfl
theorem hk_Hk11_ok : HookOk Tryz.prog 15 hk_Hk11 := hook_of hk_Hk11_test fun _ _ h => callE_ok (HooksOk.cons hk_As_ok (HooksOk.cons hk_Ov_ok HooksOk.nil)) mixed_ok h
set_option maxRecDepth 1000000 in
noncomputable def hk_Hk12 : HookE :=
  ⟨4, [.string ⟨#[120]⟩, .int .i64 100, .slice (some ⟨2017,0,none⟩) 1 1], 2018, [(0, .cells [.iface 329 (.agg #[.pointer (some ⟨10,169,none⟩)])] 265 true), (2017, .cells [.int .u8 1, .int .i64 0, .string ⟨#[102]⟩, .slice (some ⟨2016,0,none⟩) 1 1, .int .i64 1] 28 true), (2016, .cells [.int .u8 5, .int .i64 0, .int .i64 0, .string ⟨#[]⟩, .complex .f64 0 0] 24 true)], .tuple #[.int .i64 0, .int .i64 9], 2027, [(0, .cells [.iface 329 (.agg #[.pointer (some ⟨10,169,none⟩)])] 265 true), (2017, .cells [.int .u8 1, .int .i64 0, .string ⟨#[102]⟩, .slice (some ⟨2016,0,none⟩) 1 1, .int .i64 1] 28 true), (2016, .cells [.int .u8 5, .int .i64 0, .int .i64 0, .string ⟨#[]⟩, .complex .f64 0 0] 24 true)]⟩
set_option maxRecDepth 1000000 in
theorem hk_Hk12_test : hookTest hk_Hk12 (callE [hk_Hk11, hk_As, hk_Ov] Tryz.prog 15 3000 ⟨hk_Hk12.n, putAll hk_Hk12.pre .leaf⟩ hk_Hk12.f hk_Hk12.args) = true := by kernel_rfl
theorem hk_Hk12_ok : HookOk Tryz.prog 15 hk_Hk12 := hook_of hk_Hk12_test fun _ _ h => callE_ok (HooksOk.cons hk_Hk11_ok (HooksOk.cons hk_As_ok (HooksOk.cons hk_Ov_ok HooksOk.nil))) mixed_ok h
set_option maxRecDepth 1000000 in
noncomputable def hk_Hk13 : HookE :=
  ⟨9, [.string ⟨#[102, 108, 111, 119, 32, 102, 40, 41, 32, 123, 32, 114, 101, 116, 117, 114, 110, 32, 49, 32, 125]⟩], 2607, [(0, .cells [.iface 329 (.agg #[.pointer (some ⟨10,169,none⟩)])] 265 true)], .tuple #[.slice (some ⟨2672,0,none⟩) 4 4611686018427387908, .int .i64 0, .int .i64 0], 2751, [(2672, .cells [.int .u8 1, .int .i64 1, .int .i64 0, .string ⟨#[102]⟩, .int .u8 3, .int .i64 1, .int .i64 0, .string ⟨#[]⟩, .int .u8 8, .int .i64 1, .int .i64 0, .string ⟨#[]⟩, .int .u8 23, .int .i64 0, .int .i64 1, .string ⟨#[]⟩] 92 false), (0, .cells [.iface 329 (.agg #[.pointer (some ⟨10,169,none⟩)])] 265 true)]⟩
set_option maxRecDepth 1000000 in
theorem hk_Hk13_test : hookTest hk_Hk13 (callE [hk_As, hk_Ov] Tryz.prog 15 3000 ⟨hk_Hk13.n, putAll hk_Hk13.pre .leaf⟩ hk_Hk13.f hk_Hk13.args) = true := by kernel_rfl
theorem hk_Hk13_ok : HookOk Tryz.prog 15 hk_Hk13 := hook_of hk_Hk13_test fun _ _ h => callE_ok (HooksOk.cons hk_As_ok (HooksOk.cons hk_Ov_ok HooksOk.nil)) mixed_ok h
set_option maxRecDepth 1000000 in
noncomputable def hk_Hk14 : HookE :=
  ⟨12, [.slice (some ⟨2863,0,none⟩) 3 4611686018427387908, .int .i64 0, .int .i64 100, .slice (some ⟨2606,0,none⟩) 3 3], 2919, [(0, .cells [.iface 329 (.agg #[.pointer (some ⟨10,169,none⟩)])] 265 true), (2863, .cells [.int .u8 23, .int .i64 0, .int .i64 1, .string ⟨#[]⟩, .int .u8 8, .int .i64 0, .int .i64 0, .string ⟨#[]⟩, .int .u8 28, .int .i64 0, .int .i64 0, .string ⟨#[]⟩] 154 false), (2606, .cells [.int .u8 1, .int .i64 0, .string ⟨#[102]⟩, .slice (some ⟨2604,0,none⟩) 1 1, .int .i64 1, .int .u8 2, .int .i64 0, .string ⟨#[]⟩, .slice none 0 0, .int .i64 1, .int .u8 6, .int .i64 0, .string ⟨#[]⟩, .slice (some ⟨2605,0,none⟩) 1 1, .int .i64 0] 28 true), (2604, .cells [.int .u8 5, .int .i64 0, .int .i64 0, .string ⟨#[]⟩, .complex .f64 0 0] 24 true), (2605, .cells [.int .u8 2, .int .i64 0, .int .i64 1, .string ⟨#[]⟩, .complex .f64 0 0] 24 true)], .tuple #[.slice (some ⟨3116,5,none⟩) 0 0, .int .i64 0, .int .i64 0], 3119, [(3116, .cells [.int .u8 6, .int .i64 0, .string ⟨#[]⟩, .slice (some ⟨3118,0,none⟩) 1 4611686018427387909, .int .i64 0] 28 false), (3118, .cells [.int .u8 2, .int .i64 0, .int .i64 1, .string ⟨#[]⟩, .complex .f64 0 0] 24 false), (0, .cells [.iface 329 (.agg #[.pointer (some ⟨10,169,none⟩)])] 265 true), (2863, .cells [.int .u8 23, .int .i64 0, .int .i64 1, .string ⟨#[]⟩, .int .u8 8, .int .i64 0, .int .i64 0, .string ⟨#[]⟩, .int .u8 28, .int .i64 0, .int .i64 0, .string ⟨#[]⟩] 154 false), (2606, .cells [.int .u8 1, .int .i64 0, .string ⟨#[102]⟩, .slice (some ⟨2604,0,none⟩) 1 1, .int .i64 1, .int .u8 2, .int .i64 0, .string ⟨#[]⟩, .slice none 0 0, .int .i64 1, .int .u8 6, .int .i64 0, .string ⟨#[]⟩, .slice (some ⟨2605,0,none⟩) 1 1, .int .i64 0] 28 true), (2604, .cells [.int .u8 5, .int .i64 0, .int .i64 0, .string ⟨#[]⟩, .complex .f64 0 0] 24 true), (2605, .cells [.int .u8 2, .int .i64 0, .int .i64 1, .string ⟨#[]⟩, .complex .f64 0 0] 24 true)]⟩
set_option maxRecDepth 1000000 in
theorem hk_Hk14_test : hookTest hk_Hk14 (callE [hk_As, hk_Ov] Tryz.prog 15 3000 ⟨hk_Hk14.n, putAll hk_Hk14.pre .leaf⟩ hk_Hk14.f hk_Hk14.args) = true := by kernel_rfl
theorem hk_Hk14_ok : HookOk Tryz.prog 15 hk_Hk14 := hook_of hk_Hk14_test fun _ _ h => callE_ok (HooksOk.cons hk_As_ok (HooksOk.cons hk_Ov_ok HooksOk.nil)) mixed_ok h
set_option maxRecDepth 1000000 in
noncomputable def hk_Hk15 : HookE :=
  ⟨13, [.slice (some ⟨2672,0,none⟩) 4 4611686018427387908, .int .i64 100, .slice (some ⟨2606,0,none⟩) 3 3], 3119, [(0, .cells [.iface 329 (.agg #[.pointer (some ⟨10,169,none⟩)])] 265 true), (2672, .cells [.int .u8 1, .int .i64 1, .int .i64 0, .string ⟨#[102]⟩, .int .u8 3, .int .i64 1, .int .i64 0, .string ⟨#[]⟩, .int .u8 8, .int .i64 1, .int .i64 0, .string ⟨#[]⟩, .int .u8 23, .int .i64 0, .int .i64 1, .string ⟨#[]⟩] 92 false), (2606, .cells [.int .u8 1, .int .i64 0, .string ⟨#[102]⟩, .slice (some ⟨2604,0,none⟩) 1 1, .int .i64 1, .int .u8 2, .int .i64 0, .string ⟨#[]⟩, .slice none 0 0, .int .i64 1, .int .u8 6, .int .i64 0, .string ⟨#[]⟩, .slice (some ⟨2605,0,none⟩) 1 1, .int .i64 0] 28 true), (2604, .cells [.int .u8 5, .int .i64 0, .int .i64 0, .string ⟨#[]⟩, .complex .f64 0 0] 24 true), (2605, .cells [.int .u8 2, .int .i64 0, .int .i64 1, .string ⟨#[]⟩, .complex .f64 0 0] 24 true)], .tuple #[.slice (some ⟨3302,0,none⟩) 1 4611686018427387909, .int .i64 0], 3303, [(3302, .cells [.int .u8 6, .int .i64 0, .string ⟨#[]⟩, .slice (some ⟨3300,0,none⟩) 1 4611686018427387909, .int .i64 0] 28 false), (3300, .cells [.int .u8 2, .int .i64 0, .int .i64 1, .string ⟨#[]⟩, .complex .f64 0 0] 24 false), (0, .cells [.iface 329 (.agg #[.pointer (some ⟨10,169,none⟩)])] 265 true), (2672, .cells [.int .u8 1, .int .i64 1, .int .i64 0, .string ⟨#[102]⟩, .int .u8 3, .int .i64 1, .int .i64 0, .string ⟨#[]⟩, .int .u8 8, .int .i64 1, .int .i64 0, .string ⟨#[]⟩, .int .u8 23, .int .i64 0, .int .i64 1, .string ⟨#[]⟩] 92 false), (2606, .cells [.int .u8 1, .int .i64 0, .string ⟨#[102]⟩, .slice (some ⟨2604,0,none⟩) 1 1, .int .i64 1, .int .u8 2, .int .i64 0, .string ⟨#[]⟩, .slice none 0 0, .int .i64 1, .int .u8 6, .int .i64 0, .string ⟨#[]⟩, .slice (some ⟨2605,0,none⟩) 1 1, .int .i64 0] 28 true), (2604, .cells [.int .u8 5, .int .i64 0, .int .i64 0, .string ⟨#[]⟩, .complex .f64 0 0] 24 true), (2605, .cells [.int .u8 2, .int .i64 0, .int .i64 1, .string ⟨#[]⟩, .complex .f64 0 0] 24 true)]⟩
set_option maxRecDepth 1000000 in
theorem hk_Hk15_test : hookTest hk_Hk15 (callE [hk_As, hk_Ov] Tryz.prog 15 3000 ⟨hk_Hk15.n, putAll hk_Hk15.pre .leaf⟩ hk_Hk15.f hk_Hk15.args) = true := by kernel_rfl
theorem hk_Hk15_ok : HookOk Tryz.prog 15 hk_Hk15 := hook_of hk_Hk15_test fun _ _ h => callE_ok (HooksOk.cons hk_As_ok (HooksOk.cons hk_Ov_ok HooksOk.nil)) mixed_ok h
end Go.Proofs.YtbjecfbfcpiilaaGreatDoor

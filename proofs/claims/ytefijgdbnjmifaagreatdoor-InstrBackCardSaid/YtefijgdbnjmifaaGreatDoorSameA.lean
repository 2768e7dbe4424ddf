/- The reference's comparison of code, walked: the same code is the same. -/
import Derived.Test.YtefijgdbnjmifaaGreatDoorBase
import Derived.Test.YtefijgdbnjmifaaGreatDoorInsV
import Derived.Laws.StructEq
import Derived.Deep.QuietTactic
import Derived.BigQuiet
namespace Go.Proofs.YtefijgdbnjmifaaGreatDoor
open Go.RowKit

theorem ins_same (w : World) (op a int : Int) (text : ByteArray) :
    (binOp .neq 40 (.agg #[.int .u8 op, .int .i64 a, .int .i64 int, .string text]) (.agg #[.int .u8 op, .int .i64 a, .int .i64 int, .string text])).run Tryz.prog w = .ok (.bool false) w := by
  simp [go_sem]
set_option maxRecDepth 100000 in
set_option maxHeartbeats 1000000 in
theorem same_any {w : World} {A B : Option Addr} {n cc dc : Nat} {c : List InsV} (ha : CodeIn w A c) (hb : CodeIn w B c) (hl : c.length = n) (hn : n ≤ 9223372036854775807) :
    Calls Tryz.prog 11 #[.slice A n cc, .slice B n dc] w (RetB (.bool true) w) := by
  have heq : ((n : Int) != (n : Int)) = false := by simp
  have HA := Lib.hid ha
  have HB := Lib.hid hb
  have HL := Lib.hid hl
  have HS := Lib.hid ins_same
  clear ha hb hl
  go_enter Tryz.func11, Tryz.ntmps11
  go_wp2_with fail
  go_loopw [5] (fun i wr => ∃ (k q : Nat), i = .int .i64 k ∧ k ≤ n ∧ wr = w.drewN q) (fun i _ => n - (intOf i).toNat)
  case atStart => exact ⟨0, 0, rfl, Nat.zero_le _, rfl⟩
  case round =>
    obtain ⟨k, q, rfl, hk, rfl⟩ := hrel
    by_cases hlt : k < n
    · obtain ⟨b1, o1, rfl, hb1, hc1⟩ := HA.out (by rw [HL.out]; omega)
      obtain ⟨b2, o2, rfl, hb2, hc2⟩ := HB.out (by rw [HL.out]; omega)
      obtain ⟨c0, c1, c2, c3⟩ := hc1 k (by rw [HL.out]; exact hlt)
      obtain ⟨d0, d1, d2, d3⟩ := hc2 k (by rw [HL.out]; exact hlt)
      have hS := HS.out
      clear hc1 hc2
      generalize atV c k = x at *
      have p0 : (0 : Int) ≤ (k : Int) := by omega
      have p1 : (k : Int) < (n : Int) := by omega
      go_wp2_with fail
      go_quiet (fail)
      go_wp2_with fail
      go_roundw
      case rel => exact ⟨k + 1, _, by go_num, by omega, rfl⟩
      case measure => simp [intOf]; omega
    · go_wp2_with fail
      go_ret
      exact ⟨rfl, below_drewN (Below.refl _ _) q⟩
end Go.Proofs.YtefijgdbnjmifaaGreatDoor
namespace Go.Proofs.YtefijgdbnjmifaaGreatDoor
open Go.RowKit
end Go.Proofs.YtefijgdbnjmifaaGreatDoor

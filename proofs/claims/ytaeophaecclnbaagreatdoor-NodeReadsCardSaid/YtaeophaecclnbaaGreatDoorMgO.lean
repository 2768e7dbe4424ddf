/- The program follows any order: one closed fact. Which fields events of a kind have: the program's table, by the executor at each of the 256 kinds. -/
import Derived.Test.YtaeophaecclnbaaGreatDoorProg
import Derived.KernelRfl
import Derived.Orders
import Derived.Test.YtaeophaecclnbaaGreatDoorBase
import Derived.Test.YtaeophaecclnbaaGreatDoorMgD
import Derived.Test.YtaeophaecclnbaaGreatDoorMgN
import Derived.Deep.QuietTactic
import Derived.BigQuiet
import Derived.Deep.WholeRow
import Derived.Deep.RegionHeld3
namespace Go.Proofs.YtaeophaecclnbaaGreatDoor
open Go
theorem mixed_ok : Tryz.prog.follows .mixedOrders = true := by kernel_rfl
end Go.Proofs.YtaeophaecclnbaaGreatDoor
namespace Go.Proofs.YtaeophaecclnbaaGreatDoor
open Go Go.RowKit

def fieldsV (k : Nat) : Value := .agg #[.bool (decide (1 ≤ k) && decide (k ≤ 12)), .bool (idK k), .bool (nameK k), .bool (listK k), .bool (valueK k), .bool (intK k), .int .i64 (leastK k), .int .i64 (mostK k)]
noncomputable def fieldsT (k : Nat) : Bool :=
  match callE [] Tryz.prog 1 300 ⟨1, .leaf⟩ 117 [.int .u8 (k : Int)] with
  | some (.ret v, _) => valEq PD v (fieldsV k)
  | _ => false
set_option maxRecDepth 1000000 in
theorem fields_run : ((List.range 13).all fieldsT) = true := by kernel_rfl
theorem fields_low (k : Nat) (hk : k < 13) (w : World) : Calls Tryz.prog 117 #[.int .u8 (k : Int)] w (RetB (fieldsV k) w) := by
  have h := List.all_eq_true.1 fields_run k (List.mem_range.2 hk)
  unfold fieldsT at h
  split at h
  · rename_i v S hr
    have e := valEq_ok _ _ _ h
    subst e
    refine (callsIn_wide.1 (callE_ok HooksOk.nil mixed_ok hr _ w _ w #[.int .u8 (k : Int)] 0 (start_sat 1 w) (LR.cons (.int _ _) LR.nil))).mono ?_
    rintro e w' ⟨E', hE, hn, hs, he⟩
    cases e with
    | returned v =>
      have hv : VR E' (fieldsV k) v := he
      have hp : plainV PD (fieldsV k) = true := rfl
      have := plain_eq PD _ _ hp hv
      subst this
      exact ⟨rfl, ⟨hs.os, hs.tape, hs.output, hs.size, fun i hi => (hs.far i _ (Array.getElem?_eq_getElem hi)).trans (Array.getElem?_eq_getElem hi).symm⟩⟩
    | panicked ch => exact he.elim
    | outgrown => exact he.elim
  · cases h
def hasNo : Value := .agg #[.bool false, .bool false, .bool false, .bool false, .bool false, .bool false, .int .i64 0, .int .i64 0]
set_option maxRecDepth 100000 in
set_option maxHeartbeats 4000000 in
theorem fields_big (k : Nat) (hk : 13 ≤ k) (hk2 : k < 256) (w : World) : Calls Tryz.prog 117 #[.int .u8 (k : Int)] w (RetB hasNo w) := by
  go_enter Tryz.func117, Tryz.ntmps117
  go_wp2_with fail
  generalize Array.setIfInBounds _ _ _ = T
  generalize hB : List.set _ _ _ = L
  have hTs : L.length = 104 := by rw [← hB]; kernel_rfl
  have hT1 : L.all (·.oneCell') = true := by rw [← hB]; kernel_rfl
  have hst := run_storeCells_new (P := Tryz.prog) (w.alloc (.cells #[.bool false, .bool false, .bool false, .bool false, .bool false, .bool false, .int .i64 0, .int .i64 0] 214)) 259 Tryz.zeroCells259 L.toArray (by rw [List.size_toArray, hTs]; kernel_rfl) (by rw [show L.toArray.size = 104 from hTs]; kernel_rfl) (by simpa using hT1)
  simp only [World.size_alloc] at hst
  clear hB hT1
  rw [hst]
  go_wp2_with fail
  refine bodyPost_ret (v := hasNo) (by simp [results, Tryz.results117, go_sem]; rfl) rfl ⟨rfl, by go_grown⟩
theorem fields_none {k : Nat} (hk : 13 ≤ k) : fieldsV k = hasNo := by
  have h1 : ¬ k ≤ 12 := by omega
  have h : ∀ j, j ≤ 12 → ¬ k = j := fun j hj => by omega
  unfold fieldsV hasNo idK nameK listK valueK intK leastK mostK
  simp [h1, h 1 (by omega), h 2 (by omega), h 3 (by omega), h 4 (by omega), h 5 (by omega), h 6 (by omega), h 7 (by omega), h 8 (by omega), h 9 (by omega), h 10 (by omega), h 11 (by omega), h 12 (by omega)]
theorem fields_any (k : Nat) (hk : k < 256) (w : World) : Calls Tryz.prog 117 #[.int .u8 (k : Int)] w (RetB (fieldsV k) w) := by
  by_cases h : k < 13
  · exact fields_low k h w
  · rw [fields_none (by omega)]
    exact fields_big k (by omega) hk w
end Go.Proofs.YtaeophaecclnbaaGreatDoor

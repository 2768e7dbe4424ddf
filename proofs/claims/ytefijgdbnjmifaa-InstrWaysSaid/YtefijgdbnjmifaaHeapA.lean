/- What stands ahead of what, walked. -/
import Derived.Test.YtefijgdbnjmifaaBase
import Derived.Test.YtefijgdbnjmifaaSlices
import Derived.Deep.RegionHeld3
namespace Go.Proofs.Ytefijgdbnjmifaa
open Go.RowKit

def cmpI (a b : Int) : Int := if a < b then -1 else if b < a then 1 else 0
def orI (a b : Int) : Int := if a = 0 then b else a
theorem cmpI_lt {a b : Int} (h : a < b) : cmpI a b = -1 := if_pos h
theorem cmpI_gt {a b : Int} (h : b < a) : cmpI a b = 1 := by unfold cmpI; rw [if_neg (by omega), if_pos h]
theorem cmpI_eq {a b : Int} (h : ¬ a < b) (h' : ¬ b < a) : cmpI a b = 0 := by unfold cmpI; rw [if_neg h, if_neg h']

theorem compare64 (a b : Int) (w : World) : Calls Try.prog 68 #[.int .i64 a, .int .i64 b] w (Ret (.int .i64 (cmpI a b)) w) := by
  go_enter Try.func68, Try.ntmps68
  go_wp2
  all_goals
    go_ret
    exact ⟨ret_int (by first | exact (cmpI_lt (by assumption)).symm | exact (cmpI_gt (by assumption)).symm | exact (cmpI_eq (by omega) (by omega)).symm), rfl⟩
theorem compareI (a b : Int) (w : World) : Calls Try.prog 69 #[.int .i64 a, .int .i64 b] w (Ret (.int .i64 (cmpI a b)) w) := by
  go_enter Try.func69, Try.ntmps69
  go_wp2
  all_goals
    go_ret
    exact ⟨ret_int (by first | exact (cmpI_lt (by assumption)).symm | exact (cmpI_gt (by assumption)).symm | exact (cmpI_eq (by omega) (by omega)).symm), rfl⟩
theorem or_first (b off : Nat) (x y : Int) (w : World) (h0 : w.cell? ⟨b, off, none⟩ = some (.int .i64 x)) (hx : (x != 0) = true) : Calls Try.prog 67 #[.slice (some ⟨b, off, none⟩) 2 2] w (Ret (.int .i64 (orI x y)) w) := by
  have E := Lib.hid (show x = orI x y from (if_neg (by simpa using hx)).symm)
  go_enter Try.func67, Try.ntmps67
  go_wp2
  refine wp_loop_rounds 3 ?_
  rw [rounds_succ]
  go_wp2
  go_ret
  exact ⟨ret_int E.out, rfl⟩
theorem or_second (b off : Nat) (x y : Int) (w : World) (h0 : w.cell? ⟨b, off, none⟩ = some (.int .i64 x)) (h1 : w.cell? ⟨b, off + 1, none⟩ = some (.int .i64 y)) (hx : (x != 0) = false) (hy : (y != 0) = true) : Calls Try.prog 67 #[.slice (some ⟨b, off, none⟩) 2 2] w (Ret (.int .i64 (orI x y)) w) := by
  have E := Lib.hid (show y = orI x y from (if_pos (by simpa using hx)).symm)
  go_enter Try.func67, Try.ntmps67
  go_wp2
  refine wp_loop_rounds 3 ?_
  rw [rounds_succ]
  go_wp2
  rw [rounds_succ]
  go_wp2
  go_ret
  exact ⟨ret_int E.out, rfl⟩
theorem or_none (b off : Nat) (x y : Int) (w : World) (h0 : w.cell? ⟨b, off, none⟩ = some (.int .i64 x)) (h1 : w.cell? ⟨b, off + 1, none⟩ = some (.int .i64 y)) (hx : (x != 0) = false) (hy : (y != 0) = false) : Calls Try.prog 67 #[.slice (some ⟨b, off, none⟩) 2 2] w (Ret (.int .i64 (orI x y)) w) := by
  have E := Lib.hid (show 0 = orI x y from by unfold orI; rw [if_pos (by simpa using hx)]; exact (by simpa using hy : y = 0).symm)
  go_enter Try.func67, Try.ntmps67
  go_wp2
  refine wp_loop_rounds 3 ?_
  rw [rounds_succ]
  go_wp2
  rw [rounds_succ]
  go_wp2
  rw [rounds_succ]
  go_wp2
  go_ret
  exact ⟨ret_int E.out, rfl⟩
theorem or_two (b off : Nat) (x y : Int) (w : World) (h0 : w.cell? ⟨b, off, none⟩ = some (.int .i64 x)) (h1 : w.cell? ⟨b, off + 1, none⟩ = some (.int .i64 y)) : Calls Try.prog 67 #[.slice (some ⟨b, off, none⟩) 2 2] w (Ret (.int .i64 (orI x y)) w) := by
  cases hx : (x != 0) with
  | true => exact or_first b off x y w h0 hx
  | false =>
    cases hy : (y != 0) with
    | true => exact or_second b off x y w h0 h1 hx hy
    | false => exact or_none b off x y w h0 h1 hx hy
/-- A thing: its key, its number, its value. -/
structure Thing where
  key : Int
  num : Int
  v : Int
def Thing.val (t : Thing) : Value := .agg #[.int .i64 t.key, .int .i64 t.num, .int .i64 t.v]
def Thing.cells (t : Thing) : List Value := [.int .i64 t.key, .int .i64 t.num, .int .i64 t.v]
def aheadI (a b : Thing) : Int := orI (cmpI a.key b.key) (cmpI a.num b.num)
theorem ahead_any (a b : Thing) (w : World) : Calls Try.prog 66 #[a.val, b.val] w (RetB (.int .i64 (aheadI a b)) w) := by
  obtain ⟨ak, an, av⟩ := a
  obtain ⟨bk, bn, bv⟩ := b
  simp only [Thing.val]
  go_enter Try.func66, Try.ntmps66
  go_wp2_with fail
  go_region_held3 (fun w' => w'.cell? ⟨w.heap.size, 0, none⟩ = some (.int .i64 ak) ∧ w'.cell? ⟨w.heap.size, 1, none⟩ = some (.int .i64 an) ∧ w'.cell? ⟨w.heap.size + 1, 0, none⟩ = some (.int .i64 bk) ∧ w'.cell? ⟨w.heap.size + 1, 1, none⟩ = some (.int .i64 bn))
    (go_keep) (first | (go_at_call 68; refine (compare64 _ _ _).mono ?_; rintro e w2 ⟨rfl, rfl⟩) | (go_at_call 69; refine (compareI _ _ _).mono ?_; rintro e w2 ⟨rfl, rfl⟩) | (go_at_call 67; refine (or_two _ _ (cmpI ak bk) (cmpI an bn) _ (by simp [go_sem]) (by simp [go_sem])).mono ?_; rintro e w2 ⟨rfl, rfl⟩))
  go_wp2_with fail
  go_ret
  exact ⟨rfl, by go_grown⟩
end Go.Proofs.Ytefijgdbnjmifaa

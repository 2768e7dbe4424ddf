/- The heap: new, its length, its first; walked. -/
import Derived.Test.YtefijgdbnjmifaaHeapD
namespace Go.Proofs.Ytefijgdbnjmifaa
open Go.RowKit Go.Maps

theorem new_any (w : World) : Calls Try.prog 30 #[] w fun e w' => e = .returned (.pointer (some ⟨w.heap.size + 1, 0, none⟩)) ∧
    HP w' (w.heap.size + 2) (w.heap.size + 1) w.heap.size (.slice none 0 0) 0 [] 0 ∧ Below w.heap.size w w' := by
  have hmm := @run_makeMap Try.prog
  go_enter Try.func30, Try.ntmps30
  go_wp2
  go_ret
  refine ⟨by simp, ?_, by go_grown⟩
  have e1 : (w.alloc (.map #[] 0)).heap.size = w.heap.size + 1 := by simp
  exact {
    c0 := by rw [← e1, World.cell?_alloc_new]; rfl
    c1 := by rw [← e1, World.cell?_alloc_new]; rfl
    c2 := by rw [← e1, World.cell?_alloc_new]; rfl
    c3 := by rw [← e1, World.cell?_alloc_new]; rfl
    fz := fun o => by rw [← e1]; simp
    row := World.ownsRow_nil _ _ _ _
    map := ⟨_, ownsMap_at rfl _⟩
    hs := by omega
    hm := by omega
    ne := by omega
    hb := by simp }
theorem len_any {w : World} {base sb bm : Nat} {sl : Value} {nx : Int} {L : List Thing} {c : Nat} (h : HP w base sb bm sl nx L c) : Calls Try.prog 63 #[.pointer (some ⟨sb, 0, none⟩)] w (Ret (.int .i64 L.length) w) := by
  obtain ⟨A, cp, rfl⟩ := own_slice h.row
  have c1 := h.c1
  clear h
  go_enter Try.func63, Try.ntmps63
  go_wp2
  go_ret
  exact ⟨rfl, rfl⟩
theorem peek_none {w : World} {base sb bm : Nat} {sl : Value} {nx : Int} {c : Nat} (h : HP w base sb bm sl nx [] c) : Calls Try.prog 58 #[.pointer (some ⟨sb, 0, none⟩)] w (Ret (.tuple #[.int .i64 0, .int .i64 0, .int .i64 0, .bool false]) w) := by
  go_enter Try.func58, Try.ntmps58
  go_wp2_with fail
  refine (len_any h).mono ?_
  rintro e w1 ⟨rfl, rfl⟩
  go_wp2_with fail
  exact bodyPost_ret (v := .tuple #[.int .i64 0, .int .i64 0, .int .i64 0, .bool false]) (by simp [results, Try.results58, go_sem]) rfl ⟨rfl, rfl⟩
theorem peek_some {w : World} {base sb bm g cap : Nat} {nx : Int} {L : List Thing} {c : Nat} (h : HP w base sb bm (.slice (some ⟨g, 0, none⟩) L.length cap) nx L c) (h0 : 0 < L.length) :
    Calls Try.prog 58 #[.pointer (some ⟨sb, 0, none⟩)] w (RetB (.tuple #[.int .i64 (atL L 0).key, .int .i64 (atL L 0).v, .int .i64 (atL L 0).num, .bool true]) w) := by
  have c1 := h.c1
  obtain ⟨r0, r1, r2⟩ := h.cells rfl 0 h0
  simp only [Nat.zero_mul, Nat.zero_add] at r0 r1 r2
  generalize atL L 0 = x at *
  obtain ⟨xk, xn, xv⟩ := x
  simp only at r0 r1 r2
  have hsb := h.lt_sb
  have hne : ((L.length : Int) == 0) = false := by rw [beq_eq_false_iff_ne]; omega
  have hlt : (0 : Int) < (L.length : Int) := by omega
  go_enter Try.func58, Try.ntmps58
  go_wp2_with fail
  refine (len_any h).mono ?_
  rintro e w1 ⟨rfl, rfl⟩
  clear h
  go_wp2_with fail
  go_region
  go_wp2_with fail
  exact bodyPost_ret (v := .tuple #[.int .i64 xk, .int .i64 xv, .int .i64 xn, .bool true]) (by simp [results, Try.results58, go_sem]) rfl ⟨rfl, by go_grown⟩
end Go.Proofs.Ytefijgdbnjmifaa

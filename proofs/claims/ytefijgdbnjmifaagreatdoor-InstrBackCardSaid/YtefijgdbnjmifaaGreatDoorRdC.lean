/- Reading with what is caught: the closures that catch, walked. Printed by a program. -/
import Derived.Test.YtefijgdbnjmifaaGreatDoorRdA
namespace Go.Proofs.YtefijgdbnjmifaaGreatDoor
open Go.RowKit

/-- What the closure lays: the three results. -/
def CaughtP (a b c : Nat) (v : Value) (pos er : Int) (w w' : World) : Prop :=
  w'.os = w.os ∧ w'.tape = w.tape ∧ w'.output = w.output ∧ w.heap.size ≤ w'.heap.size ∧ (∀ k, k < w.heap.size → k ≠ a → k ≠ b → k ≠ c → w'.heap[k]? = w.heap[k]?) ∧
    w'.cell? ⟨a, 0, none⟩ = some v ∧ w'.cell? ⟨b, 0, none⟩ = some (.int .i64 pos) ∧ w'.cell? ⟨c, 0, none⟩ = some (.int .i64 er)
def QC (a b c : Nat) (v : Value) (pos er : Int) (w : World) (e : Exit) (x : Act) (w' : World) : Prop := e = .normal ∧ x.defers = [] ∧ CaughtP a b c v pos er w w'
theorem cpost_of {w : World} {a b c : Nat} {x y z : Value} (ha : w.cell? ⟨a, 0, none⟩ = some x) (hb : w.cell? ⟨b, 0, none⟩ = some y) (hc : w.cell? ⟨c, 0, none⟩ = some z) (hab : a ≠ b) (hac : a ≠ c) (hbc : b ≠ c) (v : Value) (pos er : Int) (o : Obj) :
    CaughtP a b c v pos er w ((((w.setCell ⟨a, 0, none⟩ v).setCell ⟨b, 0, none⟩ (.int .i64 pos)).setCell ⟨c, 0, none⟩ (.int .i64 er)).alloc o).drew := by
  have la : a < w.heap.size := World.block_lt_of_cell? w _ ha
  have lb : b < w.heap.size := World.block_lt_of_cell? w _ hb
  have lc : c < w.heap.size := World.block_lt_of_cell? w _ hc
  have nab : (⟨b, 0, none⟩ : Addr) ≠ ⟨a, 0, none⟩ := fun e => by injection e with e1 _ _; exact hab e1.symm
  have nac : (⟨c, 0, none⟩ : Addr) ≠ ⟨a, 0, none⟩ := fun e => by injection e with e1 _ _; exact hac e1.symm
  have nbc : (⟨c, 0, none⟩ : Addr) ≠ ⟨b, 0, none⟩ := fun e => by injection e with e1 _ _; exact hbc e1.symm
  have hs : (((w.setCell ⟨a, 0, none⟩ v).setCell ⟨b, 0, none⟩ (.int .i64 pos)).setCell ⟨c, 0, none⟩ (.int .i64 er)).heap.size = w.heap.size := by simp
  have B : Below w.heap.size (((w.setCell ⟨a, 0, none⟩ v).setCell ⟨b, 0, none⟩ (.int .i64 pos)).setCell ⟨c, 0, none⟩ (.int .i64 er)) ((((w.setCell ⟨a, 0, none⟩ v).setCell ⟨b, 0, none⟩ (.int .i64 pos)).setCell ⟨c, 0, none⟩ (.int .i64 er)).alloc o).drew :=
    ((Below.refl _ _).alloc (by rw [hs]; exact Nat.le_refl _) o).drew
  refine ⟨B.os, B.tape, B.output, by have := B.size; rw [hs] at this; exact this, fun k hk h1 h2 h3 => ?_, ?_, ?_, ?_⟩
  · rw [B.block k hk, heap_setCell_other _ _ k _ h3, heap_setCell_other _ _ k _ h2, heap_setCell_other _ _ k _ h1]
  · rw [B.cell (p := ⟨a, 0, none⟩) la, World.cell?_setCell_other _ _ _ _ nac, World.cell?_setCell_other _ _ _ _ nab]
    exact World.cell?_setCell_same _ _ _ ha
  · rw [B.cell (p := ⟨b, 0, none⟩) lb, World.cell?_setCell_other _ _ _ _ nbc]
    exact World.cell?_setCell_same _ _ _ ((World.cell?_setCell_other _ _ _ _ (fun e => nab e.symm)).trans hb)
  · rw [B.cell (p := ⟨c, 0, none⟩) lc]
    exact World.cell?_setCell_same _ _ _ ((World.cell?_setCell_other _ _ _ _ (fun e => nbc e.symm)).trans ((World.cell?_setCell_other _ _ _ _ (fun e => nac e.symm)).trans hc))
set_option maxRecDepth 100000 in
theorem catch_p_uint64 (a b c : Nat) (hab : a ≠ b) (hac : a ≠ c) (hbc : b ≠ c) (pos er : Int) (older : List PanicEntry) (w : World) (x y z : Value) (ha : w.cell? ⟨a, 0, none⟩ = some x) (hb : w.cell? ⟨b, 0, none⟩ = some y) (hc : w.cell? ⟨c, 0, none⟩ = some z)
    (fa : w.frozen? ⟨a, 0, none⟩ = false) (fb : w.frozen? ⟨b, 0, none⟩ = false) (fc : w.frozen? ⟨c, 0, none⟩ = false) :
    CallsD Tryz.prog 57 #[.pointer (some ⟨a, 0, none⟩), .pointer (some ⟨b, 0, none⟩), .pointer (some ⟨c, 0, none⟩)] (.panicking ({ v := faultV pos er, recovered := false } :: older)) w fun e u' w' =>
      e = .returned (.tuple #[]) ∧ u' = .panicking ({ v := faultV pos er, recovered := true } :: older) ∧ CaughtP a b c (.int .u64 0) pos er w w' := by
  have hta : ∀ w, (Instr.typeAssert (faultV pos er) 20 107 true).run Tryz.prog w = .ok (.tuple #[.agg #[.int .i64 pos, .int .i64 er], .bool true]) w := fun _ => by unfold faultV; kernel_rfl
  refine callsD_of_wpS Tryz.func57 rfl fun c₀ cs hu => ?_
  apply wpS_seq
  apply wpS_region
  simp [wpOpsS, go_sem, recoverD, hu, Tryz.ntmps57, Exit.thenS, hta]
  refine wpS_of_wp ?_
  refine wp_mono (Q := QC a b c (.int .u64 0) pos er w) ?_ ?_
  rotate_left
  · rintro e a' w' ⟨rfl, h2, h3⟩
    cases c₀
    simp_all [bodyPostS, results, Tryz.results57]
  have la : a < w.heap.size := World.block_lt_of_cell? w _ ha
  have lb : b < w.heap.size := World.block_lt_of_cell? w _ hb
  have lc : c < w.heap.size := World.block_lt_of_cell? w _ hc
  clear hu hta
  rw [show Array.replicate 14 undef = #[undef, undef, undef, undef, undef, undef, undef, undef, undef, undef, undef, undef, undef, undef] from rfl]
  simp only [List.setIfInBounds_toArray, List.set_cons_succ, List.set_cons_zero, List.append_toArray, List.cons_append, List.nil_append]
  go_wp2_with fail
  have na : a ≠ w.heap.size := by omega
  have nb : b ≠ w.heap.size := by omega
  have nc : c ≠ w.heap.size := by omega
  go_region
  exact ⟨rfl, rfl, cpost_of ha hb hc hab hac hbc _ _ _ _⟩
set_option maxRecDepth 100000 in
theorem catch_r_uint64 (p q r : Value) (w : World) :
    CallsD Tryz.prog 57 #[p, q, r] .returning w fun e u' w' => e = .returned (.tuple #[]) ∧ u' = .returning ∧ w' = w.alloc (.cells #[.int .i64 0, .int .i64 0] 107) := by
  have hta : ∀ w, (Instr.typeAssert .nilIface 20 107 true).run Tryz.prog w = .ok (.tuple #[.agg #[.int .i64 0, .int .i64 0], .bool false]) w := fun _ => by kernel_rfl
  refine callsD_of_wpS Tryz.func57 rfl fun c₀ cs hu => ?_
  apply wpS_seq
  apply wpS_region
  simp [wpOpsS, go_sem, recoverD, hu, Tryz.ntmps57, Exit.thenS, hta]
  apply wpS_seq
  apply wpS_region
  simp [wpOpsS, go_sem, Exit.thenS]
  refine wpS_cond (t := false) (by simp [Act.eval, Array.replicate]) ?_
  simp only [Bool.false_eq_true, if_false]
  refine wpS_of_wp (wp_skip ?_)
  cases c₀
  simp_all [bodyPostS, results, Tryz.results57]
set_option maxRecDepth 100000 in
theorem catch_p_int64 (a b c : Nat) (hab : a ≠ b) (hac : a ≠ c) (hbc : b ≠ c) (pos er : Int) (older : List PanicEntry) (w : World) (x y z : Value) (ha : w.cell? ⟨a, 0, none⟩ = some x) (hb : w.cell? ⟨b, 0, none⟩ = some y) (hc : w.cell? ⟨c, 0, none⟩ = some z)
    (fa : w.frozen? ⟨a, 0, none⟩ = false) (fb : w.frozen? ⟨b, 0, none⟩ = false) (fc : w.frozen? ⟨c, 0, none⟩ = false) :
    CallsD Tryz.prog 74 #[.pointer (some ⟨a, 0, none⟩), .pointer (some ⟨b, 0, none⟩), .pointer (some ⟨c, 0, none⟩)] (.panicking ({ v := faultV pos er, recovered := false } :: older)) w fun e u' w' =>
      e = .returned (.tuple #[]) ∧ u' = .panicking ({ v := faultV pos er, recovered := true } :: older) ∧ CaughtP a b c (.int .i64 0) pos er w w' := by
  have hta : ∀ w, (Instr.typeAssert (faultV pos er) 20 107 true).run Tryz.prog w = .ok (.tuple #[.agg #[.int .i64 pos, .int .i64 er], .bool true]) w := fun _ => by unfold faultV; kernel_rfl
  refine callsD_of_wpS Tryz.func74 rfl fun c₀ cs hu => ?_
  apply wpS_seq
  apply wpS_region
  simp [wpOpsS, go_sem, recoverD, hu, Tryz.ntmps74, Exit.thenS, hta]
  refine wpS_of_wp ?_
  refine wp_mono (Q := QC a b c (.int .i64 0) pos er w) ?_ ?_
  rotate_left
  · rintro e a' w' ⟨rfl, h2, h3⟩
    cases c₀
    simp_all [bodyPostS, results, Tryz.results74]
  have la : a < w.heap.size := World.block_lt_of_cell? w _ ha
  have lb : b < w.heap.size := World.block_lt_of_cell? w _ hb
  have lc : c < w.heap.size := World.block_lt_of_cell? w _ hc
  clear hu hta
  rw [show Array.replicate 14 undef = #[undef, undef, undef, undef, undef, undef, undef, undef, undef, undef, undef, undef, undef, undef] from rfl]
  simp only [List.setIfInBounds_toArray, List.set_cons_succ, List.set_cons_zero, List.append_toArray, List.cons_append, List.nil_append]
  go_wp2_with fail
  have na : a ≠ w.heap.size := by omega
  have nb : b ≠ w.heap.size := by omega
  have nc : c ≠ w.heap.size := by omega
  go_region
  exact ⟨rfl, rfl, cpost_of ha hb hc hab hac hbc _ _ _ _⟩
set_option maxRecDepth 100000 in
theorem catch_r_int64 (p q r : Value) (w : World) :
    CallsD Tryz.prog 74 #[p, q, r] .returning w fun e u' w' => e = .returned (.tuple #[]) ∧ u' = .returning ∧ w' = w.alloc (.cells #[.int .i64 0, .int .i64 0] 107) := by
  have hta : ∀ w, (Instr.typeAssert .nilIface 20 107 true).run Tryz.prog w = .ok (.tuple #[.agg #[.int .i64 0, .int .i64 0], .bool false]) w := fun _ => by kernel_rfl
  refine callsD_of_wpS Tryz.func74 rfl fun c₀ cs hu => ?_
  apply wpS_seq
  apply wpS_region
  simp [wpOpsS, go_sem, recoverD, hu, Tryz.ntmps74, Exit.thenS, hta]
  apply wpS_seq
  apply wpS_region
  simp [wpOpsS, go_sem, Exit.thenS]
  refine wpS_cond (t := false) (by simp [Act.eval, Array.replicate]) ?_
  simp only [Bool.false_eq_true, if_false]
  refine wpS_of_wp (wp_skip ?_)
  cases c₀
  simp_all [bodyPostS, results, Tryz.results74]
set_option maxRecDepth 100000 in
theorem catch_p_string (a b c : Nat) (hab : a ≠ b) (hac : a ≠ c) (hbc : b ≠ c) (pos er : Int) (older : List PanicEntry) (w : World) (x y z : Value) (ha : w.cell? ⟨a, 0, none⟩ = some x) (hb : w.cell? ⟨b, 0, none⟩ = some y) (hc : w.cell? ⟨c, 0, none⟩ = some z)
    (fa : w.frozen? ⟨a, 0, none⟩ = false) (fb : w.frozen? ⟨b, 0, none⟩ = false) (fc : w.frozen? ⟨c, 0, none⟩ = false) :
    CallsD Tryz.prog 75 #[.pointer (some ⟨a, 0, none⟩), .pointer (some ⟨b, 0, none⟩), .pointer (some ⟨c, 0, none⟩)] (.panicking ({ v := faultV pos er, recovered := false } :: older)) w fun e u' w' =>
      e = .returned (.tuple #[]) ∧ u' = .panicking ({ v := faultV pos er, recovered := true } :: older) ∧ CaughtP a b c (.string ⟨#[]⟩) pos er w w' := by
  have hta : ∀ w, (Instr.typeAssert (faultV pos er) 20 107 true).run Tryz.prog w = .ok (.tuple #[.agg #[.int .i64 pos, .int .i64 er], .bool true]) w := fun _ => by unfold faultV; kernel_rfl
  refine callsD_of_wpS Tryz.func75 rfl fun c₀ cs hu => ?_
  apply wpS_seq
  apply wpS_region
  simp [wpOpsS, go_sem, recoverD, hu, Tryz.ntmps75, Exit.thenS, hta]
  refine wpS_of_wp ?_
  refine wp_mono (Q := QC a b c (.string ⟨#[]⟩) pos er w) ?_ ?_
  rotate_left
  · rintro e a' w' ⟨rfl, h2, h3⟩
    cases c₀
    simp_all [bodyPostS, results, Tryz.results75]
  have la : a < w.heap.size := World.block_lt_of_cell? w _ ha
  have lb : b < w.heap.size := World.block_lt_of_cell? w _ hb
  have lc : c < w.heap.size := World.block_lt_of_cell? w _ hc
  clear hu hta
  rw [show Array.replicate 14 undef = #[undef, undef, undef, undef, undef, undef, undef, undef, undef, undef, undef, undef, undef, undef] from rfl]
  simp only [List.setIfInBounds_toArray, List.set_cons_succ, List.set_cons_zero, List.append_toArray, List.cons_append, List.nil_append]
  go_wp2_with fail
  have na : a ≠ w.heap.size := by omega
  have nb : b ≠ w.heap.size := by omega
  have nc : c ≠ w.heap.size := by omega
  go_region
  exact ⟨rfl, rfl, cpost_of ha hb hc hab hac hbc _ _ _ _⟩
set_option maxRecDepth 100000 in
theorem catch_r_string (p q r : Value) (w : World) :
    CallsD Tryz.prog 75 #[p, q, r] .returning w fun e u' w' => e = .returned (.tuple #[]) ∧ u' = .returning ∧ w' = w.alloc (.cells #[.int .i64 0, .int .i64 0] 107) := by
  have hta : ∀ w, (Instr.typeAssert .nilIface 20 107 true).run Tryz.prog w = .ok (.tuple #[.agg #[.int .i64 0, .int .i64 0], .bool false]) w := fun _ => by kernel_rfl
  refine callsD_of_wpS Tryz.func75 rfl fun c₀ cs hu => ?_
  apply wpS_seq
  apply wpS_region
  simp [wpOpsS, go_sem, recoverD, hu, Tryz.ntmps75, Exit.thenS, hta]
  apply wpS_seq
  apply wpS_region
  simp [wpOpsS, go_sem, Exit.thenS]
  refine wpS_cond (t := false) (by simp [Act.eval, Array.replicate]) ?_
  simp only [Bool.false_eq_true, if_false]
  refine wpS_of_wp (wp_skip ?_)
  cases c₀
  simp_all [bodyPostS, results, Tryz.results75]
end Go.Proofs.YtefijgdbnjmifaaGreatDoor

/- Reading with what is caught, walked. Printed by a program. -/
import Derived.Test.YtefijgdbnjmifaaGreatDoorRdC
namespace Go.Proofs.YtefijgdbnjmifaaGreatDoor
open Go.RowKit

/-- The bytes that came in. -/
structure BS (w : World) (A : Option Addr) (n cc : Nat) (l : List UInt8) : Prop where
  len : l.length = n
  bytes : Sl w 1 A n (fun j => .int .u8 (byt l j : Int))
  cap : n ≤ cc
  capb : cc ≤ 9223372036854775807
  nil : A = none → cc = 0
  small : (n : Int) ≤ 140737488351232
theorem BS.below {w w' : World} {A : Option Addr} {n cc : Nat} {l : List UInt8} (h : BS w A n cc l) (hb : Below w.heap.size w w') : BS w' A n cc l := { h with bytes := h.bytes.keep hb }
theorem cell_new (W : World) (k : Nat) (hk : W.heap.size = k) (cs : Array Value) (t : TypeId) (j : Nat) : (W.alloc (.cells cs t)).cell? ⟨k, j, none⟩ = cs[j]? := by
  subst hk; rw [World.cell?_alloc_new]
theorem frozen_new (W : World) (k : Nat) (hk : W.heap.size = k) (cs : Array Value) (t : TypeId) (j : Nat) : (W.alloc (.cells cs t)).frozen? ⟨k, j, none⟩ = false := by
  subst hk; simp
theorem cell_old (W : World) (o : Obj) (k j : Nat) (hk : k < W.heap.size) : (W.alloc o).cell? ⟨k, j, none⟩ = W.cell? ⟨k, j, none⟩ := ((Below.refl W.heap.size W).alloc (Nat.le_refl _) o).cell (p := ⟨k, j, none⟩) hk
theorem frozen_old (W : World) (o : Obj) (k j : Nat) (hk : k < W.heap.size) : (W.alloc o).frozen? ⟨k, j, none⟩ = W.frozen? ⟨k, j, none⟩ := ((Below.refl W.heap.size W).alloc (Nat.le_refl _) o).frozen (p := ⟨k, j, none⟩) hk
/-- Four new blocks. -/
theorem four (w : World) (a b c p q : Value) (t1 t2 t3 t4 : TypeId) :
    (∀ W, W = (((w.alloc (.cells #[a] t1)).alloc (.cells #[b] t2)).alloc (.cells #[c] t3)).alloc (.cells #[p, q] t4) →
      W.cell? ⟨w.heap.size, 0, none⟩ = some a ∧ W.cell? ⟨w.heap.size + 1, 0, none⟩ = some b ∧ W.cell? ⟨w.heap.size + 1 + 1, 0, none⟩ = some c ∧ W.cell? ⟨w.heap.size + 1 + 1 + 1, 0, none⟩ = some p ∧ W.cell? ⟨w.heap.size + 1 + 1 + 1, 1, none⟩ = some q ∧
      W.frozen? ⟨w.heap.size, 0, none⟩ = false ∧ W.frozen? ⟨w.heap.size + 1, 0, none⟩ = false ∧ W.frozen? ⟨w.heap.size + 1 + 1, 0, none⟩ = false ∧ W.frozen? ⟨w.heap.size + 1 + 1 + 1, 1, none⟩ = false) := by
  rintro W rfl
  have e1 : (w.alloc (.cells #[a] t1)).heap.size = w.heap.size + 1 := by simp
  have e2 : ((w.alloc (.cells #[a] t1)).alloc (.cells #[b] t2)).heap.size = w.heap.size + 1 + 1 := by simp
  have e3 : (((w.alloc (.cells #[a] t1)).alloc (.cells #[b] t2)).alloc (.cells #[c] t3)).heap.size = w.heap.size + 1 + 1 + 1 := by simp
  refine ⟨?_, ?_, ?_, ?_, ?_, ?_, ?_, ?_, ?_⟩
  · rw [cell_old _ _ _ _ (by omega), cell_old _ _ _ _ (by omega), cell_old _ _ _ _ (by omega), cell_new _ _ rfl]; rfl
  · rw [cell_old _ _ _ _ (by omega), cell_old _ _ _ _ (by omega), cell_new _ _ e1]; rfl
  · rw [cell_old _ _ _ _ (by omega), cell_new _ _ e2]; rfl
  · rw [cell_new _ _ e3]; rfl
  · rw [cell_new _ _ e3]; rfl
  · rw [frozen_old _ _ _ _ (by omega), frozen_old _ _ _ _ (by omega), frozen_old _ _ _ _ (by omega), frozen_new _ _ rfl]
  · rw [frozen_old _ _ _ _ (by omega), frozen_old _ _ _ _ (by omega), frozen_new _ _ e1]
  · rw [frozen_old _ _ _ _ (by omega), frozen_new _ _ e2]
  · rw [frozen_new _ _ e3]
theorem Goes.cell {w w' : World} {rb q : Nat} (g : Goes rb q w w') {k : Nat} (hk : k ≠ rb) (o : Nat) : w'.cell? ⟨k, o, none⟩ = w.cell? ⟨k, o, none⟩ := World.cell?_of_block (a := ⟨k, o, none⟩) (g.2.2.2.2.1 k hk)
theorem Goes.frozen {w w' : World} {rb q : Nat} (g : Goes rb q w w') {k : Nat} (hk : k ≠ rb) (o : Nat) : w'.frozen? ⟨k, o, none⟩ = w.frozen? ⟨k, o, none⟩ := World.frozen?_of_block (a := ⟨k, o, none⟩) (g.2.2.2.2.1 k hk)
theorem Goes.below {w w' : World} {rb q : Nat} (g : Goes rb q w w') {B : Nat} (h : B ≤ rb) : Below B w w' := ⟨g.1, g.2.1, g.2.2.1, by rw [g.2.2.2.1]; exact Nat.le_refl _, fun k hk => g.2.2.2.2.1 k (by omega)⟩
theorem cpost_two {w : World} {a b c : Nat} {x y z : Value} (ha : w.cell? ⟨a, 0, none⟩ = some x) (hb : w.cell? ⟨b, 0, none⟩ = some y) (hc : w.cell? ⟨c, 0, none⟩ = some z) (hab : a ≠ b) (hac : a ≠ c) (hbc : b ≠ c) (u v : Value) (pos er : Int) :
    CaughtP a b c v pos er w ((((w.setCell ⟨a, 0, none⟩ u).setCell ⟨a, 0, none⟩ v).setCell ⟨b, 0, none⟩ (.int .i64 pos)).setCell ⟨c, 0, none⟩ (.int .i64 er)).drew := by
  have nab : (⟨b, 0, none⟩ : Addr) ≠ ⟨a, 0, none⟩ := fun e => by injection e with e1 _ _; exact hab e1.symm
  have nac : (⟨c, 0, none⟩ : Addr) ≠ ⟨a, 0, none⟩ := fun e => by injection e with e1 _ _; exact hac e1.symm
  have nbc : (⟨c, 0, none⟩ : Addr) ≠ ⟨b, 0, none⟩ := fun e => by injection e with e1 _ _; exact hbc e1.symm
  have la : a < w.heap.size := World.block_lt_of_cell? w _ ha
  have lb : b < w.heap.size := World.block_lt_of_cell? w _ hb
  have lc : c < w.heap.size := World.block_lt_of_cell? w _ hc
  have hs : ((((w.setCell ⟨a, 0, none⟩ u).setCell ⟨a, 0, none⟩ v).setCell ⟨b, 0, none⟩ (.int .i64 pos)).setCell ⟨c, 0, none⟩ (.int .i64 er)).heap.size = w.heap.size := by simp
  have B : Below w.heap.size ((((w.setCell ⟨a, 0, none⟩ u).setCell ⟨a, 0, none⟩ v).setCell ⟨b, 0, none⟩ (.int .i64 pos)).setCell ⟨c, 0, none⟩ (.int .i64 er)) ((((w.setCell ⟨a, 0, none⟩ u).setCell ⟨a, 0, none⟩ v).setCell ⟨b, 0, none⟩ (.int .i64 pos)).setCell ⟨c, 0, none⟩ (.int .i64 er)).drew := (Below.refl _ _).drew
  refine ⟨B.os, B.tape, B.output, by have := B.size; rw [hs] at this; exact this, fun k hk h1 h2 h3 => ?_, ?_, ?_, ?_⟩
  · rw [B.block k hk, heap_setCell_other _ _ k _ h3, heap_setCell_other _ _ k _ h2, heap_setCell_other _ _ k _ h1, heap_setCell_other _ _ k _ h1]
  · rw [B.cell (p := ⟨a, 0, none⟩) la, World.cell?_setCell_other _ _ _ _ nac, World.cell?_setCell_other _ _ _ _ nab]
    exact World.cell?_setCell_same _ _ _ (World.cell?_setCell_same _ _ _ ha)
  · rw [B.cell (p := ⟨b, 0, none⟩) lb, World.cell?_setCell_other _ _ _ _ nbc]
    exact World.cell?_setCell_same _ _ _ ((World.cell?_setCell_other _ _ _ _ (fun e => nab e.symm)).trans ((World.cell?_setCell_other _ _ _ _ (fun e => nab e.symm)).trans hb))
  · rw [B.cell (p := ⟨c, 0, none⟩) lc]
    exact World.cell?_setCell_same _ _ _ ((World.cell?_setCell_other _ _ _ _ (fun e => nbc e.symm)).trans ((World.cell?_setCell_other _ _ _ _ (fun e => nac e.symm)).trans ((World.cell?_setCell_other _ _ _ _ (fun e => nac e.symm)).trans hc)))
theorem numGo_zero (l : List UInt8) : ∀ (f i n : Nat), (numGo l f i n).2.2 ≠ 0 → (numGo l f i n).1 = 0 := by
  intro f
  induction f with
  | zero => intro i n _; rfl
  | succ f ih =>
    intro i n h
    by_cases he : l.length ≤ i
    · rw [numGo_end he]
    · by_cases hb : (byt l i = 0 ∧ 0 < i) ∨ (i = 9 ∧ byt l i ≠ 1)
      · rw [numGo_bad (by omega) hb]
      · by_cases h1 : byt l i < 128
        · rw [numGo_last (by omega) hb h1] at h; exact absurd rfl h
        · rw [numGo_more (by omega) hb h1] at h ⊢
          exact ih _ _ h
theorem num_zero {l : List UInt8} (h : (numS l).2.2 ≠ 0) : (numS l).1 = 0 := numGo_zero l 10 0 0 h
set_option maxRecDepth 100000 in
set_option maxHeartbeats 2000000 in
theorem read_uint64 {w : World} {A : Option Addr} {n cc : Nat} {l : List UInt8} (h : BS w A n cc l) :
    Calls Tryz.prog 38 #[.slice A n cc, .func (.func 39) #[] #[]] w (RetB (.tuple #[.int .u64 ((numS l).1 : Int), .int .i64 (numS l).2.1, .int .i64 (numS l).2.2]) w) := by
  have hmf : ∀ (fn : Fn) (first cap : Array Value) (w : World), (Instr.makeFunc fn first cap).run Tryz.prog w = .ok (.func fn first cap) w := fun _ _ _ _ => rfl
  have H := Lib.hid h
  clear h
  go_enter_defers Tryz.func38, Tryz.ntmps38
  go_wp2_with fail
  have hB : Below w.heap.size w ((((w.alloc (.cells #[.int .u64 0] 43)).alloc (.cells #[.int .i64 0] 3)).alloc (.cells #[.int .i64 0] 26)).alloc (.cells #[.slice A n cc, .int .i64 0] 110)) :=
    ((((Below.refl _ w).alloc (Nat.le_refl _) _).alloc (by simp) _).alloc (by simp; omega) _).alloc (by simp; omega) _
  have F := four w (.int .u64 0) (.int .i64 0) (.int .i64 0) (.slice A n cc) (.int .i64 0) 43 3 26 110 _ rfl
  have hrd : RD ((((w.alloc (.cells #[.int .u64 0] 43)).alloc (.cells #[.int .i64 0] 3)).alloc (.cells #[.int .i64 0] 26)).alloc (.cells #[.slice A n cc, .int .i64 0] 110)) (w.heap.size + 1 + 1 + 1) A n cc l 0 := {
    c0 := F.2.2.2.1
    c1 := F.2.2.2.2.1
    fz := F.2.2.2.2.2.2.2.2
    len := H.out.len
    le := Nat.zero_le _
    bytes := H.out.bytes.keep hB
    ne := fun hn b off e => by
      obtain ⟨b', off', e', hlt, _⟩ := H.out.bytes hn
      rw [e'] at e
      injection e with e
      injection e with e1 _ _
      omega
    lt := by simp
    cap := H.out.cap
    capb := H.out.capb
    nil := H.out.nil }
  refine (number_any hrd H.out.small).mono ?_
  rintro e w5 (⟨h1, rfl, h3, h4⟩ | ⟨h1, rfl, q, h4⟩)
  · have r0 := (h4.cell (k := w.heap.size) (by omega) 0).trans F.1
    have r1 := (h4.cell (k := w.heap.size + 1) (by omega) 0).trans F.2.1
    have r2 := (h4.cell (k := w.heap.size + 1 + 1) (by omega) 0).trans F.2.2.1
    have f0 := (h4.frozen (k := w.heap.size) (by omega) 0).trans F.2.2.2.2.2.1
    have f1 := (h4.frozen (k := w.heap.size + 1) (by omega) 0).trans F.2.2.2.2.2.2.1
    have f2 := (h4.frozen (k := w.heap.size + 1 + 1) (by omega) 0).trans F.2.2.2.2.2.2.2.1
    have p1 := h4.2.2.2.2.2.2.1
    have HG := Lib.hid h4
    have hsz : w.heap.size + 1 + 1 + 1 < w5.heap.size := by rw [h4.2.2.2.1]; simp
    have HB := Lib.hid (hB.trans (h4.below (B := w.heap.size) (by omega)))
    clear h4 hrd hB F
    go_wp2_with fail
    go_region
    go_wp2_with fail
    have CP : CaughtP w.heap.size (w.heap.size + 1) (w.heap.size + 1 + 1) (.int .u64 ((numS l).1 : Int)) ((numS l).2.1 : Int) 0 w5 ((((w5.setCell ⟨w.heap.size, 0, none⟩ (.int .u64 ((numS l).1 : Int))).setCell ⟨w.heap.size, 0, none⟩ (.int .u64 ((numS l).1 : Int))).setCell ⟨w.heap.size + 1, 0, none⟩ (.int .i64 ((numS l).2.1 : Int))).setCell ⟨w.heap.size + 1 + 1, 0, none⟩ (.int .i64 0)).drew := by
      exact cpost_two r0 r1 r2 (by omega) (by omega) (by omega) _ _ _ _
    generalize ((((w5.setCell ⟨w.heap.size, 0, none⟩ (.int .u64 ((numS l).1 : Int))).setCell ⟨w.heap.size, 0, none⟩ (.int .u64 ((numS l).1 : Int))).setCell ⟨w.heap.size + 1, 0, none⟩ (.int .i64 ((numS l).2.1 : Int))).setCell ⟨w.heap.size + 1 + 1, 0, none⟩ (.int .i64 0)).drew = W6 at *
    obtain ⟨g1, g2, g3, g4, g5, g6, g7, g8⟩ := CP
    refine leaves_cons (f := 57) (args := #[.pointer (some ⟨w.heap.size, 0, none⟩), .pointer (some ⟨w.heap.size + 1, 0, none⟩), .pointer (some ⟨w.heap.size + 1 + 1, 0, none⟩)]) (by simp) (by simp [go_sem]) ?_
    refine (catch_r_uint64 _ _ _ _).mono ?_
    rintro e u' w'' ⟨rfl, rfl, rfl⟩
    have d0 := (cell_old W6 (.cells #[.int .i64 0, .int .i64 0] 107) w.heap.size 0 (by omega)).trans g6
    have d1 := (cell_old W6 (.cells #[.int .i64 0, .int .i64 0] 107) (w.heap.size + 1) 0 (by omega)).trans g7
    have d2 := (cell_old W6 (.cells #[.int .i64 0, .int .i64 0] 107) (w.heap.size + 1 + 1) 0 (by omega)).trans g8
    have BB : Below w.heap.size w5 W6 := ⟨g1, g2, g3, g4, fun k hk => g5 k (by omega) (by omega) (by omega) (by omega)⟩
    have PF := Lib.hid (show RetB (.tuple #[.int .u64 ((numS l).1 : Int), .int .i64 ((numS l).2.1 : Int), .int .i64 (numS l).2.2]) w (.returned (.tuple #[.int .u64 ((numS l).1 : Int), .int .i64 ((numS l).2.1 : Int), .int .i64 0])) (W6.alloc (.cells #[.int .i64 0, .int .i64 0] 107)) from ⟨by rw [h1], (HB.out.trans BB).alloc (by omega) _⟩)
    clear g1 g2 g3 g4 g5 g6 g7 g8 h1
    simp [Leaves, settle, results, Tryz.results38, go_sem, d0, d1, d2]
    exact PF.out
  · have r0 := (h4.cell (k := w.heap.size) (by omega) 0).trans F.1
    have r1 := (h4.cell (k := w.heap.size + 1) (by omega) 0).trans F.2.1
    have r2 := (h4.cell (k := w.heap.size + 1 + 1) (by omega) 0).trans F.2.2.1
    have f0 := (h4.frozen (k := w.heap.size) (by omega) 0).trans F.2.2.2.2.2.1
    have f1 := (h4.frozen (k := w.heap.size + 1) (by omega) 0).trans F.2.2.2.2.2.2.1
    have f2 := (h4.frozen (k := w.heap.size + 1 + 1) (by omega) 0).trans F.2.2.2.2.2.2.2.1
    have HB := Lib.hid (hB.trans (h4.below (B := w.heap.size) (by omega)))
    have hsz : w.heap.size + 1 + 1 + 1 < w5.heap.size := by rw [h4.2.2.2.1]; simp
    clear h4 hrd hB F
    refine leaves_cons (f := 57) (args := #[.pointer (some ⟨w.heap.size, 0, none⟩), .pointer (some ⟨w.heap.size + 1, 0, none⟩), .pointer (some ⟨w.heap.size + 1 + 1, 0, none⟩)]) (by simp) (by simp [go_sem]) ?_
    refine (catch_p_uint64 _ _ _ (by omega) (by omega) (by omega) _ _ [] _ _ _ _ r0 r1 r2 f0 f1 f2).mono ?_
    rintro e u' w'' ⟨rfl, rfl, g1, g2, g3, g4, g5, g6, g7, g8⟩
    have BB : Below w.heap.size w5 w'' := ⟨g1, g2, g3, by omega, fun k hk => g5 k (by omega) (by omega) (by omega) (by omega)⟩
    have Z : (.int .u64 ((numS l).1 : Int) : Value) = (.int .u64 0) := by rw [num_zero h1]; rfl
    have PF := Lib.hid (show RetB (.tuple #[.int .u64 ((numS l).1 : Int), .int .i64 ((numS l).2.1 : Int), .int .i64 (numS l).2.2]) w (.returned (.tuple #[.int .u64 0, .int .i64 ((numS l).2.1 : Int), .int .i64 (numS l).2.2])) w'' from ⟨by rw [Z], HB.out.trans BB⟩)
    clear g1 g2 g3 g4 g5 h1
    simp [Leaves, settle, results, Tryz.results38, go_sem, g6, g7, g8]
    exact PF.out
set_option maxRecDepth 100000 in
set_option maxHeartbeats 2000000 in
theorem read_int64 {w : World} {A : Option Addr} {n cc : Nat} {l : List UInt8} (h : BS w A n cc l) :
    Calls Tryz.prog 60 #[.slice A n cc, .func (.func 61) #[] #[]] w (RetB (.tuple #[.int .i64 (zagI (numS l).1), .int .i64 (numS l).2.1, .int .i64 (numS l).2.2]) w) := by
  have hmf : ∀ (fn : Fn) (first cap : Array Value) (w : World), (Instr.makeFunc fn first cap).run Tryz.prog w = .ok (.func fn first cap) w := fun _ _ _ _ => rfl
  have H := Lib.hid h
  clear h
  go_enter_defers Tryz.func60, Tryz.ntmps60
  go_wp2_with fail
  have hB : Below w.heap.size w ((((w.alloc (.cells #[.int .i64 0] 2)).alloc (.cells #[.int .i64 0] 3)).alloc (.cells #[.int .i64 0] 26)).alloc (.cells #[.slice A n cc, .int .i64 0] 110)) :=
    ((((Below.refl _ w).alloc (Nat.le_refl _) _).alloc (by simp) _).alloc (by simp; omega) _).alloc (by simp; omega) _
  have F := four w (.int .i64 0) (.int .i64 0) (.int .i64 0) (.slice A n cc) (.int .i64 0) 2 3 26 110 _ rfl
  have hrd : RD ((((w.alloc (.cells #[.int .i64 0] 2)).alloc (.cells #[.int .i64 0] 3)).alloc (.cells #[.int .i64 0] 26)).alloc (.cells #[.slice A n cc, .int .i64 0] 110)) (w.heap.size + 1 + 1 + 1) A n cc l 0 := {
    c0 := F.2.2.2.1
    c1 := F.2.2.2.2.1
    fz := F.2.2.2.2.2.2.2.2
    len := H.out.len
    le := Nat.zero_le _
    bytes := H.out.bytes.keep hB
    ne := fun hn b off e => by
      obtain ⟨b', off', e', hlt, _⟩ := H.out.bytes hn
      rw [e'] at e
      injection e with e
      injection e with e1 _ _
      omega
    lt := by simp
    cap := H.out.cap
    capb := H.out.capb
    nil := H.out.nil }
  refine (whole_any hrd H.out.small).mono ?_
  rintro e w5 (⟨h1, rfl, h3, h4⟩ | ⟨h1, rfl, q, h4⟩)
  · have r0 := (h4.cell (k := w.heap.size) (by omega) 0).trans F.1
    have r1 := (h4.cell (k := w.heap.size + 1) (by omega) 0).trans F.2.1
    have r2 := (h4.cell (k := w.heap.size + 1 + 1) (by omega) 0).trans F.2.2.1
    have f0 := (h4.frozen (k := w.heap.size) (by omega) 0).trans F.2.2.2.2.2.1
    have f1 := (h4.frozen (k := w.heap.size + 1) (by omega) 0).trans F.2.2.2.2.2.2.1
    have f2 := (h4.frozen (k := w.heap.size + 1 + 1) (by omega) 0).trans F.2.2.2.2.2.2.2.1
    have p1 := h4.2.2.2.2.2.2.1
    have HG := Lib.hid h4
    have hsz : w.heap.size + 1 + 1 + 1 < w5.heap.size := by rw [h4.2.2.2.1]; simp
    have HB := Lib.hid (hB.trans (h4.below (B := w.heap.size) (by omega)))
    clear h4 hrd hB F
    go_wp2_with fail
    go_region
    go_wp2_with fail
    have CP : CaughtP w.heap.size (w.heap.size + 1) (w.heap.size + 1 + 1) (.int .i64 (zagI (numS l).1)) ((numS l).2.1 : Int) 0 w5 ((((w5.setCell ⟨w.heap.size, 0, none⟩ (.int .i64 (zagI (numS l).1))).setCell ⟨w.heap.size, 0, none⟩ (.int .i64 (zagI (numS l).1))).setCell ⟨w.heap.size + 1, 0, none⟩ (.int .i64 ((numS l).2.1 : Int))).setCell ⟨w.heap.size + 1 + 1, 0, none⟩ (.int .i64 0)).drew := by
      exact cpost_two r0 r1 r2 (by omega) (by omega) (by omega) _ _ _ _
    generalize ((((w5.setCell ⟨w.heap.size, 0, none⟩ (.int .i64 (zagI (numS l).1))).setCell ⟨w.heap.size, 0, none⟩ (.int .i64 (zagI (numS l).1))).setCell ⟨w.heap.size + 1, 0, none⟩ (.int .i64 ((numS l).2.1 : Int))).setCell ⟨w.heap.size + 1 + 1, 0, none⟩ (.int .i64 0)).drew = W6 at *
    obtain ⟨g1, g2, g3, g4, g5, g6, g7, g8⟩ := CP
    refine leaves_cons (f := 74) (args := #[.pointer (some ⟨w.heap.size, 0, none⟩), .pointer (some ⟨w.heap.size + 1, 0, none⟩), .pointer (some ⟨w.heap.size + 1 + 1, 0, none⟩)]) (by simp) (by simp [go_sem]) ?_
    refine (catch_r_int64 _ _ _ _).mono ?_
    rintro e u' w'' ⟨rfl, rfl, rfl⟩
    have d0 := (cell_old W6 (.cells #[.int .i64 0, .int .i64 0] 107) w.heap.size 0 (by omega)).trans g6
    have d1 := (cell_old W6 (.cells #[.int .i64 0, .int .i64 0] 107) (w.heap.size + 1) 0 (by omega)).trans g7
    have d2 := (cell_old W6 (.cells #[.int .i64 0, .int .i64 0] 107) (w.heap.size + 1 + 1) 0 (by omega)).trans g8
    have BB : Below w.heap.size w5 W6 := ⟨g1, g2, g3, g4, fun k hk => g5 k (by omega) (by omega) (by omega) (by omega)⟩
    have PF := Lib.hid (show RetB (.tuple #[.int .i64 (zagI (numS l).1), .int .i64 ((numS l).2.1 : Int), .int .i64 (numS l).2.2]) w (.returned (.tuple #[.int .i64 (zagI (numS l).1), .int .i64 ((numS l).2.1 : Int), .int .i64 0])) (W6.alloc (.cells #[.int .i64 0, .int .i64 0] 107)) from ⟨by rw [h1], (HB.out.trans BB).alloc (by omega) _⟩)
    clear g1 g2 g3 g4 g5 g6 g7 g8 h1
    simp [Leaves, settle, results, Tryz.results60, go_sem, d0, d1, d2]
    exact PF.out
  · have r0 := (h4.cell (k := w.heap.size) (by omega) 0).trans F.1
    have r1 := (h4.cell (k := w.heap.size + 1) (by omega) 0).trans F.2.1
    have r2 := (h4.cell (k := w.heap.size + 1 + 1) (by omega) 0).trans F.2.2.1
    have f0 := (h4.frozen (k := w.heap.size) (by omega) 0).trans F.2.2.2.2.2.1
    have f1 := (h4.frozen (k := w.heap.size + 1) (by omega) 0).trans F.2.2.2.2.2.2.1
    have f2 := (h4.frozen (k := w.heap.size + 1 + 1) (by omega) 0).trans F.2.2.2.2.2.2.2.1
    have HB := Lib.hid (hB.trans (h4.below (B := w.heap.size) (by omega)))
    have hsz : w.heap.size + 1 + 1 + 1 < w5.heap.size := by rw [h4.2.2.2.1]; simp
    clear h4 hrd hB F
    refine leaves_cons (f := 74) (args := #[.pointer (some ⟨w.heap.size, 0, none⟩), .pointer (some ⟨w.heap.size + 1, 0, none⟩), .pointer (some ⟨w.heap.size + 1 + 1, 0, none⟩)]) (by simp) (by simp [go_sem]) ?_
    refine (catch_p_int64 _ _ _ (by omega) (by omega) (by omega) _ _ [] _ _ _ _ r0 r1 r2 f0 f1 f2).mono ?_
    rintro e u' w'' ⟨rfl, rfl, g1, g2, g3, g4, g5, g6, g7, g8⟩
    have BB : Below w.heap.size w5 w'' := ⟨g1, g2, g3, by omega, fun k hk => g5 k (by omega) (by omega) (by omega) (by omega)⟩
    have Z : (.int .i64 (zagI (numS l).1) : Value) = (.int .i64 0) := by rw [num_zero h1]; rfl
    have PF := Lib.hid (show RetB (.tuple #[.int .i64 (zagI (numS l).1), .int .i64 ((numS l).2.1 : Int), .int .i64 (numS l).2.2]) w (.returned (.tuple #[.int .i64 0, .int .i64 ((numS l).2.1 : Int), .int .i64 (numS l).2.2])) w'' from ⟨by rw [Z], HB.out.trans BB⟩)
    clear g1 g2 g3 g4 g5 h1
    simp [Leaves, settle, results, Tryz.results60, go_sem, g6, g7, g8]
    exact PF.out
end Go.Proofs.YtefijgdbnjmifaaGreatDoor

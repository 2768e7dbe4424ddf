/- Meeting a place, walked. -/
import Derived.Test.YtefijgdbnjmifaaHeapH
import Derived.Test.YtefijgdbnjmifaaInsV
namespace Go.Proofs.Ytefijgdbnjmifaa
open Go.RowKit Go.Maps

/-- Where a walk's things lie. -/
structure Fx where
  A : Option Addr
  n : Nat
  cc : Nat
  wb : Nat
  db : Nat
  dc : Nat
  base : Nat
  sb : Nat
  bm : Nat
/-- A walk in memory. -/
structure WS (w : World) (x : Fx) (sl : Value) (nx : Int) (L : List Thing) (c : Nat) (d : List Int) : Prop where
  k0 : w.cell? ⟨x.wb, 0, none⟩ = some (.slice x.A x.n x.cc)
  k1 : w.cell? ⟨x.wb, 1, none⟩ = some (.slice (some ⟨x.db, 0, none⟩) x.n x.dc)
  k2 : w.cell? ⟨x.wb, 2, none⟩ = some (.pointer (some ⟨x.sb, 0, none⟩))
  dl : d.length = x.n
  dcell : ∀ j, j < x.n → w.cell? ⟨x.db, j, none⟩ = some (.int .i64 (dAt d j))
  dfz : ∀ j, w.frozen? ⟨x.db, j, none⟩ = false
  hp : HP w x.base x.sb x.bm sl nx L c
  wlt : x.wb < w.heap.size
  dlt : x.db < w.heap.size
  n1 : x.wb ≠ x.sb
  n2 : x.wb ≠ x.bm
  n3 : x.db ≠ x.sb
  n4 : x.db ≠ x.bm
  n5 : x.wb ≠ x.db
  n6 : ∀ g, sl.ownBlock = some g → g ≠ x.wb ∧ g ≠ x.db
section
variable {w w' : World} {x : Fx} {sl sl' : Value} {nx nx' : Int} {L L' : List Thing} {c c' : Nat} {d : List Int}
/-- The heap may be turned. -/
theorem WS.turn (h : WS w x sl nx L c d) (t : Turn w w' (fun k => k = x.sb ∨ k = x.bm ∨ sl.ownBlock = some k)) (hp : HP w' x.base x.sb x.bm sl' nx' L' c') (hg : ∀ g, sl'.ownBlock = some g → sl.ownBlock = some g ∨ w.heap.size ≤ g) : WS w' x sl' nx' L' c' d := by
  have pw : ¬ (x.wb = x.sb ∨ x.wb = x.bm ∨ sl.ownBlock = some x.wb) := fun e => e.elim h.n1 fun e => e.elim h.n2 fun e => (h.n6 _ e).1 rfl
  have pd : ¬ (x.db = x.sb ∨ x.db = x.bm ∨ sl.ownBlock = some x.db) := fun e => e.elim h.n3 fun e => e.elim h.n4 fun e => (h.n6 _ e).2 rfl
  exact {
    k0 := (t.cell 0 h.wlt pw).trans h.k0
    k1 := (t.cell 1 h.wlt pw).trans h.k1
    k2 := (t.cell 2 h.wlt pw).trans h.k2
    dl := h.dl
    dcell := fun j hj => (t.cell j h.dlt pd).trans (h.dcell j hj)
    dfz := fun j => (t.frozen j h.dlt pd).trans (h.dfz j)
    hp := hp
    wlt := Nat.lt_of_lt_of_le h.wlt t.size
    dlt := Nat.lt_of_lt_of_le h.dlt t.size
    n1 := h.n1
    n2 := h.n2
    n3 := h.n3
    n4 := h.n4
    n5 := h.n5
    n6 := fun g e => by
      rcases hg g e with e | e
      · exact h.n6 g e
      · have := h.wlt; have := h.dlt; omega }
theorem WS.below (h : WS w x sl nx L c d) (t : Below w.heap.size w w') : WS w' x sl nx L c d :=
  h.turn (Turn.of_below t) (h.hp.below t) (fun _ e => .inl e)
/-- A depth is laid. -/
theorem WS.store (h : WS w x sl nx L c d) (q : Nat) (hq : q < x.n) (v : Int) : WS (w.setCell ⟨x.db, q, none⟩ (.int .i64 v)) x sl nx L c (d.set q v) := by
  have t : Turn w (w.setCell ⟨x.db, q, none⟩ (.int .i64 v)) (fun k => k = x.db) := Turn.of_setCell (a := ⟨x.db, q, none⟩) rfl
  have hh := h.hp.keep t (fun e => h.n3 e.symm) (fun e => h.n4 e.symm) (fun g e => (h.n6 g e).2)
  exact {
    k0 := (t.cell 0 h.wlt h.n5).trans h.k0
    k1 := (t.cell 1 h.wlt h.n5).trans h.k1
    k2 := (t.cell 2 h.wlt h.n5).trans h.k2
    dl := by rw [List.length_set]; exact h.dl
    dcell := fun j hj => by
      rw [dAt_set _ _ _ _ (by rw [h.dl]; exact hq)]
      by_cases e : j = q
      · subst e; rw [if_pos rfl]; exact World.cell?_setCell_same _ _ _ (h.dcell j hj)
      · rw [if_neg e]; exact (World.cell?_setCell_other _ _ _ _ (fun e2 => by injection e2 with _ e3 _; exact e e3.symm)).trans (h.dcell j hj)
    dfz := fun j => (World.frozen?_setCell _ _ _ _).trans (h.dfz j)
    hp := hh
    wlt := by simpa using h.wlt
    dlt := by simpa using h.dlt
    n1 := h.n1
    n2 := h.n2
    n3 := h.n3
    n4 := h.n4
    n5 := h.n5
    n6 := h.n6 }
end

theorem meet_end {w : World} {x : Fx} {sl : Value} {nx : Int} {L : List Thing} {c : Nat} {d : List Int} (h : WS w x sl nx L c d) (depth : Int) (q : Int) (hq : q = (x.n : Int)) :
    Calls Try.prog 46 #[.pointer (some ⟨x.wb, 0, none⟩), .int .i64 q, .int .i64 depth] w (Ret (.bool false) w) := by
  have k0 := h.k0
  clear h
  obtain ⟨A, n, cc, wb, db, dc, base, sb, bm⟩ := x
  simp only at k0 hq
  have he : (q == (n : Int)) = true := beq_iff_eq.2 hq
  clear hq
  go_enter Try.func46, Try.ntmps46
  go_wp2_with fail
  go_ret
  exact ⟨rfl, rfl⟩
theorem meet_old {w : World} {x : Fx} {sl : Value} {nx : Int} {L : List Thing} {c : Nat} {d : List Int} (h : WS w x sl nx L c d) (depth : Int) (q : Nat) (hq : q < x.n) (h0 : 0 ≤ dAt d q) (hn : (x.n : Int) ≤ 8192) :
    Calls Try.prog 46 #[.pointer (some ⟨x.wb, 0, none⟩), .int .i64 q, .int .i64 depth] w (Ret (.bool (dAt d q == depth)) w) := by
  have k0 := h.k0
  have k1 := h.k1
  have dq := h.dcell q hq
  clear h
  obtain ⟨A, n, cc, wb, db, dc, base, sb, bm⟩ := x
  simp only at k0 k1 dq hq hn
  have he : ((q : Int) == (n : Int)) = false := beq_eq_false_iff_ne.2 (by omega)
  generalize dAt d q = v at dq h0
  have hv : decide (v < 0) = false := decide_eq_false (by omega)
  go_enter Try.func46, Try.ntmps46
  go_wp2_with fail
  go_ret
  exact ⟨rfl, rfl⟩
set_option maxHeartbeats 1000000 in
theorem meet_new {w : World} {x : Fx} {sl : Value} {nx : Int} {L : List Thing} {c : Nat} {d : List Int} (h : WS w x sl nx L c d) (hheap : IsHeap L) (hwf : wfL L) (depth : Int) (q : Nat) (hq : q < x.n) (h0 : dAt d q < 0) (hn : (x.n : Int) ≤ 8192)
    (hn0 : 0 ≤ nx) (hn1 : nx ≤ 1000000000) (h64 : (L.length : Int) ≤ 100000000) (hc : c + L.length + 3 < maxLen) :
    Calls Try.prog 46 #[.pointer (some ⟨x.wb, 0, none⟩), .int .i64 q, .int .i64 depth] w fun e w' => e = .returned (.bool true) ∧
      ∃ (L' : List Thing) (sl' : Value), L'.Perm (⟨q, nx, depth⟩ :: L) ∧ IsHeap L' ∧ WS w' x sl' (nx + 1) L' (c + L.length + 2) (d.set q depth) ∧ (∀ g, sl'.ownBlock = some g → sl.ownBlock = some g ∨ w.heap.size ≤ g) ∧
        Turn w w' (fun k => k = x.db ∨ k = x.sb ∨ k = x.bm ∨ sl.ownBlock = some k) := by
  have hS := h.store q hq depth
  have k0 := h.k0
  have k1 := h.k1
  have k2 := h.k2
  have dq := h.dcell q hq
  have df := h.dfz q
  have s0 := hS.k0
  have s1 := hS.k1
  have s2 := hS.k2
  have hww := h.wlt
  have hdd := h.dlt
  have n5 := h.n5
  have hwq : dAt (d.set q depth) q = depth := by rw [dAt_set _ _ _ _ (by rw [h.dl]; exact hq), if_pos rfl]
  have HW := Lib.hid hwq
  have HS := Lib.hid hS
  clear h hS hwq
  obtain ⟨A, n, cc, wb, db, dc, base, sb, bm⟩ := x
  simp only at k0 k1 k2 dq df s0 s1 s2 hww hdd n5 hq hn
  have he : ((q : Int) == (n : Int)) = false := beq_eq_false_iff_ne.2 (by omega)
  generalize dAt d q = v at dq h0
  have hv : decide (v < 0) = true := decide_eq_true (by omega)
  go_enter Try.func46, Try.ntmps46
  go_wp2_with fail
  refine (push_any HS.out.hp hheap hwf q depth hn0 hn1 h64 hc).mono ?_
  rintro e w3 ⟨rfl, L', sl', p', ih', hp', hg', t'⟩
  have hS3 := HS.out.turn t' hp' (fun g e => by simpa using hg' g e)
  have e1 := hS3.k1
  have e2 := hS3.dcell q hq
  rw [HW.out] at e2
  simp only at e1 e2
  have H3 := Lib.hid hS3
  clear hS3
  go_wp2_with fail
  go_ret
  exact ⟨rfl, L', sl', p', ih', H3.out, fun g e => by simpa using hg' g e, (Turn.of_setCell (a := ⟨db, q, none⟩) (u := .int .i64 depth) (.inl rfl)).then t' (fun j _ hj => .inr hj)⟩
end Go.Proofs.Ytefijgdbnjmifaa

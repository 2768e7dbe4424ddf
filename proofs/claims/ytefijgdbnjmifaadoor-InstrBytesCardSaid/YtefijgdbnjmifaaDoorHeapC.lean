/- The heap: rising, walked. -/
import Derived.Test.YtefijgdbnjmifaaDoorHeapA
import Derived.Deep.QuietTactic
import Derived.BigQuiet
import Derived.WalkSmall
namespace Go.Proofs.YtefijgdbnjmifaaDoor
open Go.RowKit Go.Maps

def wfL (L : List Thing) : Prop := ∀ t ∈ L, (Lit.int .i64 t.num).wf = true
theorem wfL.perm {L M : List Thing} (h : wfL L) (p : M.Perm L) : wfL M := fun t ht => h t (p.mem_iff.1 ht)
theorem wfL.at {L : List Thing} (h : wfL L) {i : Nat} (hi : i < L.length) : (Lit.int .i64 (atL L i).num).wf = true := h _ (by rw [atL_get _ _ hi]; exact List.getElem_mem _)
/-- What lies in the row. -/
theorem HP.cells {w : World} {base sb bm g cap : Nat} {nx : Int} {L : List Thing} {c n : Nat} (h : HP w base sb bm (.slice (some ⟨g, 0, none⟩) n cap) nx L c) (hn : n = L.length) (i : Nat) (hi : i < L.length) :
    w.cell? ⟨g, i * 3, none⟩ = some (.int .i64 (atL L i).key) ∧ w.cell? ⟨g, i * 3 + 1, none⟩ = some (.int .i64 (atL L i).num) ∧ w.cell? ⟨g, i * 3 + 2, none⟩ = some (.int .i64 (atL L i).v) := by
  subst hn
  obtain ⟨g0, g1, g2⟩ := cellsL_get L i hi
  rw [atL_get _ _ hi]
  exact ⟨(h.row.cellAt (i * 3) (by omega)).trans g0, (h.row.cellAt (i * 3 + 1) (by omega)).trans g1, (h.row.cellAt (i * 3 + 2) (by omega)).trans g2⟩
theorem hole_perm {L M : List Thing} {k p : Nat} {x : Thing} (h : (M.set k x).Perm L) (hk : k < M.length) (hp : p < M.length) (hne : p ≠ k) : ((M.set k (atL M p)).set p x).Perm L := by
  rw [← swapL_hole M k p x hk hne]
  exact (swapL_perm _ _ _ (by simpa using hk) (by simpa using hp)).trans h
theorem hole_up {M : List Thing} {k : Nat} {x : Thing} (h : UpHeap (M.set k x) k) (hk : k < M.length) (h0 : 0 < k) (hlt : ltT x (atL M ((k - 1) / 2)) = true) : UpHeap ((M.set k (atL M ((k - 1) / 2))).set ((k - 1) / 2) x) ((k - 1) / 2) := by
  rw [← swapL_hole M k _ x hk (by omega)]
  refine up_step h (by simpa using hk) h0 ?_
  rw [atL_set _ _ _ _ hk, atL_set _ _ _ _ hk, if_pos rfl, if_neg (by omega)]; exact hlt
theorem hole_up_end {M : List Thing} {k : Nat} {x : Thing} (h : UpHeap (M.set k x) k) (hk : k < M.length) (he : k = 0 ∨ ltT x (atL M ((k - 1) / 2)) = false) : IsHeap (M.set k x) := by
  refine up_end h ?_
  rcases he with he | he
  · exact .inl he
  · by_cases h0 : k = 0
    · exact .inl h0
    · right; rw [atL_set _ _ _ _ hk, atL_set _ _ _ _ hk, if_pos rfl, if_neg (by omega)]; exact he
/-- The relation of rising and sinking. -/
structure Hole (w wr : World) (base sb bm g cap : Nat) (nx : Int) (L : List Thing) (c : Nat) (q : Nat) (x : Thing) (k : Nat) (M : List Thing) (c' : Nat) : Prop where
  hp : HP wr base sb bm (.slice (some ⟨g, 0, none⟩) L.length cap) nx M c'
  hk : k < M.length
  hl : M.length = L.length
  perm : (M.set k x).Perm L
  turn : Turn w wr (fun j => j = bm ∨ j = g)
  q0 : wr.cell? ⟨q, 0, none⟩ = some (.int .i64 x.key)
  q1 : wr.cell? ⟨q, 1, none⟩ = some (.int .i64 x.num)
  q2 : wr.cell? ⟨q, 2, none⟩ = some (.int .i64 x.v)
  ql : q < wr.heap.size

set_option maxHeartbeats 1000000 in
theorem rise_any {w : World} {base sb bm g cap : Nat} {nx : Int} {L : List Thing} {c : Nat} (h : HP w base sb bm (.slice (some ⟨g, 0, none⟩) L.length cap) nx L c) (i : Nat) (hi : i < L.length) (hup : UpHeap L i) (hwf : wfL L) (hi64 : (L.length : Int) ≤ 9223372036854775807) (hc : c + i + 1 < maxLen) :
    Calls Tryd.prog 87 #[.pointer (some ⟨sb, 0, none⟩), .int .i64 i] w fun e w' => e = .returned (.tuple #[]) ∧ ∃ L' : List Thing, L'.Perm L ∧ IsHeap L' ∧
      HP w' base sb bm (.slice (some ⟨g, 0, none⟩) L.length cap) nx L' (c + i + 1) ∧ Turn w w' (fun k => k = bm ∨ k = g) := by
  have c1 := h.c1
  obtain ⟨r0, r1, r2⟩ := h.cells rfl i hi
  have hsb := h.lt_sb
  have hbm := h.lt_bm
  have hg := (h.row.lt g rfl).2
  have H := Lib.hid h
  have UP := Lib.hid hup
  clear h hup
  generalize hx : atL L i = x at *
  obtain ⟨xk, xn, xv⟩ := x
  have HX := Lib.hid hx
  clear hx
  go_enter Tryd.func87, Tryd.ntmps87
  go_wp2_with fail
  go_loopw [1] (fun v wr => ∃ (k : Nat) (M : List Thing) (c' : Nat), v = .int .i64 k ∧ Hole w wr base sb bm g cap nx L c w.heap.size ⟨xk, xn, xv⟩ k M c' ∧ c' + k ≤ c + i ∧ UpHeap (M.set k ⟨xk, xn, xv⟩) k) (fun v _ => (intOf v).toNat)
  case atStart =>
    refine ⟨i, L, c, rfl, ?_, Nat.le_refl _, ?_⟩
    · have e : L.set i ⟨xk, xn, xv⟩ = L := by rw [← HX.out, atL_get _ _ hi, List.set_getElem_self]
      exact {
        hp := H.out.below ((Below.refl _ _).alloc (Nat.le_refl _) _)
        hk := hi
        hl := rfl
        perm := by rw [e]
        turn := Turn.of_below ((Below.refl _ _).alloc (Nat.le_refl _) _)
        q0 := by simp
        q1 := by simp
        q2 := by simp
        ql := by simp }
    · have e : L.set i ⟨xk, xn, xv⟩ = L := by rw [← HX.out, atL_get _ _ hi, List.set_getElem_self]
      rw [e]; exact UP.out
  case round =>
    obtain ⟨k, M, c', rfl, hr, hck, hu⟩ := hrel
    by_cases h0 : k = 0
    · subst h0
      have hk := hr.hk
      have hl := hr.hl
      have q0 := hr.q0
      have q1 := hr.q1
      have q2 := hr.q2
      simp only at q0 q1 q2
      have HR := Lib.hid hr
      have HU := Lib.hid hu
      clear hr hu
      go_wp2_with fail
      go_quiet (fail)
      go_wp2_with fail
      have hb2 : Below wr.heap.size wr (wr.drewN nq) := below_drewN (Below.refl _ wr) nq
      have hp2 : HP (wr.drewN nq) base sb bm (.slice (some ⟨g, 0, none⟩) M.length cap) nx M c' := by rw [hl]; exact HR.out.hp.below hb2
      refine (lay_any hp2 0 hk ⟨xk, xn, xv⟩ (by have := hwf.at hi; rwa [HX.out] at this) (by omega) (by omega)).mono ?_
      rintro e w3 ⟨rfl, hp3, hm3, t3⟩
      go_wp2_with fail
      go_end0
      rw [hl] at hp3
      exact ⟨rfl, _, HR.out.perm, hole_up_end HU.out hk (.inl rfl), hp3.mono (by omega), (HR.out.turn.then (q := fun _ => False) (Turn.of_below hb2) (fun _ _ h => h.elim)).then t3 (fun _ _ h => h)⟩
    · have hk := hr.hk
      have hl := hr.hl
      obtain ⟨p, hp⟩ : ∃ p : Nat, p = (k - 1) / 2 := ⟨_, rfl⟩
      have hpk : p < k := by omega
      have hq : ((k : Int) - 1).tdiv 2 = (p : Int) := by rw [Int.tdiv_eq_ediv_of_nonneg (by omega)]; omega
      obtain ⟨s0, s1, s2⟩ := hr.hp.cells hl.symm p (by omega)
      have d1 := hr.hp.c1
      have q0 := hr.q0
      have q1 := hr.q1
      have q2 := hr.q2
      have ql := hr.ql
      simp only at q0 q1 q2
      have hb : decide (0 < k) = true := decide_eq_true (by omega)
      have hb0 : 0 < k := by omega
      have hw1 : IntKind.i64.wrap ((k : Int) - 1) = (k : Int) - 1 := IntWalk.i64_in _ (by omega)
      have hw2 : IntKind.i64.wrap (p : Int) = (p : Int) := IntWalk.i64_in _ (by omega)
      have hpl : p < L.length := by omega
      have hpl2 : (p : Int) < (L.length : Int) := by omega
      have hp0 : (0 : Int) ≤ (p : Int) := by omega
      have lsb := hr.hp.lt_sb
      have lg := (hr.hp.own_ne (g := g) rfl).2.1
      generalize hy : atL M p = y at *
      obtain ⟨yk, yn, yv⟩ := y
      have HY := Lib.hid hy
      have HR := Lib.hid hr
      have HU := Lib.hid hu
      have HPK := Lib.hid hp
      clear hr hu hy hp
      simp only at s0 s1 s2
      have hp2 := HR.out.hp
      cases hd : ltT ⟨xk, xn, xv⟩ ⟨yk, yn, yv⟩ with
      | false =>
        have hd' : decide (aheadI ⟨xk, xn, xv⟩ ⟨yk, yn, yv⟩ < 0) = false := hd
        clear hp2
        go_wp2_with fail
        go_region_held3 (fun w' => w'.cell? ⟨w.heap.size, 0, none⟩ = some (.int .i64 xk) ∧ w'.cell? ⟨w.heap.size, 1, none⟩ = some (.int .i64 xn) ∧ w'.cell? ⟨w.heap.size, 2, none⟩ = some (.int .i64 xv) ∧ w'.cell? ⟨sb, 1, none⟩ = some (.slice (some ⟨g, 0, none⟩) L.length cap) ∧ w'.cell? ⟨g, p * 3, none⟩ = some (.int .i64 yk) ∧ w'.cell? ⟨g, p * 3 + 1, none⟩ = some (.int .i64 yn) ∧ w'.cell? ⟨g, p * 3 + 2, none⟩ = some (.int .i64 yv))
          (first | exact ⟨q0, q1, q2, d1, s0, s1, s2⟩ | exact ⟨k0, k1, k2, k3, k4, k5, k6⟩) (first | (go_at_call 104; refine (ahead_any ⟨xk, xn, xv⟩ ⟨yk, yn, yv⟩ _).mono ?_; rintro e w2 ⟨rfl, h2⟩; have c2 := (bcell h2).1; have k0 := (c2 _ 0 ql).trans q0; have k1 := (c2 _ 1 ql).trans q1; have k2 := (c2 _ 2 ql).trans q2; have k3 := (c2 _ 1 lsb).trans d1; have k4 := (c2 _ _ lg).trans s0; have k5 := (c2 _ _ lg).trans s1; have k6 := (c2 _ _ lg).trans s2))
        go_wp2_with fail
        have hb2 : Below wr.heap.size wr w2 := ((Below.refl _ wr).drew).trans h2
        have hp2 : HP w2 base sb bm (.slice (some ⟨g, 0, none⟩) M.length cap) nx M c' := by rw [hl]; exact HR.out.hp.below hb2
        refine (lay_any hp2 k hk ⟨xk, xn, xv⟩ (by have := hwf.at hi; rwa [HX.out] at this) (by omega) (by omega)).mono ?_
        rintro e w3 ⟨rfl, hp3, hm3, t3⟩
        go_wp2_with fail
        go_end0
        rw [hl] at hp3
        exact ⟨rfl, _, HR.out.perm, hole_up_end HU.out hk (.inr (by rw [← HPK.out, HY.out]; exact hd)), hp3.mono (by omega), (HR.out.turn.then (q := fun _ => False) (Turn.of_below hb2) (fun _ _ h => h.elim)).then t3 (fun _ _ h => h)⟩
      | true =>
        have hd' : decide (aheadI ⟨xk, xn, xv⟩ ⟨yk, yn, yv⟩ < 0) = true := hd
        clear hp2
        go_wp2_with fail
        go_region_held3 (fun w' => w'.cell? ⟨w.heap.size, 0, none⟩ = some (.int .i64 xk) ∧ w'.cell? ⟨w.heap.size, 1, none⟩ = some (.int .i64 xn) ∧ w'.cell? ⟨w.heap.size, 2, none⟩ = some (.int .i64 xv) ∧ w'.cell? ⟨sb, 1, none⟩ = some (.slice (some ⟨g, 0, none⟩) L.length cap) ∧ w'.cell? ⟨g, p * 3, none⟩ = some (.int .i64 yk) ∧ w'.cell? ⟨g, p * 3 + 1, none⟩ = some (.int .i64 yn) ∧ w'.cell? ⟨g, p * 3 + 2, none⟩ = some (.int .i64 yv))
          (first | exact ⟨q0, q1, q2, d1, s0, s1, s2⟩ | exact ⟨k0, k1, k2, k3, k4, k5, k6⟩) (first | (go_at_call 104; refine (ahead_any ⟨xk, xn, xv⟩ ⟨yk, yn, yv⟩ _).mono ?_; rintro e w2 ⟨rfl, h2⟩; have c2 := (bcell h2).1; have k0 := (c2 _ 0 ql).trans q0; have k1 := (c2 _ 1 ql).trans q1; have k2 := (c2 _ 2 ql).trans q2; have k3 := (c2 _ 1 lsb).trans d1; have k4 := (c2 _ _ lg).trans s0; have k5 := (c2 _ _ lg).trans s1; have k6 := (c2 _ _ lg).trans s2))
        go_wp2_with fail
        have hp2 : HP w2 base sb bm (.slice (some ⟨g, 0, none⟩) M.length cap) nx M c' := by rw [hl]; exact HR.out.hp.below (((Below.refl _ wr).drew).trans h2)
        refine (lay_any hp2 k hk ⟨yk, yn, yv⟩ (by have := (hwf.perm HR.out.perm).at (i := p) (by simpa using (by omega : p < M.length)); rw [atL_set _ _ _ _ hk, if_neg (by omega), HY.out] at this; exact this) (by omega) (by omega)).mono ?_
        rintro e w3 ⟨rfl, hp3, hm3, t3⟩
        go_wp2_with fail
        go_roundw
        case rel =>
          have hb2 : Below wr.heap.size wr w2 := ((Below.refl _ wr).drew).trans h2
          have hpp := HPK.out
          have s2 : w2.heap.size ≤ w3.heap.size := t3.size
          have nq : ∀ o, w3.cell? ⟨w.heap.size, o, none⟩ = w2.cell? ⟨w.heap.size, o, none⟩ := fun o => t3.cell o (Nat.lt_of_lt_of_le ql hb2.size) (by omega)
          refine ⟨p, M.set k ⟨yk, yn, yv⟩, c' + 1, by go_num, ?_, by omega, ?_⟩
          · exact {
              hp := by rw [hl] at hp3; exact hp3
              hk := by simpa using (by omega : p < M.length)
              hl := by simpa using hl
              perm := by have := hole_perm HR.out.perm hk (p := p) (by omega) (by omega); rwa [HY.out] at this
              turn := (HR.out.turn.then (q := fun _ => False) (Turn.of_below hb2) (fun _ _ h => h.elim)).then t3 (fun _ _ h => h)
              q0 := (nq 0).trans k0
              q1 := (nq 1).trans k1
              q2 := (nq 2).trans k2
              ql := Nat.lt_of_lt_of_le ql (Nat.le_trans hb2.size s2) }
          · have := hole_up HU.out hk (by omega) (by rw [← hpp, HY.out]; exact hd)
            rwa [← hpp, HY.out] at this
        case measure => simp [intOf]; omega
end Go.Proofs.YtefijgdbnjmifaaDoor

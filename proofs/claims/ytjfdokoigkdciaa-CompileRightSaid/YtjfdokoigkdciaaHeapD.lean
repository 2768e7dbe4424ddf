/- The heap: sinking, walked. Printed by a program. -/
import Derived.Test.YtjfdokoigkdciaaHeapA
namespace Go.Proofs.Ytjfdokoigkdciaa
open Go.RowKit Go.Maps

theorem hole_down {M : List Thing} {k kk : Nat} {x : Thing} (h : DownHeap (M.set k x) k) (hk : k < M.length) (hkk : kk < M.length) (hc : kk = 2 * k + 1 ∨ kk = 2 * k + 2) (hle : ltT x (atL M kk) = false)
    (hmin : ∀ i, i < M.length → (i = 2 * k + 1 ∨ i = 2 * k + 2) → leT (atL M kk) (atL M i)) : DownHeap ((M.set k (atL M kk)).set kk x) kk := by
  rw [← swapL_hole M k kk x hk (by omega)]
  refine down_step h (by simpa using hk) (by simpa using hkk) hc ?_ ?_
  · rw [atL_set _ _ _ _ hk, atL_set _ _ _ _ hk, if_pos rfl, if_neg (by omega)]; exact hle
  · intro i hi hic
    rw [atL_set _ _ _ _ hk, atL_set _ _ _ _ hk, if_neg (by omega), if_neg (by omega)]
    exact hmin i (by simpa using hi) hic
theorem hole_down_end {M : List Thing} {k : Nat} {x : Thing} (h : DownHeap (M.set k x) k) (hk : k < M.length) (he : ∀ i, i < M.length → (i = 2 * k + 1 ∨ i = 2 * k + 2) → leT x (atL M i)) : IsHeap (M.set k x) := by
  refine down_end h fun i hi hic => ?_
  rw [atL_set _ _ _ _ hk, atL_set _ _ _ _ hk, if_pos rfl, if_neg (by omega)]
  exact he i (by simpa using hi) hic

set_option maxRecDepth 100000 in
set_option maxHeartbeats 4000000 in
theorem sink_any {w : World} {base sb bm g cap : Nat} {nx : Int} {L : List Thing} {c : Nat} (h : HP w base sb bm (.slice (some ⟨g, 0, none⟩) L.length cap) nx L c) (i : Nat) (hi : i < L.length) (hdn : DownHeap L i) (hwf : wfL L) (hi64 : (L.length : Int) ≤ 1000000000) (hc : c + L.length + 1 < maxLen) :
    Calls Try.prog 57 #[.pointer (some ⟨sb, 0, none⟩), .int .i64 i] w fun e w' => e = .returned (.tuple #[]) ∧ ∃ L' : List Thing, L'.Perm L ∧ IsHeap L' ∧
      HP w' base sb bm (.slice (some ⟨g, 0, none⟩) L.length cap) nx L' (c + L.length + 1) ∧ (∃ (c' i' : Nat), i' < L.length ∧ MapAt w' bm c' (atL L i).num i') ∧ Turn w w' (fun k => k = bm ∨ k = g) := by
  have c1 := h.c1
  obtain ⟨r0, r1, r2⟩ := h.cells rfl i hi
  have hsb := h.lt_sb
  have hbm := h.lt_bm
  have hg := (h.row.lt g rfl).2
  have H := Lib.hid h
  have DN := Lib.hid hdn
  clear h hdn
  generalize hx : atL L i = x at *
  obtain ⟨xk, xn, xv⟩ := x
  have HX := Lib.hid hx
  clear hx
  go_enter Try.func57, Try.ntmps57
  go_wp2_with fail
  go_loopw [1, 5] (fun v _ wr => ∃ (k : Nat) (M : List Thing) (c' : Nat), v = .int .i64 k ∧ Hole w wr base sb bm g cap nx L c w.heap.size ⟨xk, xn, xv⟩ k M c' ∧ c' + (L.length - k) ≤ c + L.length ∧ DownHeap (M.set k ⟨xk, xn, xv⟩) k) (fun v _ _ => L.length - (intOf v).toNat)
  case atStart =>
    refine ⟨i, L, c, rfl, ?_, by omega, ?_⟩
    · have e : L.set i ⟨xk, xn, xv⟩ = L := by rw [← HX.out, atL_get _ _ hi, List.set_getElem_self]
      exact {
        hp := H.out.below ((Below.refl _ _).alloc (Nat.le_refl _) _)
        hk := hi
        hl := rfl
        perm := by rw [e]
        turn := Turn.of_below ((Below.refl _ _).alloc (Nat.le_refl _) _)
        q0 := by simp
        q1 := by simp
        q2 := by simp
        ql := by simp }
    · have e : L.set i ⟨xk, xn, xv⟩ = L := by rw [← HX.out, atL_get _ _ hi, List.set_getElem_self]
      rw [e]; exact DN.out
  case round =>
    obtain ⟨k, M, c', rfl, hr, hck, hu⟩ := hrel
    have hk := hr.hk
    have hl := hr.hl
    obtain ⟨j, hj⟩ : ∃ j : Nat, j = 2 * k + 1 := ⟨_, rfl⟩
    have hw1 : IntKind.i64.wrap (2 * (k : Int)) = 2 * (k : Int) := IntWalk.i64_in _ (by omega)
    have hw2 : IntKind.i64.wrap (2 * (k : Int) + 1) = (j : Int) := by rw [IntWalk.i64_in _ (by omega)]; omega
    have hwx : (Lit.int .i64 xn).wf = true := by have := hwf.at hi; rwa [HX.out] at this
    have d1 := hr.hp.c1
    have q0 := hr.q0
    have q1 := hr.q1
    have q2 := hr.q2
    have ql := hr.ql
    simp only at q0 q1 q2
    have lsb := hr.hp.lt_sb
    have lg := (hr.hp.own_ne (g := g) rfl).2.1
    have HR := Lib.hid hr
    have HU := Lib.hid hu
    have HJ := Lib.hid hj
    clear hr hu hj
    by_cases hjn : j < L.length
    · have hjn' : decide (L.length ≤ j) = false := decide_eq_false (by omega)
      have hw3 : IntKind.i64.wrap ((j : Int) + 1) = (j : Int) + 1 := IntWalk.i64_in _ (by omega)
      obtain ⟨s0, s1, s2⟩ := HR.out.hp.cells hl.symm j (by omega)
      generalize hy : atL M j = y at *
      obtain ⟨lk, ln, lv⟩ := y
      simp only at s0 s1 s2
      have HL := Lib.hid hy
      clear hy
      by_cases hrn : j + 1 < L.length
      · have hrn' : decide ((j : Int) + 1 < (L.length : Int)) = true := decide_eq_true (by omega)
        have hrn2 : (j : Int) + 1 < (L.length : Int) := by omega
        have hrn3 : (0 : Int) ≤ (j : Int) + 1 := by omega
        obtain ⟨t0, t1, t2⟩ := HR.out.hp.cells hl.symm (j + 1) (by omega)
        generalize hy : atL M (j + 1) = y at *
        obtain ⟨rk, rn, rv⟩ := y
        simp only at t0 t1 t2
        have HRT := Lib.hid hy
        clear hy
        cases hlr : ltT ⟨rk, rn, rv⟩ ⟨lk, ln, lv⟩ with
        | true =>
          have hlr' : decide (aheadI ⟨rk, rn, rv⟩ ⟨lk, ln, lv⟩ < 0) = true := hlr
          have HLR := Lib.hid hlr
          clear hlr
          go_wp2_with fail
          go_region_held3 (fun w' => w'.cell? ⟨sb, 1, none⟩ = some (.slice (some ⟨g, 0, none⟩) L.length cap) ∧ w'.cell? ⟨g, j * 3, none⟩ = some (.int .i64 lk) ∧ w'.cell? ⟨g, j * 3 + 1, none⟩ = some (.int .i64 ln) ∧ w'.cell? ⟨g, j * 3 + 2, none⟩ = some (.int .i64 lv) ∧ w'.cell? ⟨g, (j + 1) * 3, none⟩ = some (.int .i64 rk) ∧ w'.cell? ⟨g, (j + 1) * 3 + 1, none⟩ = some (.int .i64 rn) ∧ w'.cell? ⟨g, (j + 1) * 3 + 2, none⟩ = some (.int .i64 rv))
            (first | exact ⟨d1, s0, s1, s2, t0, t1, t2⟩ | exact ⟨k3, k4, k5, k6, k7, k8, k9⟩) (first | (go_at_call 58; refine (ahead_any ⟨rk, rn, rv⟩ ⟨lk, ln, lv⟩ _).mono ?_; rintro e wd ⟨rfl, h3⟩; have c3 := (bcell h3).1; have k3 := (c3 _ 1 lsb).trans d1; have k4 := (c3 _ _ lg).trans s0; have k5 := (c3 _ _ lg).trans s1; have k6 := (c3 _ _ lg).trans s2; have k7 := (c3 _ _ lg).trans t0; have k8 := (c3 _ _ lg).trans t1; have k9 := (c3 _ _ lg).trans t2))
          have hbd : Below wr.heap.size wr wd := ((Below.refl _ wr).drew).trans h3
          clear c3 k3 k4 k5 k6 k7 k8 k9
          have hkl : (j + 1) < M.length := by omega
          have hkl2 : (j + 1) < L.length := by omega
          have HMIN := Lib.hid (show ∀ i', i' < M.length → (i' = 2 * k + 1 ∨ i' = 2 * k + 2) → leT ⟨rk, rn, rv⟩ (atL M i') from by
            intro i' h1 h2
            have hj := HJ.out
            rcases h2 with rfl | rfl
            · rw [← hj, HL.out]; exact leT_of_lt HLR.out
            · rw [show 2 * k + 2 = j + 1 from by omega, HRT.out]; exact leT_refl _)
          cases hd : ltT ⟨xk, xn, xv⟩ ⟨rk, rn, rv⟩ with
          | true =>
            have hd' : decide (aheadI ⟨xk, xn, xv⟩ ⟨rk, rn, rv⟩ < 0) = true := hd
            have cd := (bcell hbd).1
            have e0 := (cd _ 0 ql).trans q0
            have e1 := (cd _ 1 ql).trans q1
            have e2 := (cd _ 2 ql).trans q2
            have e3 := (cd _ 1 lsb).trans d1
            have e4 := (cd _ _ lg).trans t0
            have e5 := (cd _ _ lg).trans t1
            have e6 := (cd _ _ lg).trans t2
            have ql' := szlt hbd ql
            have lsb' := szlt hbd lsb
            have lg' := szlt hbd lg
            have HC := Lib.hid cd
            clear cd
            go_wp2_with fail
            go_region_held3 (fun w' => w'.cell? ⟨w.heap.size, 0, none⟩ = some (.int .i64 xk) ∧ w'.cell? ⟨w.heap.size, 1, none⟩ = some (.int .i64 xn) ∧ w'.cell? ⟨w.heap.size, 2, none⟩ = some (.int .i64 xv) ∧ w'.cell? ⟨sb, 1, none⟩ = some (.slice (some ⟨g, 0, none⟩) L.length cap) ∧ w'.cell? ⟨g, (j + 1) * 3, none⟩ = some (.int .i64 rk) ∧ w'.cell? ⟨g, (j + 1) * 3 + 1, none⟩ = some (.int .i64 rn) ∧ w'.cell? ⟨g, (j + 1) * 3 + 2, none⟩ = some (.int .i64 rv))
              (first | exact ⟨e0, e1, e2, e3, e4, e5, e6⟩ | exact ⟨k0, k1, k2, k3, k4, k5, k6⟩) (first | (go_at_call 58; refine (ahead_any ⟨xk, xn, xv⟩ ⟨rk, rn, rv⟩ _).mono ?_; rintro e w2 ⟨rfl, h2⟩; have c2 := (bcell h2).1; have k0 := (c2 _ 0 ql').trans e0; have k1 := (c2 _ 1 ql').trans e1; have k2 := (c2 _ 2 ql').trans e2; have k3 := (c2 _ 1 lsb').trans e3; have k4 := (c2 _ _ lg').trans e4; have k5 := (c2 _ _ lg').trans e5; have k6 := (c2 _ _ lg').trans e6))
            go_wp2_with fail
            have hb2 : Below wr.heap.size wr w2 := bthen hbd (((Below.refl _ wd).drew).trans h2)
            have hp2 : HP w2 base sb bm (.slice (some ⟨g, 0, none⟩) M.length cap) nx M c' := by rw [hl]; exact HR.out.hp.below hb2
            refine (lay_any hp2 k hk ⟨xk, xn, xv⟩ hwx (by omega) (by omega)).mono ?_
            rintro e w3 ⟨rfl, hp3, hm3, t3⟩
            go_wp2_with fail
            go_end0
            rw [hl] at hp3
            exact ⟨rfl, _, HR.out.perm, hole_down_end HU.out hk (fun i' h1 h2 => leT_trans (leT_of_lt hd) (HMIN.out i' h1 h2)), hp3.mono (by omega), ⟨_, k, by omega, hm3⟩, (HR.out.turn.then (q := fun _ => False) (Turn.of_below hb2) (fun _ _ h => h.elim)).then t3 (fun _ _ h => h)⟩
          | false =>
            have hd' : decide (aheadI ⟨xk, xn, xv⟩ ⟨rk, rn, rv⟩ < 0) = false := hd
            have cd := (bcell hbd).1
            have e0 := (cd _ 0 ql).trans q0
            have e1 := (cd _ 1 ql).trans q1
            have e2 := (cd _ 2 ql).trans q2
            have e3 := (cd _ 1 lsb).trans d1
            have e4 := (cd _ _ lg).trans t0
            have e5 := (cd _ _ lg).trans t1
            have e6 := (cd _ _ lg).trans t2
            have ql' := szlt hbd ql
            have lsb' := szlt hbd lsb
            have lg' := szlt hbd lg
            have HC := Lib.hid cd
            clear cd
            go_wp2_with fail
            go_region_held3 (fun w' => w'.cell? ⟨w.heap.size, 0, none⟩ = some (.int .i64 xk) ∧ w'.cell? ⟨w.heap.size, 1, none⟩ = some (.int .i64 xn) ∧ w'.cell? ⟨w.heap.size, 2, none⟩ = some (.int .i64 xv) ∧ w'.cell? ⟨sb, 1, none⟩ = some (.slice (some ⟨g, 0, none⟩) L.length cap) ∧ w'.cell? ⟨g, (j + 1) * 3, none⟩ = some (.int .i64 rk) ∧ w'.cell? ⟨g, (j + 1) * 3 + 1, none⟩ = some (.int .i64 rn) ∧ w'.cell? ⟨g, (j + 1) * 3 + 2, none⟩ = some (.int .i64 rv))
              (first | exact ⟨e0, e1, e2, e3, e4, e5, e6⟩ | exact ⟨k0, k1, k2, k3, k4, k5, k6⟩) (first | (go_at_call 58; refine (ahead_any ⟨xk, xn, xv⟩ ⟨rk, rn, rv⟩ _).mono ?_; rintro e w2 ⟨rfl, h2⟩; have c2 := (bcell h2).1; have k0 := (c2 _ 0 ql').trans e0; have k1 := (c2 _ 1 ql').trans e1; have k2 := (c2 _ 2 ql').trans e2; have k3 := (c2 _ 1 lsb').trans e3; have k4 := (c2 _ _ lg').trans e4; have k5 := (c2 _ _ lg').trans e5; have k6 := (c2 _ _ lg').trans e6))
            go_wp2_with fail
            have hb2 : Below wr.heap.size wr w2 := bthen hbd (((Below.refl _ wd).drew).trans h2)
            have hp2 : HP w2 base sb bm (.slice (some ⟨g, 0, none⟩) M.length cap) nx M c' := by rw [hl]; exact HR.out.hp.below hb2
            refine (lay_any hp2 k hk ⟨rk, rn, rv⟩ (by have := HJ.out; have := (hwf.perm HR.out.perm).at (i := (j + 1)) (by simpa using hkl); rw [atL_set _ _ _ _ hk, if_neg (by omega), HRT.out] at this; exact this) (by omega) (by omega)).mono ?_
            rintro e w3 ⟨rfl, hp3, hm3, t3⟩
            go_wp2_with fail
            go_roundw
            case rel =>
              have hjj := HJ.out
              have s2 : w2.heap.size ≤ w3.heap.size := t3.size
              have nq' : ∀ o, w3.cell? ⟨w.heap.size, o, none⟩ = w2.cell? ⟨w.heap.size, o, none⟩ := fun o => t3.cell o (Nat.lt_of_lt_of_le ql hb2.size) (by omega)
              refine ⟨(j + 1), M.set k ⟨rk, rn, rv⟩, c' + 1, by go_num, ?_, by omega, ?_⟩
              · exact {
                  hp := by rw [hl] at hp3; exact hp3
                  hk := by simpa using hkl
                  hl := by simpa using hl
                  perm := by have := hole_perm HR.out.perm hk (p := (j + 1)) hkl (by omega); rwa [HRT.out] at this
                  turn := (HR.out.turn.then (q := fun _ => False) (Turn.of_below hb2) (fun _ _ h => h.elim)).then t3 (fun _ _ h => h)
                  q0 := (nq' 0).trans k0
                  q1 := (nq' 1).trans k1
                  q2 := (nq' 2).trans k2
                  ql := Nat.lt_of_lt_of_le ql (Nat.le_trans hb2.size s2) }
              · have := hole_down (kk := (j + 1)) HU.out hk hkl (by omega) (by rw [HRT.out]; exact hd) (by rw [HRT.out]; exact HMIN.out)
                rwa [HRT.out] at this
            case measure => have := HJ.out; simp [intOf]; omega
        | false =>
          have hlr' : decide (aheadI ⟨rk, rn, rv⟩ ⟨lk, ln, lv⟩ < 0) = false := hlr
          have HLR := Lib.hid hlr
          clear hlr
          go_wp2_with fail
          go_region_held3 (fun w' => w'.cell? ⟨sb, 1, none⟩ = some (.slice (some ⟨g, 0, none⟩) L.length cap) ∧ w'.cell? ⟨g, j * 3, none⟩ = some (.int .i64 lk) ∧ w'.cell? ⟨g, j * 3 + 1, none⟩ = some (.int .i64 ln) ∧ w'.cell? ⟨g, j * 3 + 2, none⟩ = some (.int .i64 lv) ∧ w'.cell? ⟨g, (j + 1) * 3, none⟩ = some (.int .i64 rk) ∧ w'.cell? ⟨g, (j + 1) * 3 + 1, none⟩ = some (.int .i64 rn) ∧ w'.cell? ⟨g, (j + 1) * 3 + 2, none⟩ = some (.int .i64 rv))
            (first | exact ⟨d1, s0, s1, s2, t0, t1, t2⟩ | exact ⟨k3, k4, k5, k6, k7, k8, k9⟩) (first | (go_at_call 58; refine (ahead_any ⟨rk, rn, rv⟩ ⟨lk, ln, lv⟩ _).mono ?_; rintro e wd ⟨rfl, h3⟩; have c3 := (bcell h3).1; have k3 := (c3 _ 1 lsb).trans d1; have k4 := (c3 _ _ lg).trans s0; have k5 := (c3 _ _ lg).trans s1; have k6 := (c3 _ _ lg).trans s2; have k7 := (c3 _ _ lg).trans t0; have k8 := (c3 _ _ lg).trans t1; have k9 := (c3 _ _ lg).trans t2))
          have hbd : Below wr.heap.size wr wd := ((Below.refl _ wr).drew).trans h3
          clear c3 k3 k4 k5 k6 k7 k8 k9
          have hkl : j < M.length := by omega
          have hkl2 : j < L.length := by omega
          have HMIN := Lib.hid (show ∀ i', i' < M.length → (i' = 2 * k + 1 ∨ i' = 2 * k + 2) → leT ⟨lk, ln, lv⟩ (atL M i') from by
            intro i' h1 h2
            have hj := HJ.out
            rcases h2 with rfl | rfl
            · rw [← hj, HL.out]; exact leT_refl _
            · rw [show 2 * k + 2 = j + 1 from by omega, HRT.out]; exact HLR.out)
          cases hd : ltT ⟨xk, xn, xv⟩ ⟨lk, ln, lv⟩ with
          | true =>
            have hd' : decide (aheadI ⟨xk, xn, xv⟩ ⟨lk, ln, lv⟩ < 0) = true := hd
            have cd := (bcell hbd).1
            have e0 := (cd _ 0 ql).trans q0
            have e1 := (cd _ 1 ql).trans q1
            have e2 := (cd _ 2 ql).trans q2
            have e3 := (cd _ 1 lsb).trans d1
            have e4 := (cd _ _ lg).trans s0
            have e5 := (cd _ _ lg).trans s1
            have e6 := (cd _ _ lg).trans s2
            have ql' := szlt hbd ql
            have lsb' := szlt hbd lsb
            have lg' := szlt hbd lg
            have HC := Lib.hid cd
            clear cd
            go_wp2_with fail
            go_region_held3 (fun w' => w'.cell? ⟨w.heap.size, 0, none⟩ = some (.int .i64 xk) ∧ w'.cell? ⟨w.heap.size, 1, none⟩ = some (.int .i64 xn) ∧ w'.cell? ⟨w.heap.size, 2, none⟩ = some (.int .i64 xv) ∧ w'.cell? ⟨sb, 1, none⟩ = some (.slice (some ⟨g, 0, none⟩) L.length cap) ∧ w'.cell? ⟨g, j * 3, none⟩ = some (.int .i64 lk) ∧ w'.cell? ⟨g, j * 3 + 1, none⟩ = some (.int .i64 ln) ∧ w'.cell? ⟨g, j * 3 + 2, none⟩ = some (.int .i64 lv))
              (first | exact ⟨e0, e1, e2, e3, e4, e5, e6⟩ | exact ⟨k0, k1, k2, k3, k4, k5, k6⟩) (first | (go_at_call 58; refine (ahead_any ⟨xk, xn, xv⟩ ⟨lk, ln, lv⟩ _).mono ?_; rintro e w2 ⟨rfl, h2⟩; have c2 := (bcell h2).1; have k0 := (c2 _ 0 ql').trans e0; have k1 := (c2 _ 1 ql').trans e1; have k2 := (c2 _ 2 ql').trans e2; have k3 := (c2 _ 1 lsb').trans e3; have k4 := (c2 _ _ lg').trans e4; have k5 := (c2 _ _ lg').trans e5; have k6 := (c2 _ _ lg').trans e6))
            go_wp2_with fail
            have hb2 : Below wr.heap.size wr w2 := bthen hbd (((Below.refl _ wd).drew).trans h2)
            have hp2 : HP w2 base sb bm (.slice (some ⟨g, 0, none⟩) M.length cap) nx M c' := by rw [hl]; exact HR.out.hp.below hb2
            refine (lay_any hp2 k hk ⟨xk, xn, xv⟩ hwx (by omega) (by omega)).mono ?_
            rintro e w3 ⟨rfl, hp3, hm3, t3⟩
            go_wp2_with fail
            go_end0
            rw [hl] at hp3
            exact ⟨rfl, _, HR.out.perm, hole_down_end HU.out hk (fun i' h1 h2 => leT_trans (leT_of_lt hd) (HMIN.out i' h1 h2)), hp3.mono (by omega), ⟨_, k, by omega, hm3⟩, (HR.out.turn.then (q := fun _ => False) (Turn.of_below hb2) (fun _ _ h => h.elim)).then t3 (fun _ _ h => h)⟩
          | false =>
            have hd' : decide (aheadI ⟨xk, xn, xv⟩ ⟨lk, ln, lv⟩ < 0) = false := hd
            have cd := (bcell hbd).1
            have e0 := (cd _ 0 ql).trans q0
            have e1 := (cd _ 1 ql).trans q1
            have e2 := (cd _ 2 ql).trans q2
            have e3 := (cd _ 1 lsb).trans d1
            have e4 := (cd _ _ lg).trans s0
            have e5 := (cd _ _ lg).trans s1
            have e6 := (cd _ _ lg).trans s2
            have ql' := szlt hbd ql
            have lsb' := szlt hbd lsb
            have lg' := szlt hbd lg
            have HC := Lib.hid cd
            clear cd
            go_wp2_with fail
            go_region_held3 (fun w' => w'.cell? ⟨w.heap.size, 0, none⟩ = some (.int .i64 xk) ∧ w'.cell? ⟨w.heap.size, 1, none⟩ = some (.int .i64 xn) ∧ w'.cell? ⟨w.heap.size, 2, none⟩ = some (.int .i64 xv) ∧ w'.cell? ⟨sb, 1, none⟩ = some (.slice (some ⟨g, 0, none⟩) L.length cap) ∧ w'.cell? ⟨g, j * 3, none⟩ = some (.int .i64 lk) ∧ w'.cell? ⟨g, j * 3 + 1, none⟩ = some (.int .i64 ln) ∧ w'.cell? ⟨g, j * 3 + 2, none⟩ = some (.int .i64 lv))
              (first | exact ⟨e0, e1, e2, e3, e4, e5, e6⟩ | exact ⟨k0, k1, k2, k3, k4, k5, k6⟩) (first | (go_at_call 58; refine (ahead_any ⟨xk, xn, xv⟩ ⟨lk, ln, lv⟩ _).mono ?_; rintro e w2 ⟨rfl, h2⟩; have c2 := (bcell h2).1; have k0 := (c2 _ 0 ql').trans e0; have k1 := (c2 _ 1 ql').trans e1; have k2 := (c2 _ 2 ql').trans e2; have k3 := (c2 _ 1 lsb').trans e3; have k4 := (c2 _ _ lg').trans e4; have k5 := (c2 _ _ lg').trans e5; have k6 := (c2 _ _ lg').trans e6))
            go_wp2_with fail
            have hb2 : Below wr.heap.size wr w2 := bthen hbd (((Below.refl _ wd).drew).trans h2)
            have hp2 : HP w2 base sb bm (.slice (some ⟨g, 0, none⟩) M.length cap) nx M c' := by rw [hl]; exact HR.out.hp.below hb2
            refine (lay_any hp2 k hk ⟨lk, ln, lv⟩ (by have := HJ.out; have := (hwf.perm HR.out.perm).at (i := j) (by simpa using hkl); rw [atL_set _ _ _ _ hk, if_neg (by omega), HL.out] at this; exact this) (by omega) (by omega)).mono ?_
            rintro e w3 ⟨rfl, hp3, hm3, t3⟩
            go_wp2_with fail
            go_roundw
            case rel =>
              have hjj := HJ.out
              have s2 : w2.heap.size ≤ w3.heap.size := t3.size
              have nq' : ∀ o, w3.cell? ⟨w.heap.size, o, none⟩ = w2.cell? ⟨w.heap.size, o, none⟩ := fun o => t3.cell o (Nat.lt_of_lt_of_le ql hb2.size) (by omega)
              refine ⟨j, M.set k ⟨lk, ln, lv⟩, c' + 1, by go_num, ?_, by omega, ?_⟩
              · exact {
                  hp := by rw [hl] at hp3; exact hp3
                  hk := by simpa using hkl
                  hl := by simpa using hl
                  perm := by have := hole_perm HR.out.perm hk (p := j) hkl (by omega); rwa [HL.out] at this
                  turn := (HR.out.turn.then (q := fun _ => False) (Turn.of_below hb2) (fun _ _ h => h.elim)).then t3 (fun _ _ h => h)
                  q0 := (nq' 0).trans k0
                  q1 := (nq' 1).trans k1
                  q2 := (nq' 2).trans k2
                  ql := Nat.lt_of_lt_of_le ql (Nat.le_trans hb2.size s2) }
              · have := hole_down (kk := j) HU.out hk hkl (by omega) (by rw [HL.out]; exact hd) (by rw [HL.out]; exact HMIN.out)
                rwa [HL.out] at this
            case measure => have := HJ.out; simp [intOf]; omega
      · have hrn' : decide ((j : Int) + 1 < (L.length : Int)) = false := decide_eq_false (by omega)
        go_wp2_with fail
        go_quiet (fail)
        have hbd : Below wr.heap.size wr (wr.drewN nq) := below_drewN (Below.refl _ wr) nq
        generalize wr.drewN nq = wd at *
        have hkl : j < M.length := by omega
        have hkl2 : j < L.length := by omega
        have HMIN := Lib.hid (show ∀ i', i' < M.length → (i' = 2 * k + 1 ∨ i' = 2 * k + 2) → leT ⟨lk, ln, lv⟩ (atL M i') from by
          intro i' h1 h2
          have hj := HJ.out
          rcases h2 with rfl | rfl
          · rw [← hj, HL.out]; exact leT_refl _
          · omega)
        cases hd : ltT ⟨xk, xn, xv⟩ ⟨lk, ln, lv⟩ with
        | true =>
          have hd' : decide (aheadI ⟨xk, xn, xv⟩ ⟨lk, ln, lv⟩ < 0) = true := hd
          have cd := (bcell hbd).1
          have e0 := (cd _ 0 ql).trans q0
          have e1 := (cd _ 1 ql).trans q1
          have e2 := (cd _ 2 ql).trans q2
          have e3 := (cd _ 1 lsb).trans d1
          have e4 := (cd _ _ lg).trans s0
          have e5 := (cd _ _ lg).trans s1
          have e6 := (cd _ _ lg).trans s2
          have ql' := szlt hbd ql
          have lsb' := szlt hbd lsb
          have lg' := szlt hbd lg
          have HC := Lib.hid cd
          clear cd
          go_wp2_with fail
          go_region_held3 (fun w' => w'.cell? ⟨w.heap.size, 0, none⟩ = some (.int .i64 xk) ∧ w'.cell? ⟨w.heap.size, 1, none⟩ = some (.int .i64 xn) ∧ w'.cell? ⟨w.heap.size, 2, none⟩ = some (.int .i64 xv) ∧ w'.cell? ⟨sb, 1, none⟩ = some (.slice (some ⟨g, 0, none⟩) L.length cap) ∧ w'.cell? ⟨g, j * 3, none⟩ = some (.int .i64 lk) ∧ w'.cell? ⟨g, j * 3 + 1, none⟩ = some (.int .i64 ln) ∧ w'.cell? ⟨g, j * 3 + 2, none⟩ = some (.int .i64 lv))
            (first | exact ⟨e0, e1, e2, e3, e4, e5, e6⟩ | exact ⟨k0, k1, k2, k3, k4, k5, k6⟩) (first | (go_at_call 58; refine (ahead_any ⟨xk, xn, xv⟩ ⟨lk, ln, lv⟩ _).mono ?_; rintro e w2 ⟨rfl, h2⟩; have c2 := (bcell h2).1; have k0 := (c2 _ 0 ql').trans e0; have k1 := (c2 _ 1 ql').trans e1; have k2 := (c2 _ 2 ql').trans e2; have k3 := (c2 _ 1 lsb').trans e3; have k4 := (c2 _ _ lg').trans e4; have k5 := (c2 _ _ lg').trans e5; have k6 := (c2 _ _ lg').trans e6))
          go_wp2_with fail
          have hb2 : Below wr.heap.size wr w2 := bthen hbd (((Below.refl _ wd).drew).trans h2)
          have hp2 : HP w2 base sb bm (.slice (some ⟨g, 0, none⟩) M.length cap) nx M c' := by rw [hl]; exact HR.out.hp.below hb2
          refine (lay_any hp2 k hk ⟨xk, xn, xv⟩ hwx (by omega) (by omega)).mono ?_
          rintro e w3 ⟨rfl, hp3, hm3, t3⟩
          go_wp2_with fail
          go_end0
          rw [hl] at hp3
          exact ⟨rfl, _, HR.out.perm, hole_down_end HU.out hk (fun i' h1 h2 => leT_trans (leT_of_lt hd) (HMIN.out i' h1 h2)), hp3.mono (by omega), ⟨_, k, by omega, hm3⟩, (HR.out.turn.then (q := fun _ => False) (Turn.of_below hb2) (fun _ _ h => h.elim)).then t3 (fun _ _ h => h)⟩
        | false =>
          have hd' : decide (aheadI ⟨xk, xn, xv⟩ ⟨lk, ln, lv⟩ < 0) = false := hd
          have cd := (bcell hbd).1
          have e0 := (cd _ 0 ql).trans q0
          have e1 := (cd _ 1 ql).trans q1
          have e2 := (cd _ 2 ql).trans q2
          have e3 := (cd _ 1 lsb).trans d1
          have e4 := (cd _ _ lg).trans s0
          have e5 := (cd _ _ lg).trans s1
          have e6 := (cd _ _ lg).trans s2
          have ql' := szlt hbd ql
          have lsb' := szlt hbd lsb
          have lg' := szlt hbd lg
          have HC := Lib.hid cd
          clear cd
          go_wp2_with fail
          go_region_held3 (fun w' => w'.cell? ⟨w.heap.size, 0, none⟩ = some (.int .i64 xk) ∧ w'.cell? ⟨w.heap.size, 1, none⟩ = some (.int .i64 xn) ∧ w'.cell? ⟨w.heap.size, 2, none⟩ = some (.int .i64 xv) ∧ w'.cell? ⟨sb, 1, none⟩ = some (.slice (some ⟨g, 0, none⟩) L.length cap) ∧ w'.cell? ⟨g, j * 3, none⟩ = some (.int .i64 lk) ∧ w'.cell? ⟨g, j * 3 + 1, none⟩ = some (.int .i64 ln) ∧ w'.cell? ⟨g, j * 3 + 2, none⟩ = some (.int .i64 lv))
            (first | exact ⟨e0, e1, e2, e3, e4, e5, e6⟩ | exact ⟨k0, k1, k2, k3, k4, k5, k6⟩) (first | (go_at_call 58; refine (ahead_any ⟨xk, xn, xv⟩ ⟨lk, ln, lv⟩ _).mono ?_; rintro e w2 ⟨rfl, h2⟩; have c2 := (bcell h2).1; have k0 := (c2 _ 0 ql').trans e0; have k1 := (c2 _ 1 ql').trans e1; have k2 := (c2 _ 2 ql').trans e2; have k3 := (c2 _ 1 lsb').trans e3; have k4 := (c2 _ _ lg').trans e4; have k5 := (c2 _ _ lg').trans e5; have k6 := (c2 _ _ lg').trans e6))
          go_wp2_with fail
          have hb2 : Below wr.heap.size wr w2 := bthen hbd (((Below.refl _ wd).drew).trans h2)
          have hp2 : HP w2 base sb bm (.slice (some ⟨g, 0, none⟩) M.length cap) nx M c' := by rw [hl]; exact HR.out.hp.below hb2
          refine (lay_any hp2 k hk ⟨lk, ln, lv⟩ (by have := HJ.out; have := (hwf.perm HR.out.perm).at (i := j) (by simpa using hkl); rw [atL_set _ _ _ _ hk, if_neg (by omega), HL.out] at this; exact this) (by omega) (by omega)).mono ?_
          rintro e w3 ⟨rfl, hp3, hm3, t3⟩
          go_wp2_with fail
          go_roundw
          case rel =>
            have hjj := HJ.out
            have s2 : w2.heap.size ≤ w3.heap.size := t3.size
            have nq' : ∀ o, w3.cell? ⟨w.heap.size, o, none⟩ = w2.cell? ⟨w.heap.size, o, none⟩ := fun o => t3.cell o (Nat.lt_of_lt_of_le ql hb2.size) (by omega)
            refine ⟨j, M.set k ⟨lk, ln, lv⟩, c' + 1, by go_num, ?_, by omega, ?_⟩
            · exact {
                hp := by rw [hl] at hp3; exact hp3
                hk := by simpa using hkl
                hl := by simpa using hl
                perm := by have := hole_perm HR.out.perm hk (p := j) hkl (by omega); rwa [HL.out] at this
                turn := (HR.out.turn.then (q := fun _ => False) (Turn.of_below hb2) (fun _ _ h => h.elim)).then t3 (fun _ _ h => h)
                q0 := (nq' 0).trans k0
                q1 := (nq' 1).trans k1
                q2 := (nq' 2).trans k2
                ql := Nat.lt_of_lt_of_le ql (Nat.le_trans hb2.size s2) }
            · have := hole_down (kk := j) HU.out hk hkl (by omega) (by rw [HL.out]; exact hd) (by rw [HL.out]; exact HMIN.out)
              rwa [HL.out] at this
          case measure => have := HJ.out; simp [intOf]; omega
    · have hjn' : decide (L.length ≤ j) = true := decide_eq_true (by omega)
      go_wp2_with fail
      have hp2 : HP wr base sb bm (.slice (some ⟨g, 0, none⟩) M.length cap) nx M c' := by rw [hl]; exact HR.out.hp
      refine (lay_any hp2 k hk ⟨xk, xn, xv⟩ hwx (by omega) (by omega)).mono ?_
      rintro e w3 ⟨rfl, hp3, hm3, t3⟩
      go_wp2_with fail
      go_end0
      rw [hl] at hp3
      exact ⟨rfl, _, HR.out.perm, hole_down_end HU.out hk (by have := HJ.out; intro i' h1 h2; omega), hp3.mono (by omega), ⟨_, k, by omega, hm3⟩, HR.out.turn.then t3 (fun _ _ h => h)⟩
end Go.Proofs.Ytjfdokoigkdciaa

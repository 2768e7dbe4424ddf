/- Whether an event may be: the program's check, walked, at events whose parts were read. Printed by gen_chk.py. -/
import Derived.Test.YtaeophaecclnbaaGreatDoorMgF
import Derived.Test.YtaeophaecclnbaaGreatDoorMgG
import Derived.Test.YtaeophaecclnbaaGreatDoorMgD
import Derived.Test.YtaeophaecclnbaaGreatDoorMgO
namespace Go.Proofs.YtaeophaecclnbaaGreatDoor
open Go.RowKit

/-- What Check comes to, in parts. -/
def chkI (id : Int) (b s d : Bool) (v : List Node) (lo hi i : Int) : Int :=
  if decide (id < 500) && (!b || s) && (!d || decide ((atN v 0).kind = 5)) && decide (lo ≤ i) && decide (i ≤ hi) then 0 else 3
theorem chk_parts (x : Ev) : chkE x = chkI x.id (nameK x.kind) (nameS x.name) (listK x.kind) x.value (leastK x.kind) (mostK x.kind) x.int := rfl
section
variable {id : Int} {b s d : Bool} {v : List Node} {lo hi i : Int}
theorem chkI_ok {z : Int} (hz : z = 0) (h1 : id < 500) (h2 : lo ≤ i) (h3 : i ≤ hi) (h4 : (!b || s) = true) (h5 : d = false ∨ (atN v 0).kind = 5) : z = chkI id b s d v lo hi i := by
  subst hz
  unfold chkI
  rw [decide_eq_true h1, decide_eq_true h2, decide_eq_true h3, h4]
  rcases h5 with h5 | h5
  · rw [h5]; rfl
  · rw [decide_eq_true h5]; cases d <;> rfl
theorem chkI_id (h : ¬ id < 500) : (3 : Int) = chkI id b s d v lo hi i := by unfold chkI; rw [decide_eq_false h]; rfl
theorem chkI_lo (h : ¬ lo ≤ i) : (3 : Int) = chkI id b s d v lo hi i := by unfold chkI; rw [decide_eq_false h]; simp
theorem chkI_hi (h : ¬ i ≤ hi) : (3 : Int) = chkI id b s d v lo hi i := by unfold chkI; rw [decide_eq_false h]; simp
theorem chkI_name : (3 : Int) = chkI id true false d v lo hi i := by unfold chkI; simp
theorem chkI_list {z : Int} (hz : z = 3) (h : ¬ (atN v 0).kind = 5) : z = chkI id b s true v lo hi i := by subst hz; unfold chkI; rw [decide_eq_false h]; simp
end
theorem list_value {k : Nat} (h : valueK k = false) : listK k = false := by
  unfold valueK at h
  unfold listK
  simp only [Bool.or_eq_false_iff] at h ⊢
  exact ⟨⟨h.1.1.1.1.1.1, h.1.1.1.1.1.2⟩, h.1.1.1.1.2⟩
set_option maxRecDepth 100000 in
set_option maxHeartbeats 16000000 in
theorem chk_any {x : Ev} {A : Option Addr} {c : Nat} {w : World} (h : EvC x) (hn : NodesIn w A x.value) : Calls Tryz.prog 121 #[evV x A c] w (RetB (.int .i64 (chkE x)) w) := by
  rw [chk_parts]
  have HF := Lib.hid (fields_any x.kind h.ok.kind)
  have HN := Lib.hid (name_any x.name (by have := h.ok.name; omega))
  have i0 := h.ok.i0
  have I0 := h.id0
  have N0 := h.name0
  have hz := strB_size x.name
  have LV : valueK x.kind = false → listK x.kind = false := list_value
  have L0 : valueK x.kind = false → x.value = [] := h.value0
  have HV : valueK x.kind = true → ∃ b0 o0 : Nat, A = some ⟨b0, o0, none⟩ ∧ Hid (∀ w1, Below w.heap.size w w1 → Calls Tryz.prog 61 #[.slice (some ⟨b0, o0, none⟩) x.value.length c] w1 (RetB (.int .i64 0) w1)) ∧ b0 < w.heap.size ∧ w.cell? ⟨b0, o0, none⟩ = some (.int .u8 ((atN x.value 0).kind : Int)) := fun hv => by
    have hR := h.right hv
    obtain ⟨b0, o0, hA, hlt, hc⟩ := hn hR.pos
    refine ⟨b0, o0, hA, Lib.hid fun w1 hb => checkN_any hR h.ok.value (Nat.lt_of_lt_of_le hlt hb.size) (fun k hk => (hc k hk).below hb hlt), hlt, ?_⟩
    have := (hc 0 hR.pos).c0
    rw [Nat.zero_mul, Nat.add_zero] at this
    exact this
  have hpos : valueK x.kind = true → 0 < x.value.length := fun hv => (h.right hv).pos
  unfold evV
  unfold fieldsV at HF
  rw [decide_eq_true h.k1, decide_eq_true h.k2] at HF
  clear h hn
  obtain ⟨k, id, nm, v, i⟩ := x
  dsimp only at *
  generalize idK k = a at *
  generalize nameK k = b at *
  generalize listK k = d at *
  generalize valueK k = f at *
  generalize intK k = g at *
  generalize leastK k = lo at *
  generalize mostK k = hi at *
  generalize nameS nm = s at *
  cases a with
  | true =>
    by_cases hid : id < 500
    · by_cases hlo : lo ≤ i
      · by_cases hhi : i ≤ hi
        · cases b with
          | true =>
            cases s with
            | false =>
              cases f
              all_goals
                go_enter Tryz.func121, Tryz.ntmps121
                go_wp2_with fail
                refine (HF.out _).mono ?_
                rintro e w1 ⟨rfl, hb1⟩
                have kx := fun j => hb1.cell (p := ⟨w.heap.size, j, none⟩) (by simp)
                have x0 := kx 0
                have x1 := kx 1
                have x2 := kx 2
                have x3 := kx 3
                have x4 := kx 4
                simp at x0 x1 x2 x3 x4
                have hsz : w.heap.size < w1.heap.size := by have := hb1.size; simp at this; omega
                have HB := Lib.hid (show Below w.heap.size w w1 from ((Below.refl _ w).alloc (Nat.le_refl _) _).trans (hb1.mono (by simp)))
                clear kx hb1
                go_wp2_with fail
                refine (HN.out _).mono ?_
                rintro e w2 ⟨rfl, rfl⟩
                go_wp2_with fail
                all_goals first
                  | (exfalso; omega)
                  | (go_ret
                     exact ⟨ret_int (by exact chkI_name), by have hb0 := HB.out; go_grown; try exact hb0⟩)
            | true =>
              cases f with
              | false =>
                go_enter Tryz.func121, Tryz.ntmps121
                go_wp2_with fail
                refine (HF.out _).mono ?_
                rintro e w1 ⟨rfl, hb1⟩
                have kx := fun j => hb1.cell (p := ⟨w.heap.size, j, none⟩) (by simp)
                have x0 := kx 0
                have x1 := kx 1
                have x2 := kx 2
                have x3 := kx 3
                have x4 := kx 4
                simp at x0 x1 x2 x3 x4
                have hsz : w.heap.size < w1.heap.size := by have := hb1.size; simp at this; omega
                have HB := Lib.hid (show Below w.heap.size w w1 from ((Below.refl _ w).alloc (Nat.le_refl _) _).trans (hb1.mono (by simp)))
                clear kx hb1
                go_wp2_with fail
                refine (HN.out _).mono ?_
                rintro e w2 ⟨rfl, rfl⟩
                go_wp2_with fail
                all_goals first
                  | (exfalso; omega)
                  | (go_ret
                     exact ⟨ret_int (by exact chkI_ok rfl hid hlo hhi (by simp [*]) (.inl (LV (by trivial)))), by have hb0 := HB.out; go_grown; try exact hb0⟩)
              | true =>
                obtain ⟨b0, o0, rfl, HC, hl0, cv⟩ := HV rfl
                cases d with
                | false =>
                  go_enter Tryz.func121, Tryz.ntmps121
                  go_wp2_with fail
                  refine (HF.out _).mono ?_
                  rintro e w1 ⟨rfl, hb1⟩
                  have kx := fun j => hb1.cell (p := ⟨w.heap.size, j, none⟩) (by simp)
                  have x0 := kx 0
                  have x1 := kx 1
                  have x2 := kx 2
                  have x3 := kx 3
                  have x4 := kx 4
                  simp at x0 x1 x2 x3 x4
                  have hsz : w.heap.size < w1.heap.size := by have := hb1.size; simp at this; omega
                  have HB := Lib.hid (show Below w.heap.size w w1 from ((Below.refl _ w).alloc (Nat.le_refl _) _).trans (hb1.mono (by simp)))
                  clear kx hb1
                  go_wp2_with fail
                  refine (HN.out _).mono ?_
                  rintro e w2 ⟨rfl, rfl⟩
                  go_wp2_with fail
                  refine (HC.out _ (HB.out.alloc HB.out.size _)).mono ?_
                  rintro e w3 ⟨rfl, hb3⟩
                  have HB3 := Lib.hid (bthen (HB.out.alloc HB.out.size _) hb3)
                  have d0 := (HB3.out.cell (p := ⟨b0, o0, none⟩) hl0).trans cv
                  have y3 := hb3.cell (p := ⟨w1.heap.size, 3, none⟩) (by simp)
                  have z3 := (hb3.cell (p := ⟨w.heap.size, 3, none⟩) (by simp; omega)).trans ((cell_old w1 _ w.heap.size 3 hsz).trans x3)
                  simp at y3
                  clear hb3 x0 x1 x2 x3 x4
                  go_wp2_with fail
                  go_ret
                  exact ⟨ret_int (by exact chkI_ok rfl hid hlo hhi (by simp [*]) (.inl rfl)), HB3.out⟩
                | true =>
                  by_cases hk5 : (atN v 0).kind = 5
                  · have hk5b : (((atN v 0).kind : Int) == 5) = true := by rw [hk5]; rfl
                    go_enter Tryz.func121, Tryz.ntmps121
                    go_wp2_with fail
                    refine (HF.out _).mono ?_
                    rintro e w1 ⟨rfl, hb1⟩
                    have kx := fun j => hb1.cell (p := ⟨w.heap.size, j, none⟩) (by simp)
                    have x0 := kx 0
                    have x1 := kx 1
                    have x2 := kx 2
                    have x3 := kx 3
                    have x4 := kx 4
                    simp at x0 x1 x2 x3 x4
                    have hsz : w.heap.size < w1.heap.size := by have := hb1.size; simp at this; omega
                    have HB := Lib.hid (show Below w.heap.size w w1 from ((Below.refl _ w).alloc (Nat.le_refl _) _).trans (hb1.mono (by simp)))
                    clear kx hb1
                    go_wp2_with fail
                    refine (HN.out _).mono ?_
                    rintro e w2 ⟨rfl, rfl⟩
                    go_wp2_with fail
                    refine (HC.out _ (HB.out.alloc HB.out.size _)).mono ?_
                    rintro e w3 ⟨rfl, hb3⟩
                    have HB3 := Lib.hid (bthen (HB.out.alloc HB.out.size _) hb3)
                    have d0 := (HB3.out.cell (p := ⟨b0, o0, none⟩) hl0).trans cv
                    have y3 := hb3.cell (p := ⟨w1.heap.size, 3, none⟩) (by simp)
                    have z3 := (hb3.cell (p := ⟨w.heap.size, 3, none⟩) (by simp; omega)).trans ((cell_old w1 _ w.heap.size 3 hsz).trans x3)
                    simp at y3
                    clear hb3 x0 x1 x2 x3 x4
                    go_wp2_with fail
                    go_ret
                    exact ⟨ret_int (by exact chkI_ok rfl hid hlo hhi (by simp [*]) (.inr hk5)), HB3.out⟩
                  · have hk5b : (((atN v 0).kind : Int) == 5) = false := beq_eq_false_iff_ne.2 (by omega)
                    go_enter Tryz.func121, Tryz.ntmps121
                    go_wp2_with fail
                    refine (HF.out _).mono ?_
                    rintro e w1 ⟨rfl, hb1⟩
                    have kx := fun j => hb1.cell (p := ⟨w.heap.size, j, none⟩) (by simp)
                    have x0 := kx 0
                    have x1 := kx 1
                    have x2 := kx 2
                    have x3 := kx 3
                    have x4 := kx 4
                    simp at x0 x1 x2 x3 x4
                    have hsz : w.heap.size < w1.heap.size := by have := hb1.size; simp at this; omega
                    have HB := Lib.hid (show Below w.heap.size w w1 from ((Below.refl _ w).alloc (Nat.le_refl _) _).trans (hb1.mono (by simp)))
                    clear kx hb1
                    go_wp2_with fail
                    refine (HN.out _).mono ?_
                    rintro e w2 ⟨rfl, rfl⟩
                    go_wp2_with fail
                    refine (HC.out _ (HB.out.alloc HB.out.size _)).mono ?_
                    rintro e w3 ⟨rfl, hb3⟩
                    have HB3 := Lib.hid (bthen (HB.out.alloc HB.out.size _) hb3)
                    have d0 := (HB3.out.cell (p := ⟨b0, o0, none⟩) hl0).trans cv
                    have y3 := hb3.cell (p := ⟨w1.heap.size, 3, none⟩) (by simp)
                    have z3 := (hb3.cell (p := ⟨w.heap.size, 3, none⟩) (by simp; omega)).trans ((cell_old w1 _ w.heap.size 3 hsz).trans x3)
                    simp at y3
                    clear hb3 x0 x1 x2 x3 x4
                    go_wp2_with fail
                    go_ret
                    exact ⟨ret_int (by exact chkI_list rfl hk5), HB3.out⟩
          | false =>
            obtain rfl := N0 rfl
            rw [show strB ([] : List UInt8) = (⟨#[]⟩ : ByteArray) from rfl]
            cases f with
            | false =>
              go_enter Tryz.func121, Tryz.ntmps121
              go_wp2_with fail
              refine (HF.out _).mono ?_
              rintro e w1 ⟨rfl, hb1⟩
              have kx := fun j => hb1.cell (p := ⟨w.heap.size, j, none⟩) (by simp)
              have x0 := kx 0
              have x1 := kx 1
              have x2 := kx 2
              have x3 := kx 3
              have x4 := kx 4
              simp at x0 x1 x2 x3 x4
              have hsz : w.heap.size < w1.heap.size := by have := hb1.size; simp at this; omega
              have HB := Lib.hid (show Below w.heap.size w w1 from ((Below.refl _ w).alloc (Nat.le_refl _) _).trans (hb1.mono (by simp)))
              clear kx hb1
              go_wp2_with fail
              all_goals first
                | (exfalso; omega)
                | (go_ret
                   exact ⟨ret_int (by exact chkI_ok rfl hid hlo hhi (by simp [*]) (.inl (LV (by trivial)))), by have hb0 := HB.out; go_grown; try exact hb0⟩)
            | true =>
              obtain ⟨b0, o0, rfl, HC, hl0, cv⟩ := HV rfl
              cases d with
              | false =>
                go_enter Tryz.func121, Tryz.ntmps121
                go_wp2_with fail
                refine (HF.out _).mono ?_
                rintro e w1 ⟨rfl, hb1⟩
                have kx := fun j => hb1.cell (p := ⟨w.heap.size, j, none⟩) (by simp)
                have x0 := kx 0
                have x1 := kx 1
                have x2 := kx 2
                have x3 := kx 3
                have x4 := kx 4
                simp at x0 x1 x2 x3 x4
                have hsz : w.heap.size < w1.heap.size := by have := hb1.size; simp at this; omega
                have HB := Lib.hid (show Below w.heap.size w w1 from ((Below.refl _ w).alloc (Nat.le_refl _) _).trans (hb1.mono (by simp)))
                clear kx hb1
                go_wp2_with fail
                refine (HC.out _ (HB.out.alloc HB.out.size _)).mono ?_
                rintro e w3 ⟨rfl, hb3⟩
                have HB3 := Lib.hid (bthen (HB.out.alloc HB.out.size _) hb3)
                have d0 := (HB3.out.cell (p := ⟨b0, o0, none⟩) hl0).trans cv
                have y3 := hb3.cell (p := ⟨w1.heap.size, 3, none⟩) (by simp)
                have z3 := (hb3.cell (p := ⟨w.heap.size, 3, none⟩) (by simp; omega)).trans ((cell_old w1 _ w.heap.size 3 hsz).trans x3)
                simp at y3
                clear hb3 x0 x1 x2 x3 x4
                go_wp2_with fail
                go_ret
                exact ⟨ret_int (by exact chkI_ok rfl hid hlo hhi (by simp [*]) (.inl rfl)), HB3.out⟩
              | true =>
                by_cases hk5 : (atN v 0).kind = 5
                · have hk5b : (((atN v 0).kind : Int) == 5) = true := by rw [hk5]; rfl
                  go_enter Tryz.func121, Tryz.ntmps121
                  go_wp2_with fail
                  refine (HF.out _).mono ?_
                  rintro e w1 ⟨rfl, hb1⟩
                  have kx := fun j => hb1.cell (p := ⟨w.heap.size, j, none⟩) (by simp)
                  have x0 := kx 0
                  have x1 := kx 1
                  have x2 := kx 2
                  have x3 := kx 3
                  have x4 := kx 4
                  simp at x0 x1 x2 x3 x4
                  have hsz : w.heap.size < w1.heap.size := by have := hb1.size; simp at this; omega
                  have HB := Lib.hid (show Below w.heap.size w w1 from ((Below.refl _ w).alloc (Nat.le_refl _) _).trans (hb1.mono (by simp)))
                  clear kx hb1
                  go_wp2_with fail
                  refine (HC.out _ (HB.out.alloc HB.out.size _)).mono ?_
                  rintro e w3 ⟨rfl, hb3⟩
                  have HB3 := Lib.hid (bthen (HB.out.alloc HB.out.size _) hb3)
                  have d0 := (HB3.out.cell (p := ⟨b0, o0, none⟩) hl0).trans cv
                  have y3 := hb3.cell (p := ⟨w1.heap.size, 3, none⟩) (by simp)
                  have z3 := (hb3.cell (p := ⟨w.heap.size, 3, none⟩) (by simp; omega)).trans ((cell_old w1 _ w.heap.size 3 hsz).trans x3)
                  simp at y3
                  clear hb3 x0 x1 x2 x3 x4
                  go_wp2_with fail
                  go_ret
                  exact ⟨ret_int (by exact chkI_ok rfl hid hlo hhi (by simp [*]) (.inr hk5)), HB3.out⟩
                · have hk5b : (((atN v 0).kind : Int) == 5) = false := beq_eq_false_iff_ne.2 (by omega)
                  go_enter Tryz.func121, Tryz.ntmps121
                  go_wp2_with fail
                  refine (HF.out _).mono ?_
                  rintro e w1 ⟨rfl, hb1⟩
                  have kx := fun j => hb1.cell (p := ⟨w.heap.size, j, none⟩) (by simp)
                  have x0 := kx 0
                  have x1 := kx 1
                  have x2 := kx 2
                  have x3 := kx 3
                  have x4 := kx 4
                  simp at x0 x1 x2 x3 x4
                  have hsz : w.heap.size < w1.heap.size := by have := hb1.size; simp at this; omega
                  have HB := Lib.hid (show Below w.heap.size w w1 from ((Below.refl _ w).alloc (Nat.le_refl _) _).trans (hb1.mono (by simp)))
                  clear kx hb1
                  go_wp2_with fail
                  refine (HC.out _ (HB.out.alloc HB.out.size _)).mono ?_
                  rintro e w3 ⟨rfl, hb3⟩
                  have HB3 := Lib.hid (bthen (HB.out.alloc HB.out.size _) hb3)
                  have d0 := (HB3.out.cell (p := ⟨b0, o0, none⟩) hl0).trans cv
                  have y3 := hb3.cell (p := ⟨w1.heap.size, 3, none⟩) (by simp)
                  have z3 := (hb3.cell (p := ⟨w.heap.size, 3, none⟩) (by simp; omega)).trans ((cell_old w1 _ w.heap.size 3 hsz).trans x3)
                  simp at y3
                  clear hb3 x0 x1 x2 x3 x4
                  go_wp2_with fail
                  go_ret
                  exact ⟨ret_int (by exact chkI_list rfl hk5), HB3.out⟩
        · cases b <;> cases f
          all_goals
            go_enter Tryz.func121, Tryz.ntmps121
            go_wp2_with fail
            refine (HF.out _).mono ?_
            rintro e w1 ⟨rfl, hb1⟩
            have kx := fun j => hb1.cell (p := ⟨w.heap.size, j, none⟩) (by simp)
            have x0 := kx 0
            have x1 := kx 1
            have x2 := kx 2
            have x3 := kx 3
            have x4 := kx 4
            simp at x0 x1 x2 x3 x4
            have hsz : w.heap.size < w1.heap.size := by have := hb1.size; simp at this; omega
            have HB := Lib.hid (show Below w.heap.size w w1 from ((Below.refl _ w).alloc (Nat.le_refl _) _).trans (hb1.mono (by simp)))
            clear kx hb1
            go_wp2_with fail
            all_goals first
              | (exfalso; omega)
              | (go_ret
                 exact ⟨ret_int (by exact chkI_hi (by omega)), by have hb0 := HB.out; go_grown; try exact hb0⟩)
      · cases b <;> cases f
        all_goals
          go_enter Tryz.func121, Tryz.ntmps121
          go_wp2_with fail
          refine (HF.out _).mono ?_
          rintro e w1 ⟨rfl, hb1⟩
          have kx := fun j => hb1.cell (p := ⟨w.heap.size, j, none⟩) (by simp)
          have x0 := kx 0
          have x1 := kx 1
          have x2 := kx 2
          have x3 := kx 3
          have x4 := kx 4
          simp at x0 x1 x2 x3 x4
          have hsz : w.heap.size < w1.heap.size := by have := hb1.size; simp at this; omega
          have HB := Lib.hid (show Below w.heap.size w w1 from ((Below.refl _ w).alloc (Nat.le_refl _) _).trans (hb1.mono (by simp)))
          clear kx hb1
          go_wp2_with fail
          all_goals first
            | (exfalso; omega)
            | (go_ret
               exact ⟨ret_int (by exact chkI_lo (by omega)), by have hb0 := HB.out; go_grown; try exact hb0⟩)
    · cases b <;> cases f
      all_goals
        go_enter Tryz.func121, Tryz.ntmps121
        go_wp2_with fail
        refine (HF.out _).mono ?_
        rintro e w1 ⟨rfl, hb1⟩
        have kx := fun j => hb1.cell (p := ⟨w.heap.size, j, none⟩) (by simp)
        have x0 := kx 0
        have x1 := kx 1
        have x2 := kx 2
        have x3 := kx 3
        have x4 := kx 4
        simp at x0 x1 x2 x3 x4
        have hsz : w.heap.size < w1.heap.size := by have := hb1.size; simp at this; omega
        have HB := Lib.hid (show Below w.heap.size w w1 from ((Below.refl _ w).alloc (Nat.le_refl _) _).trans (hb1.mono (by simp)))
        clear kx hb1
        go_wp2_with fail
        all_goals first
          | (exfalso; omega)
          | (go_ret
             exact ⟨ret_int (by exact chkI_id (by omega)), by have hb0 := HB.out; go_grown; try exact hb0⟩)
  | false =>
    obtain rfl := I0 rfl
    have hid : (0 : Int) < 500 := by decide
    by_cases hlo : lo ≤ i
    · by_cases hhi : i ≤ hi
      · cases b with
        | true =>
          cases s with
          | false =>
            cases f
            all_goals
              go_enter Tryz.func121, Tryz.ntmps121
              go_wp2_with fail
              refine (HF.out _).mono ?_
              rintro e w1 ⟨rfl, hb1⟩
              have kx := fun j => hb1.cell (p := ⟨w.heap.size, j, none⟩) (by simp)
              have x0 := kx 0
              have x1 := kx 1
              have x2 := kx 2
              have x3 := kx 3
              have x4 := kx 4
              simp at x0 x1 x2 x3 x4
              have hsz : w.heap.size < w1.heap.size := by have := hb1.size; simp at this; omega
              have HB := Lib.hid (show Below w.heap.size w w1 from ((Below.refl _ w).alloc (Nat.le_refl _) _).trans (hb1.mono (by simp)))
              clear kx hb1
              go_wp2_with fail
              refine (HN.out _).mono ?_
              rintro e w2 ⟨rfl, rfl⟩
              go_wp2_with fail
              all_goals first
                | (exfalso; omega)
                | (go_ret
                   exact ⟨ret_int (by exact chkI_name), by have hb0 := HB.out; go_grown; try exact hb0⟩)
          | true =>
            cases f with
            | false =>
              go_enter Tryz.func121, Tryz.ntmps121
              go_wp2_with fail
              refine (HF.out _).mono ?_
              rintro e w1 ⟨rfl, hb1⟩
              have kx := fun j => hb1.cell (p := ⟨w.heap.size, j, none⟩) (by simp)
              have x0 := kx 0
              have x1 := kx 1
              have x2 := kx 2
              have x3 := kx 3
              have x4 := kx 4
              simp at x0 x1 x2 x3 x4
              have hsz : w.heap.size < w1.heap.size := by have := hb1.size; simp at this; omega
              have HB := Lib.hid (show Below w.heap.size w w1 from ((Below.refl _ w).alloc (Nat.le_refl _) _).trans (hb1.mono (by simp)))
              clear kx hb1
              go_wp2_with fail
              refine (HN.out _).mono ?_
              rintro e w2 ⟨rfl, rfl⟩
              go_wp2_with fail
              all_goals first
                | (exfalso; omega)
                | (go_ret
                   exact ⟨ret_int (by exact chkI_ok rfl hid hlo hhi (by simp [*]) (.inl (LV (by trivial)))), by have hb0 := HB.out; go_grown; try exact hb0⟩)
            | true =>
              obtain ⟨b0, o0, rfl, HC, hl0, cv⟩ := HV rfl
              cases d with
              | false =>
                go_enter Tryz.func121, Tryz.ntmps121
                go_wp2_with fail
                refine (HF.out _).mono ?_
                rintro e w1 ⟨rfl, hb1⟩
                have kx := fun j => hb1.cell (p := ⟨w.heap.size, j, none⟩) (by simp)
                have x0 := kx 0
                have x1 := kx 1
                have x2 := kx 2
                have x3 := kx 3
                have x4 := kx 4
                simp at x0 x1 x2 x3 x4
                have hsz : w.heap.size < w1.heap.size := by have := hb1.size; simp at this; omega
                have HB := Lib.hid (show Below w.heap.size w w1 from ((Below.refl _ w).alloc (Nat.le_refl _) _).trans (hb1.mono (by simp)))
                clear kx hb1
                go_wp2_with fail
                refine (HN.out _).mono ?_
                rintro e w2 ⟨rfl, rfl⟩
                go_wp2_with fail
                refine (HC.out _ (HB.out.alloc HB.out.size _)).mono ?_
                rintro e w3 ⟨rfl, hb3⟩
                have HB3 := Lib.hid (bthen (HB.out.alloc HB.out.size _) hb3)
                have d0 := (HB3.out.cell (p := ⟨b0, o0, none⟩) hl0).trans cv
                have y3 := hb3.cell (p := ⟨w1.heap.size, 3, none⟩) (by simp)
                have z3 := (hb3.cell (p := ⟨w.heap.size, 3, none⟩) (by simp; omega)).trans ((cell_old w1 _ w.heap.size 3 hsz).trans x3)
                simp at y3
                clear hb3 x0 x1 x2 x3 x4
                go_wp2_with fail
                go_ret
                exact ⟨ret_int (by exact chkI_ok rfl hid hlo hhi (by simp [*]) (.inl rfl)), HB3.out⟩
              | true =>
                by_cases hk5 : (atN v 0).kind = 5
                · have hk5b : (((atN v 0).kind : Int) == 5) = true := by rw [hk5]; rfl
                  go_enter Tryz.func121, Tryz.ntmps121
                  go_wp2_with fail
                  refine (HF.out _).mono ?_
                  rintro e w1 ⟨rfl, hb1⟩
                  have kx := fun j => hb1.cell (p := ⟨w.heap.size, j, none⟩) (by simp)
                  have x0 := kx 0
                  have x1 := kx 1
                  have x2 := kx 2
                  have x3 := kx 3
                  have x4 := kx 4
                  simp at x0 x1 x2 x3 x4
                  have hsz : w.heap.size < w1.heap.size := by have := hb1.size; simp at this; omega
                  have HB := Lib.hid (show Below w.heap.size w w1 from ((Below.refl _ w).alloc (Nat.le_refl _) _).trans (hb1.mono (by simp)))
                  clear kx hb1
                  go_wp2_with fail
                  refine (HN.out _).mono ?_
                  rintro e w2 ⟨rfl, rfl⟩
                  go_wp2_with fail
                  refine (HC.out _ (HB.out.alloc HB.out.size _)).mono ?_
                  rintro e w3 ⟨rfl, hb3⟩
                  have HB3 := Lib.hid (bthen (HB.out.alloc HB.out.size _) hb3)
                  have d0 := (HB3.out.cell (p := ⟨b0, o0, none⟩) hl0).trans cv
                  have y3 := hb3.cell (p := ⟨w1.heap.size, 3, none⟩) (by simp)
                  have z3 := (hb3.cell (p := ⟨w.heap.size, 3, none⟩) (by simp; omega)).trans ((cell_old w1 _ w.heap.size 3 hsz).trans x3)
                  simp at y3
                  clear hb3 x0 x1 x2 x3 x4
                  go_wp2_with fail
                  go_ret
                  exact ⟨ret_int (by exact chkI_ok rfl hid hlo hhi (by simp [*]) (.inr hk5)), HB3.out⟩
                · have hk5b : (((atN v 0).kind : Int) == 5) = false := beq_eq_false_iff_ne.2 (by omega)
                  go_enter Tryz.func121, Tryz.ntmps121
                  go_wp2_with fail
                  refine (HF.out _).mono ?_
                  rintro e w1 ⟨rfl, hb1⟩
                  have kx := fun j => hb1.cell (p := ⟨w.heap.size, j, none⟩) (by simp)
                  have x0 := kx 0
                  have x1 := kx 1
                  have x2 := kx 2
                  have x3 := kx 3
                  have x4 := kx 4
                  simp at x0 x1 x2 x3 x4
                  have hsz : w.heap.size < w1.heap.size := by have := hb1.size; simp at this; omega
                  have HB := Lib.hid (show Below w.heap.size w w1 from ((Below.refl _ w).alloc (Nat.le_refl _) _).trans (hb1.mono (by simp)))
                  clear kx hb1
                  go_wp2_with fail
                  refine (HN.out _).mono ?_
                  rintro e w2 ⟨rfl, rfl⟩
                  go_wp2_with fail
                  refine (HC.out _ (HB.out.alloc HB.out.size _)).mono ?_
                  rintro e w3 ⟨rfl, hb3⟩
                  have HB3 := Lib.hid (bthen (HB.out.alloc HB.out.size _) hb3)
                  have d0 := (HB3.out.cell (p := ⟨b0, o0, none⟩) hl0).trans cv
                  have y3 := hb3.cell (p := ⟨w1.heap.size, 3, none⟩) (by simp)
                  have z3 := (hb3.cell (p := ⟨w.heap.size, 3, none⟩) (by simp; omega)).trans ((cell_old w1 _ w.heap.size 3 hsz).trans x3)
                  simp at y3
                  clear hb3 x0 x1 x2 x3 x4
                  go_wp2_with fail
                  go_ret
                  exact ⟨ret_int (by exact chkI_list rfl hk5), HB3.out⟩
        | false =>
          obtain rfl := N0 rfl
          rw [show strB ([] : List UInt8) = (⟨#[]⟩ : ByteArray) from rfl]
          cases f with
          | false =>
            go_enter Tryz.func121, Tryz.ntmps121
            go_wp2_with fail
            refine (HF.out _).mono ?_
            rintro e w1 ⟨rfl, hb1⟩
            have kx := fun j => hb1.cell (p := ⟨w.heap.size, j, none⟩) (by simp)
            have x0 := kx 0
            have x1 := kx 1
            have x2 := kx 2
            have x3 := kx 3
            have x4 := kx 4
            simp at x0 x1 x2 x3 x4
            have hsz : w.heap.size < w1.heap.size := by have := hb1.size; simp at this; omega
            have HB := Lib.hid (show Below w.heap.size w w1 from ((Below.refl _ w).alloc (Nat.le_refl _) _).trans (hb1.mono (by simp)))
            clear kx hb1
            go_wp2_with fail
            all_goals first
              | (exfalso; omega)
              | (go_ret
                 exact ⟨ret_int (by exact chkI_ok rfl hid hlo hhi (by simp [*]) (.inl (LV (by trivial)))), by have hb0 := HB.out; go_grown; try exact hb0⟩)
          | true =>
            obtain ⟨b0, o0, rfl, HC, hl0, cv⟩ := HV rfl
            cases d with
            | false =>
              go_enter Tryz.func121, Tryz.ntmps121
              go_wp2_with fail
              refine (HF.out _).mono ?_
              rintro e w1 ⟨rfl, hb1⟩
              have kx := fun j => hb1.cell (p := ⟨w.heap.size, j, none⟩) (by simp)
              have x0 := kx 0
              have x1 := kx 1
              have x2 := kx 2
              have x3 := kx 3
              have x4 := kx 4
              simp at x0 x1 x2 x3 x4
              have hsz : w.heap.size < w1.heap.size := by have := hb1.size; simp at this; omega
              have HB := Lib.hid (show Below w.heap.size w w1 from ((Below.refl _ w).alloc (Nat.le_refl _) _).trans (hb1.mono (by simp)))
              clear kx hb1
              go_wp2_with fail
              refine (HC.out _ (HB.out.alloc HB.out.size _)).mono ?_
              rintro e w3 ⟨rfl, hb3⟩
              have HB3 := Lib.hid (bthen (HB.out.alloc HB.out.size _) hb3)
              have d0 := (HB3.out.cell (p := ⟨b0, o0, none⟩) hl0).trans cv
              have y3 := hb3.cell (p := ⟨w1.heap.size, 3, none⟩) (by simp)
              have z3 := (hb3.cell (p := ⟨w.heap.size, 3, none⟩) (by simp; omega)).trans ((cell_old w1 _ w.heap.size 3 hsz).trans x3)
              simp at y3
              clear hb3 x0 x1 x2 x3 x4
              go_wp2_with fail
              go_ret
              exact ⟨ret_int (by exact chkI_ok rfl hid hlo hhi (by simp [*]) (.inl rfl)), HB3.out⟩
            | true =>
              by_cases hk5 : (atN v 0).kind = 5
              · have hk5b : (((atN v 0).kind : Int) == 5) = true := by rw [hk5]; rfl
                go_enter Tryz.func121, Tryz.ntmps121
                go_wp2_with fail
                refine (HF.out _).mono ?_
                rintro e w1 ⟨rfl, hb1⟩
                have kx := fun j => hb1.cell (p := ⟨w.heap.size, j, none⟩) (by simp)
                have x0 := kx 0
                have x1 := kx 1
                have x2 := kx 2
                have x3 := kx 3
                have x4 := kx 4
                simp at x0 x1 x2 x3 x4
                have hsz : w.heap.size < w1.heap.size := by have := hb1.size; simp at this; omega
                have HB := Lib.hid (show Below w.heap.size w w1 from ((Below.refl _ w).alloc (Nat.le_refl _) _).trans (hb1.mono (by simp)))
                clear kx hb1
                go_wp2_with fail
                refine (HC.out _ (HB.out.alloc HB.out.size _)).mono ?_
                rintro e w3 ⟨rfl, hb3⟩
                have HB3 := Lib.hid (bthen (HB.out.alloc HB.out.size _) hb3)
                have d0 := (HB3.out.cell (p := ⟨b0, o0, none⟩) hl0).trans cv
                have y3 := hb3.cell (p := ⟨w1.heap.size, 3, none⟩) (by simp)
                have z3 := (hb3.cell (p := ⟨w.heap.size, 3, none⟩) (by simp; omega)).trans ((cell_old w1 _ w.heap.size 3 hsz).trans x3)
                simp at y3
                clear hb3 x0 x1 x2 x3 x4
                go_wp2_with fail
                go_ret
                exact ⟨ret_int (by exact chkI_ok rfl hid hlo hhi (by simp [*]) (.inr hk5)), HB3.out⟩
              · have hk5b : (((atN v 0).kind : Int) == 5) = false := beq_eq_false_iff_ne.2 (by omega)
                go_enter Tryz.func121, Tryz.ntmps121
                go_wp2_with fail
                refine (HF.out _).mono ?_
                rintro e w1 ⟨rfl, hb1⟩
                have kx := fun j => hb1.cell (p := ⟨w.heap.size, j, none⟩) (by simp)
                have x0 := kx 0
                have x1 := kx 1
                have x2 := kx 2
                have x3 := kx 3
                have x4 := kx 4
                simp at x0 x1 x2 x3 x4
                have hsz : w.heap.size < w1.heap.size := by have := hb1.size; simp at this; omega
                have HB := Lib.hid (show Below w.heap.size w w1 from ((Below.refl _ w).alloc (Nat.le_refl _) _).trans (hb1.mono (by simp)))
                clear kx hb1
                go_wp2_with fail
                refine (HC.out _ (HB.out.alloc HB.out.size _)).mono ?_
                rintro e w3 ⟨rfl, hb3⟩
                have HB3 := Lib.hid (bthen (HB.out.alloc HB.out.size _) hb3)
                have d0 := (HB3.out.cell (p := ⟨b0, o0, none⟩) hl0).trans cv
                have y3 := hb3.cell (p := ⟨w1.heap.size, 3, none⟩) (by simp)
                have z3 := (hb3.cell (p := ⟨w.heap.size, 3, none⟩) (by simp; omega)).trans ((cell_old w1 _ w.heap.size 3 hsz).trans x3)
                simp at y3
                clear hb3 x0 x1 x2 x3 x4
                go_wp2_with fail
                go_ret
                exact ⟨ret_int (by exact chkI_list rfl hk5), HB3.out⟩
      · cases b <;> cases f
        all_goals
          go_enter Tryz.func121, Tryz.ntmps121
          go_wp2_with fail
          refine (HF.out _).mono ?_
          rintro e w1 ⟨rfl, hb1⟩
          have kx := fun j => hb1.cell (p := ⟨w.heap.size, j, none⟩) (by simp)
          have x0 := kx 0
          have x1 := kx 1
          have x2 := kx 2
          have x3 := kx 3
          have x4 := kx 4
          simp at x0 x1 x2 x3 x4
          have hsz : w.heap.size < w1.heap.size := by have := hb1.size; simp at this; omega
          have HB := Lib.hid (show Below w.heap.size w w1 from ((Below.refl _ w).alloc (Nat.le_refl _) _).trans (hb1.mono (by simp)))
          clear kx hb1
          go_wp2_with fail
          all_goals first
            | (exfalso; omega)
            | (go_ret
               exact ⟨ret_int (by exact chkI_hi (by omega)), by have hb0 := HB.out; go_grown; try exact hb0⟩)
    · cases b <;> cases f
      all_goals
        go_enter Tryz.func121, Tryz.ntmps121
        go_wp2_with fail
        refine (HF.out _).mono ?_
        rintro e w1 ⟨rfl, hb1⟩
        have kx := fun j => hb1.cell (p := ⟨w.heap.size, j, none⟩) (by simp)
        have x0 := kx 0
        have x1 := kx 1
        have x2 := kx 2
        have x3 := kx 3
        have x4 := kx 4
        simp at x0 x1 x2 x3 x4
        have hsz : w.heap.size < w1.heap.size := by have := hb1.size; simp at this; omega
        have HB := Lib.hid (show Below w.heap.size w w1 from ((Below.refl _ w).alloc (Nat.le_refl _) _).trans (hb1.mono (by simp)))
        clear kx hb1
        go_wp2_with fail
        all_goals first
          | (exfalso; omega)
          | (go_ret
             exact ⟨ret_int (by exact chkI_lo (by omega)), by have hb0 := HB.out; go_grown; try exact hb0⟩)
end Go.Proofs.YtaeophaecclnbaaGreatDoor

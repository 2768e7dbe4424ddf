/- Whether an event is right: the document's function at some kinds, walked. Printed by gen_rrt.py. Whether an event is right: the document's function at some kinds, walked. Printed by gen_rrt.py. Whether an event is right: the document's function at some kinds, walked. Printed by gen_rrt.py. -/
import Derived.Test.YtaeophaecclnbaaGreatDoorMgT
namespace Go.Proofs.YtaeophaecclnbaaGreatDoor
open Go.RowKit

set_option maxRecDepth 100000 in
set_option maxHeartbeats 16000000 in
theorem rright_1 {x : Ev} {A : Option Addr} {c : Nat} {w : World} (hk : x.kind = 1) (h : EvC x) (hn : NodesIn w A x.value) : Calls Tryz.prog 78 #[evV x A c] w (RetB (.bool (rightE x)) w) := by
  have HI := Lib.hid (rid_any 1)
  have HM := Lib.hid (rnm_any 1)
  have HU := Lib.hid (rvl_any 1)
  have HT := Lib.hid (rin_any 1)
  have HN := Lib.hid (rname_any x.name (by have := h.ok.name; omega))
  rw [show idK 1 = false from rfl] at HI
  rw [show nameK 1 = true from rfl] at HM
  rw [show valueK 1 = true from rfl] at HU
  rw [show intK 1 = true from rfl] at HT
  have i0 := h.ok.i0
  have n0 := h.ok.n0
  have n1 := h.ok.n1
  have hz := str_nil x.name
  rw [rgt_parts, hk, show nameK 1 = true from rfl, show listK 1 = true from rfl, show leastK 1 = 0 from rfl, show mostK 1 = 9223372036854775807 from rfl]
  have z1 : x.id = 0 := h.id0 (by rw [hk]; rfl)
  obtain ⟨b0, o0, rfl, HC, hl0, cv⟩ : ∃ b0 o0 : Nat, A = some ⟨b0, o0, none⟩ ∧ Hid (∀ w1, Below w.heap.size w w1 → Calls Tryz.prog 124 #[.slice (some ⟨b0, o0, none⟩) x.value.length c] w1 (RetB (.int .i64 0) w1)) ∧ b0 < w.heap.size ∧ w.cell? ⟨b0, o0, none⟩ = some (.int .u8 ((atN x.value 0).kind : Int)) := by
    have hR := h.right (by rw [hk]; rfl)
    obtain ⟨b0, o0, hA, hlt, hc⟩ := hn hR.pos
    refine ⟨b0, o0, hA, Lib.hid fun w1 hb => rcheck_any hR (Nat.lt_of_lt_of_le hlt hb.size) (fun k hk => (hc k hk).below hb hlt), hlt, ?_⟩
    have := (hc 0 hR.pos).c0
    rw [Nat.zero_mul, Nat.add_zero] at this
    exact this
  have hpos := (h.right (by rw [hk]; rfl)).pos
  unfold evV
  rw [hk]
  clear h hk
  obtain ⟨kk, id, nm, v, i⟩ := x
  dsimp only at *
  subst z1
  generalize nameS nm = s at *
  by_cases hneg : i < 0
  · go_enter Tryz.func78, Tryz.ntmps78
    go_wp2_with (first | (go_at_call 74; refine (HI.out _).mono ?_; rintro e w1 ⟨rfl, rfl⟩) | (go_at_call 75; refine (HM.out _).mono ?_; rintro e w1 ⟨rfl, rfl⟩) | (go_at_call 76; refine (HU.out _).mono ?_; rintro e w1 ⟨rfl, rfl⟩) | (go_at_call 77; refine (HT.out _).mono ?_; rintro e w1 ⟨rfl, rfl⟩) | (go_at_call 123; refine (HN.out _).mono ?_; rintro e w1 ⟨rfl, rfl⟩))
    all_goals first
      | (exfalso; omega)
      | (go_ret
         exact ⟨ret_bool (by exact rgtI_lo (by omega)), by go_grown⟩)
  · cases s with
    | false =>
      go_enter Tryz.func78, Tryz.ntmps78
      go_wp2_with (first | (go_at_call 74; refine (HI.out _).mono ?_; rintro e w1 ⟨rfl, rfl⟩) | (go_at_call 75; refine (HM.out _).mono ?_; rintro e w1 ⟨rfl, rfl⟩) | (go_at_call 76; refine (HU.out _).mono ?_; rintro e w1 ⟨rfl, rfl⟩) | (go_at_call 77; refine (HT.out _).mono ?_; rintro e w1 ⟨rfl, rfl⟩) | (go_at_call 123; refine (HN.out _).mono ?_; rintro e w1 ⟨rfl, rfl⟩))
      all_goals first
        | (exfalso; omega)
        | (go_ret
           exact ⟨ret_bool (by exact rgtI_name), by go_grown⟩)
    | true =>
      by_cases h5 : (atN v 0).kind = 5
      · have h6 : (((atN v 0).kind : Int) == 5) = true := by rw [h5]; rfl
        go_enter Tryz.func78, Tryz.ntmps78
        go_wp2_with (first | (go_at_call 74; refine (HI.out _).mono ?_; rintro e w1 ⟨rfl, rfl⟩) | (go_at_call 75; refine (HM.out _).mono ?_; rintro e w1 ⟨rfl, rfl⟩) | (go_at_call 76; refine (HU.out _).mono ?_; rintro e w1 ⟨rfl, rfl⟩) | (go_at_call 77; refine (HT.out _).mono ?_; rintro e w1 ⟨rfl, rfl⟩) | (go_at_call 123; refine (HN.out _).mono ?_; rintro e w1 ⟨rfl, rfl⟩))
        all_goals first | (exfalso; omega) | skip
        refine (HC.out _ ((Below.refl _ w).alloc (Nat.le_refl _) _)).mono ?_
        rintro e w3 ⟨rfl, hb3⟩
        have HB := Lib.hid (bthen ((Below.refl _ w).alloc (Nat.le_refl _) _) hb3)
        have d0 := (HB.out.cell (p := ⟨b0, o0, none⟩) hl0).trans cv
        have kz := fun j => hb3.cell (p := ⟨w.heap.size, j, none⟩) (by simp)
        have z0 := kz 0
        have z1 := kz 1
        have z2 := kz 2
        have z3 := kz 3
        have z4 := kz 4
        simp at z0 z1 z2 z3 z4
        clear hb3 kz
        go_wp2_with (first | (go_at_call 74; refine (HI.out _).mono ?_; rintro e w1 ⟨rfl, rfl⟩) | (go_at_call 75; refine (HM.out _).mono ?_; rintro e w1 ⟨rfl, rfl⟩) | (go_at_call 76; refine (HU.out _).mono ?_; rintro e w1 ⟨rfl, rfl⟩) | (go_at_call 77; refine (HT.out _).mono ?_; rintro e w1 ⟨rfl, rfl⟩) | (go_at_call 123; refine (HN.out _).mono ?_; rintro e w1 ⟨rfl, rfl⟩))
        all_goals first
          | (exfalso; omega)
          | (go_ret
             exact ⟨ret_bool (by exact rgtI_ok (by omega) (by omega) (by omega) rfl (.inr h5)), HB.out⟩)
      · have h6 : (((atN v 0).kind : Int) == 5) = false := beq_eq_false_iff_ne.2 (by omega)
        go_enter Tryz.func78, Tryz.ntmps78
        go_wp2_with (first | (go_at_call 74; refine (HI.out _).mono ?_; rintro e w1 ⟨rfl, rfl⟩) | (go_at_call 75; refine (HM.out _).mono ?_; rintro e w1 ⟨rfl, rfl⟩) | (go_at_call 76; refine (HU.out _).mono ?_; rintro e w1 ⟨rfl, rfl⟩) | (go_at_call 77; refine (HT.out _).mono ?_; rintro e w1 ⟨rfl, rfl⟩) | (go_at_call 123; refine (HN.out _).mono ?_; rintro e w1 ⟨rfl, rfl⟩))
        all_goals first | (exfalso; omega) | skip
        refine (HC.out _ ((Below.refl _ w).alloc (Nat.le_refl _) _)).mono ?_
        rintro e w3 ⟨rfl, hb3⟩
        have HB := Lib.hid (bthen ((Below.refl _ w).alloc (Nat.le_refl _) _) hb3)
        have d0 := (HB.out.cell (p := ⟨b0, o0, none⟩) hl0).trans cv
        have kz := fun j => hb3.cell (p := ⟨w.heap.size, j, none⟩) (by simp)
        have z0 := kz 0
        have z1 := kz 1
        have z2 := kz 2
        have z3 := kz 3
        have z4 := kz 4
        simp at z0 z1 z2 z3 z4
        clear hb3 kz
        go_wp2_with (first | (go_at_call 74; refine (HI.out _).mono ?_; rintro e w1 ⟨rfl, rfl⟩) | (go_at_call 75; refine (HM.out _).mono ?_; rintro e w1 ⟨rfl, rfl⟩) | (go_at_call 76; refine (HU.out _).mono ?_; rintro e w1 ⟨rfl, rfl⟩) | (go_at_call 77; refine (HT.out _).mono ?_; rintro e w1 ⟨rfl, rfl⟩) | (go_at_call 123; refine (HN.out _).mono ?_; rintro e w1 ⟨rfl, rfl⟩))
        all_goals first
          | (exfalso; omega)
          | (go_ret
             exact ⟨ret_bool (by exact rgtI_list h5), HB.out⟩)
set_option maxRecDepth 100000 in
set_option maxHeartbeats 16000000 in
theorem rright_2 {x : Ev} {A : Option Addr} {c : Nat} {w : World} (hk : x.kind = 2) (h : EvC x) (_hn : NodesIn w A x.value) : Calls Tryz.prog 78 #[evV x A c] w (RetB (.bool (rightE x)) w) := by
  have HI := Lib.hid (rid_any 2)
  have HM := Lib.hid (rnm_any 2)
  have HU := Lib.hid (rvl_any 2)
  have HT := Lib.hid (rin_any 2)
  have HN := Lib.hid (rname_any x.name (by have := h.ok.name; omega))
  rw [show idK 2 = false from rfl] at HI
  rw [show nameK 2 = false from rfl] at HM
  rw [show valueK 2 = false from rfl] at HU
  rw [show intK 2 = true from rfl] at HT
  have i0 := h.ok.i0
  have n0 := h.ok.n0
  have n1 := h.ok.n1
  have hz := str_nil x.name
  rw [rgt_parts, hk, show nameK 2 = false from rfl, show listK 2 = false from rfl, show leastK 2 = 0 from rfl, show mostK 2 = 501 from rfl]
  have z1 : x.id = 0 := h.id0 (by rw [hk]; rfl)
  have z2 : x.name = [] := h.name0 (by rw [hk]; rfl)
  have z3 : x.value = [] := h.value0 (by rw [hk]; rfl)
  unfold evV
  rw [hk]
  clear h hk
  obtain ⟨kk, id, nm, v, i⟩ := x
  dsimp only at *
  subst z1
  subst z2
  subst z3
  by_cases hneg : i < 0
  · go_enter Tryz.func78, Tryz.ntmps78
    go_wp2_with (first | (go_at_call 74; refine (HI.out _).mono ?_; rintro e w1 ⟨rfl, rfl⟩) | (go_at_call 75; refine (HM.out _).mono ?_; rintro e w1 ⟨rfl, rfl⟩) | (go_at_call 76; refine (HU.out _).mono ?_; rintro e w1 ⟨rfl, rfl⟩) | (go_at_call 77; refine (HT.out _).mono ?_; rintro e w1 ⟨rfl, rfl⟩))
    all_goals first
      | (exfalso; omega)
      | (go_ret
         exact ⟨ret_bool (by exact rgtI_lo (by omega)), by go_grown⟩)
  · by_cases h5 : 501 < i
    · go_enter Tryz.func78, Tryz.ntmps78
      go_wp2_with (first | (go_at_call 74; refine (HI.out _).mono ?_; rintro e w1 ⟨rfl, rfl⟩) | (go_at_call 75; refine (HM.out _).mono ?_; rintro e w1 ⟨rfl, rfl⟩) | (go_at_call 76; refine (HU.out _).mono ?_; rintro e w1 ⟨rfl, rfl⟩) | (go_at_call 77; refine (HT.out _).mono ?_; rintro e w1 ⟨rfl, rfl⟩))
      all_goals first
        | (exfalso; omega)
        | (go_ret
           exact ⟨ret_bool (by exact rgtI_hi (by omega)), by go_grown⟩)
    · go_enter Tryz.func78, Tryz.ntmps78
      go_wp2_with (first | (go_at_call 74; refine (HI.out _).mono ?_; rintro e w1 ⟨rfl, rfl⟩) | (go_at_call 75; refine (HM.out _).mono ?_; rintro e w1 ⟨rfl, rfl⟩) | (go_at_call 76; refine (HU.out _).mono ?_; rintro e w1 ⟨rfl, rfl⟩) | (go_at_call 77; refine (HT.out _).mono ?_; rintro e w1 ⟨rfl, rfl⟩))
      all_goals first
        | (exfalso; omega)
        | (go_ret
           exact ⟨ret_bool (by exact rgtI_ok (by omega) (by omega) (by omega) rfl (.inl rfl)), by go_grown⟩)
end Go.Proofs.YtaeophaecclnbaaGreatDoor
namespace Go.Proofs.YtaeophaecclnbaaGreatDoor
open Go.RowKit

set_option maxRecDepth 100000 in
set_option maxHeartbeats 16000000 in
theorem rright_3 {x : Ev} {A : Option Addr} {c : Nat} {w : World} (hk : x.kind = 3) (h : EvC x) (hn : NodesIn w A x.value) : Calls Tryz.prog 78 #[evV x A c] w (RetB (.bool (rightE x)) w) := by
  have HI := Lib.hid (rid_any 3)
  have HM := Lib.hid (rnm_any 3)
  have HU := Lib.hid (rvl_any 3)
  have HT := Lib.hid (rin_any 3)
  have HN := Lib.hid (rname_any x.name (by have := h.ok.name; omega))
  rw [show idK 3 = true from rfl] at HI
  rw [show nameK 3 = true from rfl] at HM
  rw [show valueK 3 = true from rfl] at HU
  rw [show intK 3 = false from rfl] at HT
  have i0 := h.ok.i0
  have n0 := h.ok.n0
  have n1 := h.ok.n1
  have hz := str_nil x.name
  rw [rgt_parts, hk, show nameK 3 = true from rfl, show listK 3 = true from rfl, show leastK 3 = 0 from rfl, show mostK 3 = 0 from rfl]
  have z4 : x.int = 0 := h.int0 (by rw [hk]; rfl)
  obtain ⟨b0, o0, rfl, HC, hl0, cv⟩ : ∃ b0 o0 : Nat, A = some ⟨b0, o0, none⟩ ∧ Hid (∀ w1, Below w.heap.size w w1 → Calls Tryz.prog 124 #[.slice (some ⟨b0, o0, none⟩) x.value.length c] w1 (RetB (.int .i64 0) w1)) ∧ b0 < w.heap.size ∧ w.cell? ⟨b0, o0, none⟩ = some (.int .u8 ((atN x.value 0).kind : Int)) := by
    have hR := h.right (by rw [hk]; rfl)
    obtain ⟨b0, o0, hA, hlt, hc⟩ := hn hR.pos
    refine ⟨b0, o0, hA, Lib.hid fun w1 hb => rcheck_any hR (Nat.lt_of_lt_of_le hlt hb.size) (fun k hk => (hc k hk).below hb hlt), hlt, ?_⟩
    have := (hc 0 hR.pos).c0
    rw [Nat.zero_mul, Nat.add_zero] at this
    exact this
  have hpos := (h.right (by rw [hk]; rfl)).pos
  unfold evV
  rw [hk]
  clear h hk
  obtain ⟨kk, id, nm, v, i⟩ := x
  dsimp only at *
  subst z4
  generalize nameS nm = s at *
  by_cases hid : id < 500
  · cases s with
    | false =>
      go_enter Tryz.func78, Tryz.ntmps78
      go_wp2_with (first | (go_at_call 74; refine (HI.out _).mono ?_; rintro e w1 ⟨rfl, rfl⟩) | (go_at_call 75; refine (HM.out _).mono ?_; rintro e w1 ⟨rfl, rfl⟩) | (go_at_call 76; refine (HU.out _).mono ?_; rintro e w1 ⟨rfl, rfl⟩) | (go_at_call 77; refine (HT.out _).mono ?_; rintro e w1 ⟨rfl, rfl⟩) | (go_at_call 123; refine (HN.out _).mono ?_; rintro e w1 ⟨rfl, rfl⟩))
      all_goals first
        | (exfalso; omega)
        | (go_ret
           exact ⟨ret_bool (by exact rgtI_name), by go_grown⟩)
    | true =>
      by_cases h5 : (atN v 0).kind = 5
      · have h6 : (((atN v 0).kind : Int) == 5) = true := by rw [h5]; rfl
        go_enter Tryz.func78, Tryz.ntmps78
        go_wp2_with (first | (go_at_call 74; refine (HI.out _).mono ?_; rintro e w1 ⟨rfl, rfl⟩) | (go_at_call 75; refine (HM.out _).mono ?_; rintro e w1 ⟨rfl, rfl⟩) | (go_at_call 76; refine (HU.out _).mono ?_; rintro e w1 ⟨rfl, rfl⟩) | (go_at_call 77; refine (HT.out _).mono ?_; rintro e w1 ⟨rfl, rfl⟩) | (go_at_call 123; refine (HN.out _).mono ?_; rintro e w1 ⟨rfl, rfl⟩))
        all_goals first | (exfalso; omega) | skip
        refine (HC.out _ ((Below.refl _ w).alloc (Nat.le_refl _) _)).mono ?_
        rintro e w3 ⟨rfl, hb3⟩
        have HB := Lib.hid (bthen ((Below.refl _ w).alloc (Nat.le_refl _) _) hb3)
        have d0 := (HB.out.cell (p := ⟨b0, o0, none⟩) hl0).trans cv
        have kz := fun j => hb3.cell (p := ⟨w.heap.size, j, none⟩) (by simp)
        have z0 := kz 0
        have z1 := kz 1
        have z2 := kz 2
        have z3 := kz 3
        have z4 := kz 4
        simp at z0 z1 z2 z3 z4
        clear hb3 kz
        go_wp2_with (first | (go_at_call 74; refine (HI.out _).mono ?_; rintro e w1 ⟨rfl, rfl⟩) | (go_at_call 75; refine (HM.out _).mono ?_; rintro e w1 ⟨rfl, rfl⟩) | (go_at_call 76; refine (HU.out _).mono ?_; rintro e w1 ⟨rfl, rfl⟩) | (go_at_call 77; refine (HT.out _).mono ?_; rintro e w1 ⟨rfl, rfl⟩) | (go_at_call 123; refine (HN.out _).mono ?_; rintro e w1 ⟨rfl, rfl⟩))
        all_goals first
          | (exfalso; omega)
          | (go_ret
             exact ⟨ret_bool (by exact rgtI_ok (by omega) (by omega) (by omega) rfl (.inr h5)), HB.out⟩)
      · have h6 : (((atN v 0).kind : Int) == 5) = false := beq_eq_false_iff_ne.2 (by omega)
        go_enter Tryz.func78, Tryz.ntmps78
        go_wp2_with (first | (go_at_call 74; refine (HI.out _).mono ?_; rintro e w1 ⟨rfl, rfl⟩) | (go_at_call 75; refine (HM.out _).mono ?_; rintro e w1 ⟨rfl, rfl⟩) | (go_at_call 76; refine (HU.out _).mono ?_; rintro e w1 ⟨rfl, rfl⟩) | (go_at_call 77; refine (HT.out _).mono ?_; rintro e w1 ⟨rfl, rfl⟩) | (go_at_call 123; refine (HN.out _).mono ?_; rintro e w1 ⟨rfl, rfl⟩))
        all_goals first | (exfalso; omega) | skip
        refine (HC.out _ ((Below.refl _ w).alloc (Nat.le_refl _) _)).mono ?_
        rintro e w3 ⟨rfl, hb3⟩
        have HB := Lib.hid (bthen ((Below.refl _ w).alloc (Nat.le_refl _) _) hb3)
        have d0 := (HB.out.cell (p := ⟨b0, o0, none⟩) hl0).trans cv
        have kz := fun j => hb3.cell (p := ⟨w.heap.size, j, none⟩) (by simp)
        have z0 := kz 0
        have z1 := kz 1
        have z2 := kz 2
        have z3 := kz 3
        have z4 := kz 4
        simp at z0 z1 z2 z3 z4
        clear hb3 kz
        go_wp2_with (first | (go_at_call 74; refine (HI.out _).mono ?_; rintro e w1 ⟨rfl, rfl⟩) | (go_at_call 75; refine (HM.out _).mono ?_; rintro e w1 ⟨rfl, rfl⟩) | (go_at_call 76; refine (HU.out _).mono ?_; rintro e w1 ⟨rfl, rfl⟩) | (go_at_call 77; refine (HT.out _).mono ?_; rintro e w1 ⟨rfl, rfl⟩) | (go_at_call 123; refine (HN.out _).mono ?_; rintro e w1 ⟨rfl, rfl⟩))
        all_goals first
          | (exfalso; omega)
          | (go_ret
             exact ⟨ret_bool (by exact rgtI_list h5), HB.out⟩)
  · go_enter Tryz.func78, Tryz.ntmps78
    go_wp2_with (first | (go_at_call 74; refine (HI.out _).mono ?_; rintro e w1 ⟨rfl, rfl⟩) | (go_at_call 75; refine (HM.out _).mono ?_; rintro e w1 ⟨rfl, rfl⟩) | (go_at_call 76; refine (HU.out _).mono ?_; rintro e w1 ⟨rfl, rfl⟩) | (go_at_call 77; refine (HT.out _).mono ?_; rintro e w1 ⟨rfl, rfl⟩) | (go_at_call 123; refine (HN.out _).mono ?_; rintro e w1 ⟨rfl, rfl⟩))
    all_goals first
      | (exfalso; omega)
      | (go_ret
         exact ⟨ret_bool (by exact rgtI_id (by omega)), by go_grown⟩)
set_option maxRecDepth 100000 in
set_option maxHeartbeats 16000000 in
theorem rright_7 {x : Ev} {A : Option Addr} {c : Nat} {w : World} (hk : x.kind = 7) (h : EvC x) (hn : NodesIn w A x.value) : Calls Tryz.prog 78 #[evV x A c] w (RetB (.bool (rightE x)) w) := by
  have HI := Lib.hid (rid_any 7)
  have HM := Lib.hid (rnm_any 7)
  have HU := Lib.hid (rvl_any 7)
  have HT := Lib.hid (rin_any 7)
  have HN := Lib.hid (rname_any x.name (by have := h.ok.name; omega))
  rw [show idK 7 = false from rfl] at HI
  rw [show nameK 7 = false from rfl] at HM
  rw [show valueK 7 = true from rfl] at HU
  rw [show intK 7 = false from rfl] at HT
  have i0 := h.ok.i0
  have n0 := h.ok.n0
  have n1 := h.ok.n1
  have hz := str_nil x.name
  rw [rgt_parts, hk, show nameK 7 = false from rfl, show listK 7 = false from rfl, show leastK 7 = 0 from rfl, show mostK 7 = 0 from rfl]
  have z1 : x.id = 0 := h.id0 (by rw [hk]; rfl)
  have z2 : x.name = [] := h.name0 (by rw [hk]; rfl)
  have z4 : x.int = 0 := h.int0 (by rw [hk]; rfl)
  obtain ⟨b0, o0, rfl, HC, hl0, cv⟩ : ∃ b0 o0 : Nat, A = some ⟨b0, o0, none⟩ ∧ Hid (∀ w1, Below w.heap.size w w1 → Calls Tryz.prog 124 #[.slice (some ⟨b0, o0, none⟩) x.value.length c] w1 (RetB (.int .i64 0) w1)) ∧ b0 < w.heap.size ∧ w.cell? ⟨b0, o0, none⟩ = some (.int .u8 ((atN x.value 0).kind : Int)) := by
    have hR := h.right (by rw [hk]; rfl)
    obtain ⟨b0, o0, hA, hlt, hc⟩ := hn hR.pos
    refine ⟨b0, o0, hA, Lib.hid fun w1 hb => rcheck_any hR (Nat.lt_of_lt_of_le hlt hb.size) (fun k hk => (hc k hk).below hb hlt), hlt, ?_⟩
    have := (hc 0 hR.pos).c0
    rw [Nat.zero_mul, Nat.add_zero] at this
    exact this
  have hpos := (h.right (by rw [hk]; rfl)).pos
  unfold evV
  rw [hk]
  clear h hk
  obtain ⟨kk, id, nm, v, i⟩ := x
  dsimp only at *
  subst z1
  subst z2
  subst z4
  go_enter Tryz.func78, Tryz.ntmps78
  go_wp2_with (first | (go_at_call 74; refine (HI.out _).mono ?_; rintro e w1 ⟨rfl, rfl⟩) | (go_at_call 75; refine (HM.out _).mono ?_; rintro e w1 ⟨rfl, rfl⟩) | (go_at_call 76; refine (HU.out _).mono ?_; rintro e w1 ⟨rfl, rfl⟩) | (go_at_call 77; refine (HT.out _).mono ?_; rintro e w1 ⟨rfl, rfl⟩))
  all_goals first | (exfalso; omega) | skip
  refine (HC.out _ ((Below.refl _ w).alloc (Nat.le_refl _) _)).mono ?_
  rintro e w3 ⟨rfl, hb3⟩
  have HB := Lib.hid (bthen ((Below.refl _ w).alloc (Nat.le_refl _) _) hb3)
  have d0 := (HB.out.cell (p := ⟨b0, o0, none⟩) hl0).trans cv
  have kz := fun j => hb3.cell (p := ⟨w.heap.size, j, none⟩) (by simp)
  have z0 := kz 0
  have z1 := kz 1
  have z2 := kz 2
  have z3 := kz 3
  have z4 := kz 4
  simp at z0 z1 z2 z3 z4
  clear hb3 kz
  go_wp2_with (first | (go_at_call 74; refine (HI.out _).mono ?_; rintro e w1 ⟨rfl, rfl⟩) | (go_at_call 75; refine (HM.out _).mono ?_; rintro e w1 ⟨rfl, rfl⟩) | (go_at_call 76; refine (HU.out _).mono ?_; rintro e w1 ⟨rfl, rfl⟩) | (go_at_call 77; refine (HT.out _).mono ?_; rintro e w1 ⟨rfl, rfl⟩))
  all_goals first
    | (exfalso; omega)
    | (go_ret
       exact ⟨ret_bool (by exact rgtI_ok (by omega) (by omega) (by omega) rfl (.inl rfl)), HB.out⟩)
end Go.Proofs.YtaeophaecclnbaaGreatDoor
namespace Go.Proofs.YtaeophaecclnbaaGreatDoor
open Go.RowKit

set_option maxRecDepth 100000 in
set_option maxHeartbeats 16000000 in
theorem rright_4 {x : Ev} {A : Option Addr} {c : Nat} {w : World} (hk : x.kind = 4) (h : EvC x) (_hn : NodesIn w A x.value) : Calls Tryz.prog 78 #[evV x A c] w (RetB (.bool (rightE x)) w) := by
  have HI := Lib.hid (rid_any 4)
  have HM := Lib.hid (rnm_any 4)
  have HU := Lib.hid (rvl_any 4)
  have HT := Lib.hid (rin_any 4)
  have HN := Lib.hid (rname_any x.name (by have := h.ok.name; omega))
  rw [show idK 4 = true from rfl] at HI
  rw [show nameK 4 = false from rfl] at HM
  rw [show valueK 4 = false from rfl] at HU
  rw [show intK 4 = true from rfl] at HT
  have i0 := h.ok.i0
  have n0 := h.ok.n0
  have n1 := h.ok.n1
  have hz := str_nil x.name
  rw [rgt_parts, hk, show nameK 4 = false from rfl, show listK 4 = false from rfl, show leastK 4 = 0 from rfl, show mostK 4 = 9223372036854775807 from rfl]
  have z2 : x.name = [] := h.name0 (by rw [hk]; rfl)
  have z3 : x.value = [] := h.value0 (by rw [hk]; rfl)
  unfold evV
  rw [hk]
  clear h hk
  obtain ⟨kk, id, nm, v, i⟩ := x
  dsimp only at *
  subst z2
  subst z3
  by_cases hid : id < 500
  · by_cases hneg : i < 0
    · go_enter Tryz.func78, Tryz.ntmps78
      go_wp2_with (first | (go_at_call 74; refine (HI.out _).mono ?_; rintro e w1 ⟨rfl, rfl⟩) | (go_at_call 75; refine (HM.out _).mono ?_; rintro e w1 ⟨rfl, rfl⟩) | (go_at_call 76; refine (HU.out _).mono ?_; rintro e w1 ⟨rfl, rfl⟩) | (go_at_call 77; refine (HT.out _).mono ?_; rintro e w1 ⟨rfl, rfl⟩))
      all_goals first
        | (exfalso; omega)
        | (go_ret
           exact ⟨ret_bool (by exact rgtI_lo (by omega)), by go_grown⟩)
    · go_enter Tryz.func78, Tryz.ntmps78
      go_wp2_with (first | (go_at_call 74; refine (HI.out _).mono ?_; rintro e w1 ⟨rfl, rfl⟩) | (go_at_call 75; refine (HM.out _).mono ?_; rintro e w1 ⟨rfl, rfl⟩) | (go_at_call 76; refine (HU.out _).mono ?_; rintro e w1 ⟨rfl, rfl⟩) | (go_at_call 77; refine (HT.out _).mono ?_; rintro e w1 ⟨rfl, rfl⟩))
      all_goals first
        | (exfalso; omega)
        | (go_ret
           exact ⟨ret_bool (by exact rgtI_ok (by omega) (by omega) (by omega) rfl (.inl rfl)), by go_grown⟩)
  · go_enter Tryz.func78, Tryz.ntmps78
    go_wp2_with (first | (go_at_call 74; refine (HI.out _).mono ?_; rintro e w1 ⟨rfl, rfl⟩) | (go_at_call 75; refine (HM.out _).mono ?_; rintro e w1 ⟨rfl, rfl⟩) | (go_at_call 76; refine (HU.out _).mono ?_; rintro e w1 ⟨rfl, rfl⟩) | (go_at_call 77; refine (HT.out _).mono ?_; rintro e w1 ⟨rfl, rfl⟩))
    all_goals first
      | (exfalso; omega)
      | (go_ret
         exact ⟨ret_bool (by exact rgtI_id (by omega)), by go_grown⟩)
set_option maxRecDepth 100000 in
set_option maxHeartbeats 16000000 in
theorem rright_5 {x : Ev} {A : Option Addr} {c : Nat} {w : World} (hk : x.kind = 5) (h : EvC x) (hn : NodesIn w A x.value) : Calls Tryz.prog 78 #[evV x A c] w (RetB (.bool (rightE x)) w) := by
  have HI := Lib.hid (rid_any 5)
  have HM := Lib.hid (rnm_any 5)
  have HU := Lib.hid (rvl_any 5)
  have HT := Lib.hid (rin_any 5)
  have HN := Lib.hid (rname_any x.name (by have := h.ok.name; omega))
  rw [show idK 5 = true from rfl] at HI
  rw [show nameK 5 = true from rfl] at HM
  rw [show valueK 5 = true from rfl] at HU
  rw [show intK 5 = false from rfl] at HT
  have i0 := h.ok.i0
  have n0 := h.ok.n0
  have n1 := h.ok.n1
  have hz := str_nil x.name
  rw [rgt_parts, hk, show nameK 5 = true from rfl, show listK 5 = true from rfl, show leastK 5 = 0 from rfl, show mostK 5 = 0 from rfl]
  have z4 : x.int = 0 := h.int0 (by rw [hk]; rfl)
  obtain ⟨b0, o0, rfl, HC, hl0, cv⟩ : ∃ b0 o0 : Nat, A = some ⟨b0, o0, none⟩ ∧ Hid (∀ w1, Below w.heap.size w w1 → Calls Tryz.prog 124 #[.slice (some ⟨b0, o0, none⟩) x.value.length c] w1 (RetB (.int .i64 0) w1)) ∧ b0 < w.heap.size ∧ w.cell? ⟨b0, o0, none⟩ = some (.int .u8 ((atN x.value 0).kind : Int)) := by
    have hR := h.right (by rw [hk]; rfl)
    obtain ⟨b0, o0, hA, hlt, hc⟩ := hn hR.pos
    refine ⟨b0, o0, hA, Lib.hid fun w1 hb => rcheck_any hR (Nat.lt_of_lt_of_le hlt hb.size) (fun k hk => (hc k hk).below hb hlt), hlt, ?_⟩
    have := (hc 0 hR.pos).c0
    rw [Nat.zero_mul, Nat.add_zero] at this
    exact this
  have hpos := (h.right (by rw [hk]; rfl)).pos
  unfold evV
  rw [hk]
  clear h hk
  obtain ⟨kk, id, nm, v, i⟩ := x
  dsimp only at *
  subst z4
  generalize nameS nm = s at *
  by_cases hid : id < 500
  · cases s with
    | false =>
      go_enter Tryz.func78, Tryz.ntmps78
      go_wp2_with (first | (go_at_call 74; refine (HI.out _).mono ?_; rintro e w1 ⟨rfl, rfl⟩) | (go_at_call 75; refine (HM.out _).mono ?_; rintro e w1 ⟨rfl, rfl⟩) | (go_at_call 76; refine (HU.out _).mono ?_; rintro e w1 ⟨rfl, rfl⟩) | (go_at_call 77; refine (HT.out _).mono ?_; rintro e w1 ⟨rfl, rfl⟩) | (go_at_call 123; refine (HN.out _).mono ?_; rintro e w1 ⟨rfl, rfl⟩))
      all_goals first
        | (exfalso; omega)
        | (go_ret
           exact ⟨ret_bool (by exact rgtI_name), by go_grown⟩)
    | true =>
      by_cases h5 : (atN v 0).kind = 5
      · have h6 : (((atN v 0).kind : Int) == 5) = true := by rw [h5]; rfl
        go_enter Tryz.func78, Tryz.ntmps78
        go_wp2_with (first | (go_at_call 74; refine (HI.out _).mono ?_; rintro e w1 ⟨rfl, rfl⟩) | (go_at_call 75; refine (HM.out _).mono ?_; rintro e w1 ⟨rfl, rfl⟩) | (go_at_call 76; refine (HU.out _).mono ?_; rintro e w1 ⟨rfl, rfl⟩) | (go_at_call 77; refine (HT.out _).mono ?_; rintro e w1 ⟨rfl, rfl⟩) | (go_at_call 123; refine (HN.out _).mono ?_; rintro e w1 ⟨rfl, rfl⟩))
        all_goals first | (exfalso; omega) | skip
        refine (HC.out _ ((Below.refl _ w).alloc (Nat.le_refl _) _)).mono ?_
        rintro e w3 ⟨rfl, hb3⟩
        have HB := Lib.hid (bthen ((Below.refl _ w).alloc (Nat.le_refl _) _) hb3)
        have d0 := (HB.out.cell (p := ⟨b0, o0, none⟩) hl0).trans cv
        have kz := fun j => hb3.cell (p := ⟨w.heap.size, j, none⟩) (by simp)
        have z0 := kz 0
        have z1 := kz 1
        have z2 := kz 2
        have z3 := kz 3
        have z4 := kz 4
        simp at z0 z1 z2 z3 z4
        clear hb3 kz
        go_wp2_with (first | (go_at_call 74; refine (HI.out _).mono ?_; rintro e w1 ⟨rfl, rfl⟩) | (go_at_call 75; refine (HM.out _).mono ?_; rintro e w1 ⟨rfl, rfl⟩) | (go_at_call 76; refine (HU.out _).mono ?_; rintro e w1 ⟨rfl, rfl⟩) | (go_at_call 77; refine (HT.out _).mono ?_; rintro e w1 ⟨rfl, rfl⟩) | (go_at_call 123; refine (HN.out _).mono ?_; rintro e w1 ⟨rfl, rfl⟩))
        all_goals first
          | (exfalso; omega)
          | (go_ret
             exact ⟨ret_bool (by exact rgtI_ok (by omega) (by omega) (by omega) rfl (.inr h5)), HB.out⟩)
      · have h6 : (((atN v 0).kind : Int) == 5) = false := beq_eq_false_iff_ne.2 (by omega)
        go_enter Tryz.func78, Tryz.ntmps78
        go_wp2_with (first | (go_at_call 74; refine (HI.out _).mono ?_; rintro e w1 ⟨rfl, rfl⟩) | (go_at_call 75; refine (HM.out _).mono ?_; rintro e w1 ⟨rfl, rfl⟩) | (go_at_call 76; refine (HU.out _).mono ?_; rintro e w1 ⟨rfl, rfl⟩) | (go_at_call 77; refine (HT.out _).mono ?_; rintro e w1 ⟨rfl, rfl⟩) | (go_at_call 123; refine (HN.out _).mono ?_; rintro e w1 ⟨rfl, rfl⟩))
        all_goals first | (exfalso; omega) | skip
        refine (HC.out _ ((Below.refl _ w).alloc (Nat.le_refl _) _)).mono ?_
        rintro e w3 ⟨rfl, hb3⟩
        have HB := Lib.hid (bthen ((Below.refl _ w).alloc (Nat.le_refl _) _) hb3)
        have d0 := (HB.out.cell (p := ⟨b0, o0, none⟩) hl0).trans cv
        have kz := fun j => hb3.cell (p := ⟨w.heap.size, j, none⟩) (by simp)
        have z0 := kz 0
        have z1 := kz 1
        have z2 := kz 2
        have z3 := kz 3
        have z4 := kz 4
        simp at z0 z1 z2 z3 z4
        clear hb3 kz
        go_wp2_with (first | (go_at_call 74; refine (HI.out _).mono ?_; rintro e w1 ⟨rfl, rfl⟩) | (go_at_call 75; refine (HM.out _).mono ?_; rintro e w1 ⟨rfl, rfl⟩) | (go_at_call 76; refine (HU.out _).mono ?_; rintro e w1 ⟨rfl, rfl⟩) | (go_at_call 77; refine (HT.out _).mono ?_; rintro e w1 ⟨rfl, rfl⟩) | (go_at_call 123; refine (HN.out _).mono ?_; rintro e w1 ⟨rfl, rfl⟩))
        all_goals first
          | (exfalso; omega)
          | (go_ret
             exact ⟨ret_bool (by exact rgtI_list h5), HB.out⟩)
  · go_enter Tryz.func78, Tryz.ntmps78
    go_wp2_with (first | (go_at_call 74; refine (HI.out _).mono ?_; rintro e w1 ⟨rfl, rfl⟩) | (go_at_call 75; refine (HM.out _).mono ?_; rintro e w1 ⟨rfl, rfl⟩) | (go_at_call 76; refine (HU.out _).mono ?_; rintro e w1 ⟨rfl, rfl⟩) | (go_at_call 77; refine (HT.out _).mono ?_; rintro e w1 ⟨rfl, rfl⟩) | (go_at_call 123; refine (HN.out _).mono ?_; rintro e w1 ⟨rfl, rfl⟩))
    all_goals first
      | (exfalso; omega)
      | (go_ret
         exact ⟨ret_bool (by exact rgtI_id (by omega)), by go_grown⟩)
end Go.Proofs.YtaeophaecclnbaaGreatDoor

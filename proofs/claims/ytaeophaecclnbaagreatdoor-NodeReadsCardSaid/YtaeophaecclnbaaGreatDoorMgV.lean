/- Whether an event is right: the document's function at some kinds, walked. Printed by gen_rrt.py. Whether an event is right: the document's function at some kinds, walked. Printed by gen_rrt.py. -/
import Derived.Test.YtaeophaecclnbaaGreatDoorMgT
namespace Go.Proofs.YtaeophaecclnbaaGreatDoor
open Go.RowKit

set_option maxRecDepth 100000 in
set_option maxHeartbeats 16000000 in
theorem rright_6 {x : Ev} {A : Option Addr} {c : Nat} {w : World} (hk : x.kind = 6) (h : EvC x) (hn : NodesIn w A x.value) : Calls Tryz.prog 78 #[evV x A c] w (RetB (.bool (rightE x)) w) := by
  have HI := Lib.hid (rid_any 6)
  have HM := Lib.hid (rnm_any 6)
  have HU := Lib.hid (rvl_any 6)
  have HT := Lib.hid (rin_any 6)
  have HN := Lib.hid (rname_any x.name (by have := h.ok.name; omega))
  rw [show idK 6 = false from rfl] at HI
  rw [show nameK 6 = false from rfl] at HM
  rw [show valueK 6 = true from rfl] at HU
  rw [show intK 6 = false from rfl] at HT
  have i0 := h.ok.i0
  have n0 := h.ok.n0
  have n1 := h.ok.n1
  have hz := str_nil x.name
  rw [rgt_parts, hk, show nameK 6 = false from rfl, show listK 6 = false from rfl, show leastK 6 = 0 from rfl, show mostK 6 = 0 from rfl]
  have z1 : x.id = 0 := h.id0 (by rw [hk]; rfl)
  have z2 : x.name = [] := h.name0 (by rw [hk]; rfl)
  have z4 : x.int = 0 := h.int0 (by rw [hk]; rfl)
  obtain ⟨b0, o0, rfl, HC, hl0, cv⟩ : ∃ b0 o0 : Nat, A = some ⟨b0, o0, none⟩ ∧ Hid (∀ w1, Below w.heap.size w w1 → Calls Tryz.prog 124 #[.slice (some ⟨b0, o0, none⟩) x.value.length c] w1 (RetB (.int .i64 0) w1)) ∧ b0 < w.heap.size ∧ w.cell? ⟨b0, o0, none⟩ = some (.int .u8 ((atN x.value 0).kind : Int)) := by
    have hR := h.right (by rw [hk]; rfl)
    obtain ⟨b0, o0, hA, hlt, hc⟩ := hn hR.pos
    refine ⟨b0, o0, hA, Lib.hid fun w1 hb => rcheck_any hR (Nat.lt_of_lt_of_le hlt hb.size) (fun k hk => (hc k hk).below hb hlt), hlt, ?_⟩
    have := (hc 0 hR.pos).c0
    rw [Nat.zero_mul, Nat.add_zero] at this
    exact this
  have hpos := (h.right (by rw [hk]; rfl)).pos
  unfold evV
  rw [hk]
  clear h hk
  obtain ⟨kk, id, nm, v, i⟩ := x
  dsimp only at *
  subst z1
  subst z2
  subst z4
  go_enter Tryz.func78, Tryz.ntmps78
  go_wp2_with (first | (go_at_call 74; refine (HI.out _).mono ?_; rintro e w1 ⟨rfl, rfl⟩) | (go_at_call 75; refine (HM.out _).mono ?_; rintro e w1 ⟨rfl, rfl⟩) | (go_at_call 76; refine (HU.out _).mono ?_; rintro e w1 ⟨rfl, rfl⟩) | (go_at_call 77; refine (HT.out _).mono ?_; rintro e w1 ⟨rfl, rfl⟩))
  all_goals first | (exfalso; omega) | skip
  refine (HC.out _ ((Below.refl _ w).alloc (Nat.le_refl _) _)).mono ?_
  rintro e w3 ⟨rfl, hb3⟩
  have HB := Lib.hid (bthen ((Below.refl _ w).alloc (Nat.le_refl _) _) hb3)
  have d0 := (HB.out.cell (p := ⟨b0, o0, none⟩) hl0).trans cv
  have kz := fun j => hb3.cell (p := ⟨w.heap.size, j, none⟩) (by simp)
  have z0 := kz 0
  have z1 := kz 1
  have z2 := kz 2
  have z3 := kz 3
  have z4 := kz 4
  simp at z0 z1 z2 z3 z4
  clear hb3 kz
  go_wp2_with (first | (go_at_call 74; refine (HI.out _).mono ?_; rintro e w1 ⟨rfl, rfl⟩) | (go_at_call 75; refine (HM.out _).mono ?_; rintro e w1 ⟨rfl, rfl⟩) | (go_at_call 76; refine (HU.out _).mono ?_; rintro e w1 ⟨rfl, rfl⟩) | (go_at_call 77; refine (HT.out _).mono ?_; rintro e w1 ⟨rfl, rfl⟩))
  all_goals first
    | (exfalso; omega)
    | (go_ret
       exact ⟨ret_bool (by exact rgtI_ok (by omega) (by omega) (by omega) rfl (.inl rfl)), HB.out⟩)
set_option maxRecDepth 100000 in
set_option maxHeartbeats 16000000 in
theorem rright_8 {x : Ev} {A : Option Addr} {c : Nat} {w : World} (hk : x.kind = 8) (h : EvC x) (_hn : NodesIn w A x.value) : Calls Tryz.prog 78 #[evV x A c] w (RetB (.bool (rightE x)) w) := by
  have HI := Lib.hid (rid_any 8)
  have HM := Lib.hid (rnm_any 8)
  have HU := Lib.hid (rvl_any 8)
  have HT := Lib.hid (rin_any 8)
  have HN := Lib.hid (rname_any x.name (by have := h.ok.name; omega))
  rw [show idK 8 = false from rfl] at HI
  rw [show nameK 8 = false from rfl] at HM
  rw [show valueK 8 = false from rfl] at HU
  rw [show intK 8 = true from rfl] at HT
  have i0 := h.ok.i0
  have n0 := h.ok.n0
  have n1 := h.ok.n1
  have hz := str_nil x.name
  rw [rgt_parts, hk, show nameK 8 = false from rfl, show listK 8 = false from rfl, show leastK 8 = 1 from rfl, show mostK 8 = 9223372036854775807 from rfl]
  have z1 : x.id = 0 := h.id0 (by rw [hk]; rfl)
  have z2 : x.name = [] := h.name0 (by rw [hk]; rfl)
  have z3 : x.value = [] := h.value0 (by rw [hk]; rfl)
  unfold evV
  rw [hk]
  clear h hk
  obtain ⟨kk, id, nm, v, i⟩ := x
  dsimp only at *
  subst z1
  subst z2
  subst z3
  by_cases hneg : i < 0
  · go_enter Tryz.func78, Tryz.ntmps78
    go_wp2_with (first | (go_at_call 74; refine (HI.out _).mono ?_; rintro e w1 ⟨rfl, rfl⟩) | (go_at_call 75; refine (HM.out _).mono ?_; rintro e w1 ⟨rfl, rfl⟩) | (go_at_call 76; refine (HU.out _).mono ?_; rintro e w1 ⟨rfl, rfl⟩) | (go_at_call 77; refine (HT.out _).mono ?_; rintro e w1 ⟨rfl, rfl⟩))
    all_goals first
      | (exfalso; omega)
      | (go_ret
         exact ⟨ret_bool (by exact rgtI_lo (by omega)), by go_grown⟩)
  · by_cases h5 : i = 0
    · have h6 : (i == 0) = true := beq_iff_eq.2 h5
      go_enter Tryz.func78, Tryz.ntmps78
      go_wp2_with (first | (go_at_call 74; refine (HI.out _).mono ?_; rintro e w1 ⟨rfl, rfl⟩) | (go_at_call 75; refine (HM.out _).mono ?_; rintro e w1 ⟨rfl, rfl⟩) | (go_at_call 76; refine (HU.out _).mono ?_; rintro e w1 ⟨rfl, rfl⟩) | (go_at_call 77; refine (HT.out _).mono ?_; rintro e w1 ⟨rfl, rfl⟩))
      all_goals first
        | (exfalso; omega)
        | (go_ret
           exact ⟨ret_bool (by exact rgtI_lo (by omega)), by go_grown⟩)
    · have h6 : (i == 0) = false := beq_eq_false_iff_ne.2 h5
      go_enter Tryz.func78, Tryz.ntmps78
      go_wp2_with (first | (go_at_call 74; refine (HI.out _).mono ?_; rintro e w1 ⟨rfl, rfl⟩) | (go_at_call 75; refine (HM.out _).mono ?_; rintro e w1 ⟨rfl, rfl⟩) | (go_at_call 76; refine (HU.out _).mono ?_; rintro e w1 ⟨rfl, rfl⟩) | (go_at_call 77; refine (HT.out _).mono ?_; rintro e w1 ⟨rfl, rfl⟩))
      all_goals first
        | (exfalso; omega)
        | (go_ret
           exact ⟨ret_bool (by exact rgtI_ok (by omega) (by omega) (by omega) rfl (.inl rfl)), by go_grown⟩)
set_option maxRecDepth 100000 in
set_option maxHeartbeats 16000000 in
theorem rright_9 {x : Ev} {A : Option Addr} {c : Nat} {w : World} (hk : x.kind = 9) (h : EvC x) (hn : NodesIn w A x.value) : Calls Tryz.prog 78 #[evV x A c] w (RetB (.bool (rightE x)) w) := by
  have HI := Lib.hid (rid_any 9)
  have HM := Lib.hid (rnm_any 9)
  have HU := Lib.hid (rvl_any 9)
  have HT := Lib.hid (rin_any 9)
  have HN := Lib.hid (rname_any x.name (by have := h.ok.name; omega))
  rw [show idK 9 = true from rfl] at HI
  rw [show nameK 9 = false from rfl] at HM
  rw [show valueK 9 = true from rfl] at HU
  rw [show intK 9 = false from rfl] at HT
  have i0 := h.ok.i0
  have n0 := h.ok.n0
  have n1 := h.ok.n1
  have hz := str_nil x.name
  rw [rgt_parts, hk, show nameK 9 = false from rfl, show listK 9 = false from rfl, show leastK 9 = 0 from rfl, show mostK 9 = 0 from rfl]
  have z2 : x.name = [] := h.name0 (by rw [hk]; rfl)
  have z4 : x.int = 0 := h.int0 (by rw [hk]; rfl)
  obtain ⟨b0, o0, rfl, HC, hl0, cv⟩ : ∃ b0 o0 : Nat, A = some ⟨b0, o0, none⟩ ∧ Hid (∀ w1, Below w.heap.size w w1 → Calls Tryz.prog 124 #[.slice (some ⟨b0, o0, none⟩) x.value.length c] w1 (RetB (.int .i64 0) w1)) ∧ b0 < w.heap.size ∧ w.cell? ⟨b0, o0, none⟩ = some (.int .u8 ((atN x.value 0).kind : Int)) := by
    have hR := h.right (by rw [hk]; rfl)
    obtain ⟨b0, o0, hA, hlt, hc⟩ := hn hR.pos
    refine ⟨b0, o0, hA, Lib.hid fun w1 hb => rcheck_any hR (Nat.lt_of_lt_of_le hlt hb.size) (fun k hk => (hc k hk).below hb hlt), hlt, ?_⟩
    have := (hc 0 hR.pos).c0
    rw [Nat.zero_mul, Nat.add_zero] at this
    exact this
  have hpos := (h.right (by rw [hk]; rfl)).pos
  unfold evV
  rw [hk]
  clear h hk
  obtain ⟨kk, id, nm, v, i⟩ := x
  dsimp only at *
  subst z2
  subst z4
  by_cases hid : id < 500
  · go_enter Tryz.func78, Tryz.ntmps78
    go_wp2_with (first | (go_at_call 74; refine (HI.out _).mono ?_; rintro e w1 ⟨rfl, rfl⟩) | (go_at_call 75; refine (HM.out _).mono ?_; rintro e w1 ⟨rfl, rfl⟩) | (go_at_call 76; refine (HU.out _).mono ?_; rintro e w1 ⟨rfl, rfl⟩) | (go_at_call 77; refine (HT.out _).mono ?_; rintro e w1 ⟨rfl, rfl⟩))
    all_goals first | (exfalso; omega) | skip
    refine (HC.out _ ((Below.refl _ w).alloc (Nat.le_refl _) _)).mono ?_
    rintro e w3 ⟨rfl, hb3⟩
    have HB := Lib.hid (bthen ((Below.refl _ w).alloc (Nat.le_refl _) _) hb3)
    have d0 := (HB.out.cell (p := ⟨b0, o0, none⟩) hl0).trans cv
    have kz := fun j => hb3.cell (p := ⟨w.heap.size, j, none⟩) (by simp)
    have z0 := kz 0
    have z1 := kz 1
    have z2 := kz 2
    have z3 := kz 3
    have z4 := kz 4
    simp at z0 z1 z2 z3 z4
    clear hb3 kz
    go_wp2_with (first | (go_at_call 74; refine (HI.out _).mono ?_; rintro e w1 ⟨rfl, rfl⟩) | (go_at_call 75; refine (HM.out _).mono ?_; rintro e w1 ⟨rfl, rfl⟩) | (go_at_call 76; refine (HU.out _).mono ?_; rintro e w1 ⟨rfl, rfl⟩) | (go_at_call 77; refine (HT.out _).mono ?_; rintro e w1 ⟨rfl, rfl⟩))
    all_goals first
      | (exfalso; omega)
      | (go_ret
         exact ⟨ret_bool (by exact rgtI_ok (by omega) (by omega) (by omega) rfl (.inl rfl)), HB.out⟩)
  · go_enter Tryz.func78, Tryz.ntmps78
    go_wp2_with (first | (go_at_call 74; refine (HI.out _).mono ?_; rintro e w1 ⟨rfl, rfl⟩) | (go_at_call 75; refine (HM.out _).mono ?_; rintro e w1 ⟨rfl, rfl⟩) | (go_at_call 76; refine (HU.out _).mono ?_; rintro e w1 ⟨rfl, rfl⟩) | (go_at_call 77; refine (HT.out _).mono ?_; rintro e w1 ⟨rfl, rfl⟩))
    all_goals first
      | (exfalso; omega)
      | (go_ret
         exact ⟨ret_bool (by exact rgtI_id (by omega)), by go_grown⟩)
end Go.Proofs.YtaeophaecclnbaaGreatDoor
namespace Go.Proofs.YtaeophaecclnbaaGreatDoor
open Go.RowKit

set_option maxRecDepth 100000 in
set_option maxHeartbeats 16000000 in
theorem rright_10 {x : Ev} {A : Option Addr} {c : Nat} {w : World} (hk : x.kind = 10) (h : EvC x) (_hn : NodesIn w A x.value) : Calls Tryz.prog 78 #[evV x A c] w (RetB (.bool (rightE x)) w) := by
  have HI := Lib.hid (rid_any 10)
  have HM := Lib.hid (rnm_any 10)
  have HU := Lib.hid (rvl_any 10)
  have HT := Lib.hid (rin_any 10)
  have HN := Lib.hid (rname_any x.name (by have := h.ok.name; omega))
  rw [show idK 10 = true from rfl] at HI
  rw [show nameK 10 = false from rfl] at HM
  rw [show valueK 10 = false from rfl] at HU
  rw [show intK 10 = true from rfl] at HT
  have i0 := h.ok.i0
  have n0 := h.ok.n0
  have n1 := h.ok.n1
  have hz := str_nil x.name
  rw [rgt_parts, hk, show nameK 10 = false from rfl, show listK 10 = false from rfl, show leastK 10 = 1 from rfl, show mostK 10 = 9223372036854775807 from rfl]
  have z2 : x.name = [] := h.name0 (by rw [hk]; rfl)
  have z3 : x.value = [] := h.value0 (by rw [hk]; rfl)
  unfold evV
  rw [hk]
  clear h hk
  obtain ⟨kk, id, nm, v, i⟩ := x
  dsimp only at *
  subst z2
  subst z3
  by_cases hid : id < 500
  · by_cases hneg : i < 0
    · go_enter Tryz.func78, Tryz.ntmps78
      go_wp2_with (first | (go_at_call 74; refine (HI.out _).mono ?_; rintro e w1 ⟨rfl, rfl⟩) | (go_at_call 75; refine (HM.out _).mono ?_; rintro e w1 ⟨rfl, rfl⟩) | (go_at_call 76; refine (HU.out _).mono ?_; rintro e w1 ⟨rfl, rfl⟩) | (go_at_call 77; refine (HT.out _).mono ?_; rintro e w1 ⟨rfl, rfl⟩))
      all_goals first
        | (exfalso; omega)
        | (go_ret
           exact ⟨ret_bool (by exact rgtI_lo (by omega)), by go_grown⟩)
    · by_cases h5 : i = 0
      · have h6 : (i == 0) = true := beq_iff_eq.2 h5
        go_enter Tryz.func78, Tryz.ntmps78
        go_wp2_with (first | (go_at_call 74; refine (HI.out _).mono ?_; rintro e w1 ⟨rfl, rfl⟩) | (go_at_call 75; refine (HM.out _).mono ?_; rintro e w1 ⟨rfl, rfl⟩) | (go_at_call 76; refine (HU.out _).mono ?_; rintro e w1 ⟨rfl, rfl⟩) | (go_at_call 77; refine (HT.out _).mono ?_; rintro e w1 ⟨rfl, rfl⟩))
        all_goals first
          | (exfalso; omega)
          | (go_ret
             exact ⟨ret_bool (by exact rgtI_lo (by omega)), by go_grown⟩)
      · have h6 : (i == 0) = false := beq_eq_false_iff_ne.2 h5
        go_enter Tryz.func78, Tryz.ntmps78
        go_wp2_with (first | (go_at_call 74; refine (HI.out _).mono ?_; rintro e w1 ⟨rfl, rfl⟩) | (go_at_call 75; refine (HM.out _).mono ?_; rintro e w1 ⟨rfl, rfl⟩) | (go_at_call 76; refine (HU.out _).mono ?_; rintro e w1 ⟨rfl, rfl⟩) | (go_at_call 77; refine (HT.out _).mono ?_; rintro e w1 ⟨rfl, rfl⟩))
        all_goals first
          | (exfalso; omega)
          | (go_ret
             exact ⟨ret_bool (by exact rgtI_ok (by omega) (by omega) (by omega) rfl (.inl rfl)), by go_grown⟩)
  · go_enter Tryz.func78, Tryz.ntmps78
    go_wp2_with (first | (go_at_call 74; refine (HI.out _).mono ?_; rintro e w1 ⟨rfl, rfl⟩) | (go_at_call 75; refine (HM.out _).mono ?_; rintro e w1 ⟨rfl, rfl⟩) | (go_at_call 76; refine (HU.out _).mono ?_; rintro e w1 ⟨rfl, rfl⟩) | (go_at_call 77; refine (HT.out _).mono ?_; rintro e w1 ⟨rfl, rfl⟩))
    all_goals first
      | (exfalso; omega)
      | (go_ret
         exact ⟨ret_bool (by exact rgtI_id (by omega)), by go_grown⟩)
set_option maxRecDepth 100000 in
set_option maxHeartbeats 16000000 in
theorem rright_11 {x : Ev} {A : Option Addr} {c : Nat} {w : World} (hk : x.kind = 11) (h : EvC x) (_hn : NodesIn w A x.value) : Calls Tryz.prog 78 #[evV x A c] w (RetB (.bool (rightE x)) w) := by
  have HI := Lib.hid (rid_any 11)
  have HM := Lib.hid (rnm_any 11)
  have HU := Lib.hid (rvl_any 11)
  have HT := Lib.hid (rin_any 11)
  have HN := Lib.hid (rname_any x.name (by have := h.ok.name; omega))
  rw [show idK 11 = true from rfl] at HI
  rw [show nameK 11 = false from rfl] at HM
  rw [show valueK 11 = false from rfl] at HU
  rw [show intK 11 = false from rfl] at HT
  have i0 := h.ok.i0
  have n0 := h.ok.n0
  have n1 := h.ok.n1
  have hz := str_nil x.name
  rw [rgt_parts, hk, show nameK 11 = false from rfl, show listK 11 = false from rfl, show leastK 11 = 0 from rfl, show mostK 11 = 0 from rfl]
  have z2 : x.name = [] := h.name0 (by rw [hk]; rfl)
  have z3 : x.value = [] := h.value0 (by rw [hk]; rfl)
  have z4 : x.int = 0 := h.int0 (by rw [hk]; rfl)
  unfold evV
  rw [hk]
  clear h hk
  obtain ⟨kk, id, nm, v, i⟩ := x
  dsimp only at *
  subst z2
  subst z3
  subst z4
  by_cases hid : id < 500
  · go_enter Tryz.func78, Tryz.ntmps78
    go_wp2_with (first | (go_at_call 74; refine (HI.out _).mono ?_; rintro e w1 ⟨rfl, rfl⟩) | (go_at_call 75; refine (HM.out _).mono ?_; rintro e w1 ⟨rfl, rfl⟩) | (go_at_call 76; refine (HU.out _).mono ?_; rintro e w1 ⟨rfl, rfl⟩) | (go_at_call 77; refine (HT.out _).mono ?_; rintro e w1 ⟨rfl, rfl⟩))
    all_goals first
      | (exfalso; omega)
      | (go_ret
         exact ⟨ret_bool (by exact rgtI_ok (by omega) (by omega) (by omega) rfl (.inl rfl)), by go_grown⟩)
  · go_enter Tryz.func78, Tryz.ntmps78
    go_wp2_with (first | (go_at_call 74; refine (HI.out _).mono ?_; rintro e w1 ⟨rfl, rfl⟩) | (go_at_call 75; refine (HM.out _).mono ?_; rintro e w1 ⟨rfl, rfl⟩) | (go_at_call 76; refine (HU.out _).mono ?_; rintro e w1 ⟨rfl, rfl⟩) | (go_at_call 77; refine (HT.out _).mono ?_; rintro e w1 ⟨rfl, rfl⟩))
    all_goals first
      | (exfalso; omega)
      | (go_ret
         exact ⟨ret_bool (by exact rgtI_id (by omega)), by go_grown⟩)
set_option maxRecDepth 100000 in
set_option maxHeartbeats 16000000 in
theorem rright_12 {x : Ev} {A : Option Addr} {c : Nat} {w : World} (hk : x.kind = 12) (h : EvC x) (hn : NodesIn w A x.value) : Calls Tryz.prog 78 #[evV x A c] w (RetB (.bool (rightE x)) w) := by
  have HI := Lib.hid (rid_any 12)
  have HM := Lib.hid (rnm_any 12)
  have HU := Lib.hid (rvl_any 12)
  have HT := Lib.hid (rin_any 12)
  have HN := Lib.hid (rname_any x.name (by have := h.ok.name; omega))
  rw [show idK 12 = false from rfl] at HI
  rw [show nameK 12 = true from rfl] at HM
  rw [show valueK 12 = true from rfl] at HU
  rw [show intK 12 = false from rfl] at HT
  have i0 := h.ok.i0
  have n0 := h.ok.n0
  have n1 := h.ok.n1
  have hz := str_nil x.name
  rw [rgt_parts, hk, show nameK 12 = true from rfl, show listK 12 = false from rfl, show leastK 12 = 0 from rfl, show mostK 12 = 0 from rfl]
  have z1 : x.id = 0 := h.id0 (by rw [hk]; rfl)
  have z4 : x.int = 0 := h.int0 (by rw [hk]; rfl)
  obtain ⟨b0, o0, rfl, HC, hl0, cv⟩ : ∃ b0 o0 : Nat, A = some ⟨b0, o0, none⟩ ∧ Hid (∀ w1, Below w.heap.size w w1 → Calls Tryz.prog 124 #[.slice (some ⟨b0, o0, none⟩) x.value.length c] w1 (RetB (.int .i64 0) w1)) ∧ b0 < w.heap.size ∧ w.cell? ⟨b0, o0, none⟩ = some (.int .u8 ((atN x.value 0).kind : Int)) := by
    have hR := h.right (by rw [hk]; rfl)
    obtain ⟨b0, o0, hA, hlt, hc⟩ := hn hR.pos
    refine ⟨b0, o0, hA, Lib.hid fun w1 hb => rcheck_any hR (Nat.lt_of_lt_of_le hlt hb.size) (fun k hk => (hc k hk).below hb hlt), hlt, ?_⟩
    have := (hc 0 hR.pos).c0
    rw [Nat.zero_mul, Nat.add_zero] at this
    exact this
  have hpos := (h.right (by rw [hk]; rfl)).pos
  unfold evV
  rw [hk]
  clear h hk
  obtain ⟨kk, id, nm, v, i⟩ := x
  dsimp only at *
  subst z1
  subst z4
  generalize nameS nm = s at *
  cases s with
  | false =>
    go_enter Tryz.func78, Tryz.ntmps78
    go_wp2_with (first | (go_at_call 74; refine (HI.out _).mono ?_; rintro e w1 ⟨rfl, rfl⟩) | (go_at_call 75; refine (HM.out _).mono ?_; rintro e w1 ⟨rfl, rfl⟩) | (go_at_call 76; refine (HU.out _).mono ?_; rintro e w1 ⟨rfl, rfl⟩) | (go_at_call 77; refine (HT.out _).mono ?_; rintro e w1 ⟨rfl, rfl⟩) | (go_at_call 123; refine (HN.out _).mono ?_; rintro e w1 ⟨rfl, rfl⟩))
    all_goals first
      | (exfalso; omega)
      | (go_ret
         exact ⟨ret_bool (by exact rgtI_name), by go_grown⟩)
  | true =>
    go_enter Tryz.func78, Tryz.ntmps78
    go_wp2_with (first | (go_at_call 74; refine (HI.out _).mono ?_; rintro e w1 ⟨rfl, rfl⟩) | (go_at_call 75; refine (HM.out _).mono ?_; rintro e w1 ⟨rfl, rfl⟩) | (go_at_call 76; refine (HU.out _).mono ?_; rintro e w1 ⟨rfl, rfl⟩) | (go_at_call 77; refine (HT.out _).mono ?_; rintro e w1 ⟨rfl, rfl⟩) | (go_at_call 123; refine (HN.out _).mono ?_; rintro e w1 ⟨rfl, rfl⟩))
    all_goals first | (exfalso; omega) | skip
    refine (HC.out _ ((Below.refl _ w).alloc (Nat.le_refl _) _)).mono ?_
    rintro e w3 ⟨rfl, hb3⟩
    have HB := Lib.hid (bthen ((Below.refl _ w).alloc (Nat.le_refl _) _) hb3)
    have d0 := (HB.out.cell (p := ⟨b0, o0, none⟩) hl0).trans cv
    have kz := fun j => hb3.cell (p := ⟨w.heap.size, j, none⟩) (by simp)
    have z0 := kz 0
    have z1 := kz 1
    have z2 := kz 2
    have z3 := kz 3
    have z4 := kz 4
    simp at z0 z1 z2 z3 z4
    clear hb3 kz
    go_wp2_with (first | (go_at_call 74; refine (HI.out _).mono ?_; rintro e w1 ⟨rfl, rfl⟩) | (go_at_call 75; refine (HM.out _).mono ?_; rintro e w1 ⟨rfl, rfl⟩) | (go_at_call 76; refine (HU.out _).mono ?_; rintro e w1 ⟨rfl, rfl⟩) | (go_at_call 77; refine (HT.out _).mono ?_; rintro e w1 ⟨rfl, rfl⟩) | (go_at_call 123; refine (HN.out _).mono ?_; rintro e w1 ⟨rfl, rfl⟩))
    all_goals first
      | (exfalso; omega)
      | (go_ret
         exact ⟨ret_bool (by exact rgtI_ok (by omega) (by omega) (by omega) rfl (.inl rfl)), HB.out⟩)
end Go.Proofs.YtaeophaecclnbaaGreatDoor

/- Right values: the document's checks of them, walked. Whether an event is right: the document's functions, walked, at events whose parts were read. Printed by gen_rrt.py. -/
import Derived.Test.YtaeophaecclnbaaGreatDoorMgG
import Derived.Test.YtaeophaecclnbaaGreatDoorMgR
import Derived.Test.YtaeophaecclnbaaGreatDoorMgD
import Derived.Test.YtaeophaecclnbaaGreatDoorMgF
namespace Go.Proofs.YtaeophaecclnbaaGreatDoor
open Go.RowKit

set_option maxRecDepth 100000 in
set_option maxHeartbeats 4000000 in
theorem rmay_any {x : Node} (h : rightN x = true) (w : World) : Calls Tryz.prog 156 #[x.val] w (RetB (.bool true) w) := by
  have P := right_parts h
  have HF := Lib.hid (fun w => rfine_all x.re x.im w)
  rw [P.fine] at HF
  have o0 : (FloatKind.f64.format.order 0 0 == some .eq) = true := by decide
  obtain ⟨k, ki, i, t, re, im⟩ := x
  unfold Node.val
  obtain ⟨_, hk, p1, p2, p3, p4, p5, p6⟩ := P
  clear h
  simp only at *
  have hcases : k = 0 ∨ k = 1 ∨ k = 2 ∨ k = 3 ∨ k = 4 ∨ k = 5 := by omega
  rcases hcases with rfl | rfl | rfl | rfl | rfl | rfl
  · obtain rfl : ki = 0 := by omega
    obtain rfl : i = 0 := by omega
    obtain rfl : t = ⟨#[]⟩ := p3.resolve_left (by decide)
    obtain ⟨rfl, rfl⟩ : re = 0 ∧ im = 0 := p4.resolve_left (by decide)
    go_enter Tryz.func156, Tryz.ntmps156
    go_wp2_with fail
    refine (HF.out _).mono ?_
    rintro e w1 ⟨rfl, rfl⟩
    go_wp2_with fail
    go_ret
    exact ⟨rfl, by go_grown⟩
  · obtain rfl : ki = 0 := by omega
    obtain rfl : t = ⟨#[]⟩ := p3.resolve_left (by decide)
    obtain ⟨rfl, rfl⟩ : re = 0 ∧ im = 0 := p4.resolve_left (by decide)
    rcases p5 rfl with rfl | rfl
    all_goals
      go_enter Tryz.func156, Tryz.ntmps156
      go_wp2_with fail
      refine (HF.out _).mono ?_
      rintro e w1 ⟨rfl, rfl⟩
      go_wp2_with fail
      go_ret
      exact ⟨rfl, by go_grown⟩
  · obtain rfl : ki = 0 := by omega
    obtain rfl : t = ⟨#[]⟩ := p3.resolve_left (by decide)
    obtain ⟨rfl, rfl⟩ : re = 0 ∧ im = 0 := p4.resolve_left (by decide)
    go_enter Tryz.func156, Tryz.ntmps156
    go_wp2_with fail
    refine (HF.out _).mono ?_
    rintro e w1 ⟨rfl, rfl⟩
    go_wp2_with fail
    go_ret
    exact ⟨rfl, by go_grown⟩
  · obtain rfl : ki = 0 := by omega
    obtain rfl : i = 0 := by omega
    obtain ⟨rfl, rfl⟩ : re = 0 ∧ im = 0 := p4.resolve_left (by decide)
    go_enter Tryz.func156, Tryz.ntmps156
    go_wp2_with fail
    refine (HF.out _).mono ?_
    rintro e w1 ⟨rfl, rfl⟩
    go_wp2_with fail
    go_ret
    exact ⟨rfl, by go_grown⟩
  · obtain rfl : ki = 0 := by omega
    obtain rfl : i = 0 := by omega
    obtain rfl : t = ⟨#[]⟩ := p3.resolve_left (by decide)
    go_enter Tryz.func156, Tryz.ntmps156
    go_wp2_with fail
    refine (HF.out _).mono ?_
    rintro e w1 ⟨rfl, rfl⟩
    go_wp2_with fail
    go_ret
    exact ⟨rfl, by go_grown⟩
  · obtain rfl : i = 0 := by omega
    obtain rfl : t = ⟨#[]⟩ := p3.resolve_left (by decide)
    obtain ⟨rfl, rfl⟩ : re = 0 ∧ im = 0 := p4.resolve_left (by decide)
    have p7 := p6 rfl
    go_enter Tryz.func156, Tryz.ntmps156
    go_wp2_with fail
    refine (HF.out _).mono ?_
    rintro e w1 ⟨rfl, rfl⟩
    go_wp2_with fail
    all_goals first
      | (exfalso; omega)
      | (go_ret
         exact ⟨rfl, by go_grown⟩)
set_option maxRecDepth 100000 in
set_option maxHeartbeats 4000000 in
theorem rend_any {b off c : Nat} {v : List Node} {w : World} (hR : Right v) (hc : ∀ k, k < v.length → NodeAt w b (off + k * 5) (atN v k)) :
    Calls Tryz.prog 157 #[.slice (some ⟨b, off, none⟩) v.length c, .int .i64 0] w (Ret (.int .i64 (v.length : Int)) w) := by
  have hv := hR.len
  have HC := Lib.hid hc
  have HR := Lib.hid hR
  clear hc hR
  go_enter Tryz.func157, Tryz.ntmps157
  go_wp2_with fail
  go_loop [1, 5] (fun a t => ∃ k : Nat, a = .int .i64 k ∧ t = .int .i64 (openTo v k) ∧ k < v.length) (fun a _ => v.length - (intOf a).toNat)
  case atStart => exact ⟨0, rfl, rfl, HR.out.pos⟩
  case round =>
    obtain ⟨k, rfl, rfl, hk⟩ := hrel
    obtain ⟨d0, d1, d2, d3, d4⟩ := HC.out k hk
    obtain ⟨_, a1, a2⟩ := HR.out.add hk
    have hm := HR.out.more k hk
    have hoL := openTo_le v k
    have ST := Lib.hid (HR.out.step hk)
    have ON := Lib.hid (fun h => HR.out.more (k + 1) h)
    have EN := Lib.hid HR.out.ends
    unfold kidsN at a1 a2 ST
    by_cases h5 : (atN v k).kind = 5
    · rw [if_pos h5] at a1 a2 ST
      have hk5 : (((atN v k).kind : Int) == 5) = true := by rw [h5]; rfl
      clear h5
      generalize atN v k = x at *
      obtain ⟨kd, ks, it, tx, re, im⟩ := x
      dsimp only at *
      generalize openTo v k = o at *
      have w1 : IntKind.i64.wrap (o - 1) = o - 1 := IntWalk.i64_in _ (by omega)
      have w2 : IntKind.i64.wrap (o - 1 + ks) = o - 1 + ks := IntWalk.i64_in _ (by omega)
      by_cases hz : o - 1 + ks = 0
      · have hz2 : (o - 1 + ks == 0) = true := beq_iff_eq.2 hz
        have E := Lib.hid (show k + 1 = v.length from Decidable.byContradiction fun cc => by have := ON.out (by omega); rw [ST.out] at this; omega)
        clear hz
        go_wp2_with fail
        go_ret
        exact ⟨ret_int (by have := E.out; omega), rfl⟩
      · have hz2 : (o - 1 + ks == 0) = false := beq_eq_false_iff_ne.2 hz
        have E := Lib.hid (show k + 1 < v.length from Decidable.byContradiction fun cc => by
          have e : k + 1 = v.length := by omega
          have := EN.out
          rw [← e, ST.out] at this
          exact hz this)
        clear hz
        go_wp2_with fail
        go_round
        case rel => exact ⟨k + 1, by go_num, by rw [ST.out], E.out⟩
        case measure => simp [intOf]; omega
    · rw [if_neg h5] at a1 a2 ST
      have hk5 : (((atN v k).kind : Int) == 5) = false := beq_eq_false_iff_ne.2 (by omega)
      clear h5
      generalize atN v k = x at *
      obtain ⟨kd, ks, it, tx, re, im⟩ := x
      dsimp only at *
      rw [Int.add_zero] at ST
      generalize openTo v k = o at *
      have w1 : IntKind.i64.wrap (o - 1) = o - 1 := IntWalk.i64_in _ (by omega)
      by_cases hz : o - 1 = 0
      · have hz2 : (o - 1 == 0) = true := beq_iff_eq.2 hz
        have E := Lib.hid (show k + 1 = v.length from Decidable.byContradiction fun cc => by have := ON.out (by omega); rw [ST.out] at this; omega)
        clear hz
        go_wp2_with fail
        go_ret
        exact ⟨ret_int (by have := E.out; omega), rfl⟩
      · have hz2 : (o - 1 == 0) = false := beq_eq_false_iff_ne.2 hz
        have E := Lib.hid (show k + 1 < v.length from Decidable.byContradiction fun cc => by
          have e : k + 1 = v.length := by omega
          have := EN.out
          rw [← e, ST.out] at this
          exact hz this)
        clear hz
        go_wp2_with fail
        go_round
        case rel => exact ⟨k + 1, by go_num, by rw [ST.out], E.out⟩
        case measure => simp [intOf]; omega
set_option maxRecDepth 100000 in
set_option maxHeartbeats 4000000 in
theorem rcheck_any {b off c : Nat} {v : List Node} {w : World} (hR : Right v) (hbl : b < w.heap.size) (hc : ∀ k, k < v.length → NodeAt w b (off + k * 5) (atN v k)) :
    Calls Tryz.prog 124 #[.slice (some ⟨b, off, none⟩) v.length c] w (RetB (.int .i64 0) w) := by
  have hv := hR.len
  have hp := hR.pos
  have hms := hR.meas
  have HC := Lib.hid hc
  have HR := Lib.hid hR
  have HB := Lib.hid hbl
  have ht := hR.text
  have d1024 : decide ((1024 : Int) < (v.length : Int)) = false := decide_eq_false (by omega)
  have d0 : ((v.length : Int) == 0) = false := beq_eq_false_iff_ne.2 (by omega)
  clear hc hR
  go_enter Tryz.func124, Tryz.ntmps124
  go_wp2_with fail
  go_loopw [3, 4] (fun s i wr => ∃ k : Nat, i = .int .i64 k ∧ s = .int .i64 (measTo v k : Int) ∧ k ≤ v.length ∧ Below w.heap.size w wr) (fun _ i _ => v.length - (intOf i).toNat)
  case atStart => exact ⟨0, rfl, rfl, Nat.zero_le _, Below.refl _ _⟩
  case round =>
    obtain ⟨k, rfl, rfl, hk, hB⟩ := hrel
    by_cases hlt : k < v.length
    · obtain ⟨d0, d1, d2, d3, d4⟩ := (HC.out k hlt).below hB HB.out
      have HM := Lib.hid (fun w => rmay_any (HR.out.nodeAny k) w)
      have hm2 := measTo_at v v.length k hlt
      have hml : measTo v k + (1 + (atN v k).text.size) ≤ 4096 := by
        have h1 : measTo v (k + 1) ≤ measTo v v.length := measTo_mono v (by omega)
        have : measTo v v.length = meas v := rfl
        have e : measTo v (k + 1) = measTo v k + (1 + (atN v k).text.size) := rfl
        omega
      have EM := Lib.hid (show measTo v (k + 1) = measTo v k + (1 + (atN v k).text.size) from rfl)
      unfold Node.val at HM
      clear hm2
      generalize atN v k = x at *
      obtain ⟨kd, ks, it, tx, re, im⟩ := x
      dsimp only at *
      generalize measTo v k = m at *
      have w1 : IntKind.i64.wrap ((m : Int) + 1) = (m : Int) + 1 := IntWalk.i64_in _ (by omega)
      have w2 : IntKind.i64.wrap ((m : Int) + 1 + (tx.size : Int)) = (m : Int) + 1 + (tx.size : Int) := IntWalk.i64_in _ (by omega)
      go_wp2_with fail
      refine (HM.out _).mono ?_
      rintro e w1 ⟨rfl, hb⟩
      have HB2 := Lib.hid (bthen hB hb)
      have hbl2 : b < wr.heap.size := Nat.lt_of_lt_of_le HB.out hB.size
      have e3 := (hb.cell (p := ⟨b, off + k * 5 + 3, none⟩) hbl2).trans d3
      clear hb hB d0 d1 d2 d3 d4
      go_wp2_with fail
      go_roundw
      case rel => exact ⟨k + 1, by go_num, by rw [EM.out]; exact int_eq (by omega), by omega, HB2.out⟩
      case measure => simp [intOf]; omega
    · obtain rfl : k = v.length := by omega
      have HE := Lib.hid (rend_any (c := c) HR.out (fun k hk => (HC.out k hk).below hB HB.out))
      have hms2 : decide ((4096 : Int) < (measTo v v.length : Int)) = false := decide_eq_false (by have : measTo v v.length = meas v := rfl; omega)
      generalize measTo v v.length = ms at *
      go_wp2_with fail
      refine HE.out.mono ?_
      rintro e w9 ⟨rfl, rfl⟩
      go_wp2_with fail
      go_ret
      exact ⟨rfl, hB⟩
set_option maxRecDepth 100000 in
set_option maxHeartbeats 4000000 in
theorem rname_any (s : List UInt8) (hs : (s.length : Int) ≤ 140737488351232) (w : World) : Calls Tryz.prog 123 #[.string (strB s)] w (Ret (.bool (nameS s)) w) := by
  have hz := strB_size s
  have HX := Lib.hid (fun i hi => str_byte s i hi)
  by_cases h0 : s.length = 0
  · rw [name_none (.inl h0)]
    generalize strB s = S at *
    go_enter Tryz.func123, Tryz.ntmps123
    go_wp2_with fail
    go_ret
    exact ⟨rfl, rfl⟩
  · by_cases h24 : 24 < s.length
    · rw [name_none (.inr h24)]
      generalize strB s = S at *
      go_enter Tryz.func123, Tryz.ntmps123
      go_wp2_with fail
      go_ret
      exact ⟨rfl, rfl⟩
    · generalize strB s = S at *
      go_enter Tryz.func123, Tryz.ntmps123
      go_wp2_with fail
      all_goals first | (exfalso; omega) | skip
      go_loop [3, 4, 5] (fun o _ _ => ∃ i : Nat, o = .int .i64 i ∧ i ≤ s.length ∧ ∀ j, j < i → letB s j = true) (fun o _ _ => s.length - (intOf o).toNat)
      case atStart => exact ⟨0, rfl, by omega, fun j hj => absurd hj (by omega)⟩
      case round =>
        obtain ⟨i, rfl, hi, hall⟩ := hrel
        have HA := Lib.hid hall
        clear hall
        by_cases hlt : i < s.length
        · have hx := fun h => HX.out i h
          have hci := byt_lt s i
          have hsz : i < S.size := by rw [hz]; exact hlt
          by_cases hb : letB s i = true
          · have HB := Lib.hid hb
            have hcase : (97 ≤ byt s i ∧ byt s i ≤ 122) ∨ (0 < i ∧ 48 ≤ byt s i ∧ byt s i ≤ 57) ∨ (0 < i ∧ byt s i = 95) := by
              rw [letB_low] at hb
              unfold lowB digB at hb
              simp only [Bool.or_eq_true, Bool.and_eq_true, decide_eq_true_eq] at hb
              omega
            clear hb
            generalize hcc : byt s i = c2 at *
            clear hcc
            rcases hcase with ⟨q1, q2⟩ | ⟨q0, q1, q2⟩ | ⟨q0, rfl⟩
            all_goals
              go_wp2_with fail
              all_goals first
                | (exfalso; omega)
                | (go_round
                   case rel => exact ⟨i + 1, by go_num, by omega, fun j hj => if hji : j < i then HA.out j hji else (show j = i by omega) ▸ HB.out⟩
                   case measure => simp [intOf]; omega)
          · have HB := Lib.hid (name_bad hlt (by simpa using hb))
            have hcase : ¬ (97 ≤ byt s i ∧ byt s i ≤ 122) ∧ (i = 0 ∨ ¬ (48 ≤ byt s i ∧ byt s i ≤ 57)) ∧ (i = 0 ∨ ¬ byt s i = 95) := by
              rw [letB_low] at hb
              unfold lowB digB at hb
              simp only [Bool.or_eq_true, Bool.and_eq_true, decide_eq_true_eq] at hb
              omega
            clear hb
            generalize hcc : byt s i = c2 at *
            clear hcc
            have hr : ∀ w, Ret (.bool (nameS s)) w (.returned (.bool false)) w := fun w => ⟨by rw [HB.out], rfl⟩
            by_cases hi0 : i = 0
            · subst hi0
              go_wp2_with fail
              all_goals first
                | (exfalso; omega)
                | (go_ret
                   exact hr _)
            · have h95 : ((c2 : Int) == 95) = false := beq_eq_false_iff_ne.2 (by omega)
              go_wp2_with fail
              all_goals first
                | (exfalso; omega)
                | (go_ret
                   exact hr _)
        · go_wp2_with fail
          go_ret
          exact ⟨ret_bool (name_good (by omega) (by omega) (fun j hj => HA.out j (by omega))).symm, rfl⟩
end Go.Proofs.YtaeophaecclnbaaGreatDoor
namespace Go.Proofs.YtaeophaecclnbaaGreatDoor
open Go.RowKit

def rgtI (id : Int) (b s d : Bool) (v : List Node) (lo hi i : Int) : Bool := decide (id < 500) && (!b || s) && (!d || decide ((atN v 0).kind = 5)) && decide (lo ≤ i) && decide (i ≤ hi)
theorem rgt_parts (x : Ev) : rightE x = rgtI x.id (nameK x.kind) (nameS x.name) (listK x.kind) x.value (leastK x.kind) (mostK x.kind) x.int := rfl
section
variable {id : Int} {b s d : Bool} {v : List Node} {lo hi i : Int}
theorem rgtI_ok (h1 : id < 500) (h2 : lo ≤ i) (h3 : i ≤ hi) (h4 : (!b || s) = true) (h5 : d = false ∨ (atN v 0).kind = 5) : true = rgtI id b s d v lo hi i := by
  unfold rgtI
  rw [decide_eq_true h1, decide_eq_true h2, decide_eq_true h3, h4]
  rcases h5 with h5 | h5
  · rw [h5]; rfl
  · rw [decide_eq_true h5]; cases d <;> rfl
theorem rgtI_id (h : ¬ id < 500) : false = rgtI id b s d v lo hi i := by unfold rgtI; rw [decide_eq_false h]; rfl
theorem rgtI_lo (h : ¬ lo ≤ i) : false = rgtI id b s d v lo hi i := by unfold rgtI; rw [decide_eq_false h]; simp
theorem rgtI_hi (h : ¬ i ≤ hi) : false = rgtI id b s d v lo hi i := by unfold rgtI; rw [decide_eq_false h]; simp
theorem rgtI_name : false = rgtI id true false d v lo hi i := by unfold rgtI; simp
theorem rgtI_list (h : ¬ (atN v 0).kind = 5) : false = rgtI id b s true v lo hi i := by unfold rgtI; rw [decide_eq_false h]; simp
end
theorem rid_any (k : Nat) (w : World) : Calls Tryz.prog 74 #[.int .u8 (k : Int)] w (Ret (.bool (idK k)) w) := by
  unfold idK
  go_enter Tryz.func74, Tryz.ntmps74
  go_wp2_with fail
  all_goals
    go_ret
    exact ⟨ret_bool (by rw [Bool.eq_iff_iff]; simp; omega), rfl⟩
theorem rnm_any (k : Nat) (w : World) : Calls Tryz.prog 75 #[.int .u8 (k : Int)] w (Ret (.bool (nameK k)) w) := by
  unfold nameK
  go_enter Tryz.func75, Tryz.ntmps75
  go_wp2_with fail
  all_goals
    go_ret
    exact ⟨ret_bool (by rw [Bool.eq_iff_iff]; simp; omega), rfl⟩
theorem rvl_any (k : Nat) (w : World) : Calls Tryz.prog 76 #[.int .u8 (k : Int)] w (Ret (.bool (valueK k)) w) := by
  unfold valueK
  go_enter Tryz.func76, Tryz.ntmps76
  go_wp2_with fail
  all_goals
    go_ret
    exact ⟨ret_bool (by rw [Bool.eq_iff_iff]; simp; omega), rfl⟩
theorem rin_any (k : Nat) (w : World) : Calls Tryz.prog 77 #[.int .u8 (k : Int)] w (Ret (.bool (intK k)) w) := by
  unfold intK
  go_enter Tryz.func77, Tryz.ntmps77
  go_wp2_with fail
  all_goals
    go_ret
    exact ⟨ret_bool (by rw [Bool.eq_iff_iff]; simp; omega), rfl⟩
end Go.Proofs.YtaeophaecclnbaaGreatDoor

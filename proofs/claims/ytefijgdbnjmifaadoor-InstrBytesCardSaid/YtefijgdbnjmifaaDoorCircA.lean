/- Circles without a step, walked. -/
import Derived.Test.YtefijgdbnjmifaaDoorLookA
namespace Go.Proofs.YtefijgdbnjmifaaDoor
open Go.RowKit Go.Maps

/-- None of the first k places has a circle. -/
def NoC (c : List Ins) (d : List Int) (k : Nat) : Prop := ∀ j, j < k → (decide (0 ≤ dAt d j) && circS c j) = false
theorem NoC.zero {c : List Ins} {d : List Int} : NoC c d 0 := fun j h => absurd h (by omega)
theorem NoC.succ {c : List Ins} {d : List Int} {k : Nat} (h : NoC c d k) (hk : (decide (0 ≤ dAt d k) && circS c k) = false) : NoC c d (k + 1) := fun j hj => by
  by_cases e : j = k
  · subst e; exact hk
  · exact h j (by omega)
theorem circ_none {c : List Ins} {d : List Int} (h : NoC c d c.length) : circAt c d = -1 := by
  unfold circAt
  have : ((List.range c.length).find? fun i => decide (0 ≤ dAt d i) && circS c i) = none := by
    rw [List.find?_range_eq_none]
    intro i hi
    rw [h i hi]; rfl
  rw [this]; rfl
theorem circ_some {c : List Ins} {d : List Int} {k : Nat} (h : NoC c d k) (hk : k < c.length) (h0 : 0 ≤ dAt d k) (h1 : circS c k = true) : circAt c d = k := by
  unfold circAt
  have : ((List.range c.length).find? fun i => decide (0 ≤ dAt d i) && circS c i) = some k := by
    rw [List.find?_range_eq_some]
    refine ⟨by rw [decide_eq_true h0, h1]; rfl, List.mem_range.2 hk, fun j hj => by rw [h j hj]; rfl⟩
  rw [this]; rfl
theorem free_jump {c : List Ins} {k j : Nat} (h : (atI c j).op = 1) : freeS c (k + 1) j = freeS c k (atI c j).a.toNat := if_pos h
theorem free_bool {c : List Ins} {k j : Nat} (h : (atI c j).op = 5) : freeS c (k + 1) j = freeS c k (j + 1) := (if_neg (by omega)).trans (if_pos h)
theorem free_no {c : List Ins} {k j : Nat} (h : (atI c j).op ≠ 1) (h' : (atI c j).op ≠ 5) : freeS c (k + 1) j = false := (if_neg h).trans (if_neg h')
/-- On the way from place k: at j behind nn free steps. -/
def Onw (c : List Ins) (d : List Int) (k nn j : Nat) : Prop := nn ≤ c.length + 1 ∧ j < c.length ∧ 0 ≤ dAt d j ∧ circS c k = freeS c (c.length + 1 - nn) j
theorem Onw.zero {c : List Ins} {d : List Int} {k : Nat} (hk : k < c.length) (h0 : 0 ≤ dAt d k) : Onw c d k 0 k := ⟨by omega, hk, h0, rfl⟩
/-- All places that are met fit, and all code is right. -/
structure AllF (c : List Ins) (d : List Int) : Prop where
  len : d.length = c.length
  right : AllR c
  fit : ∀ i, i < c.length → 0 ≤ dAt d i → FitAt c d i
theorem Onw.jump {c : List Ins} {d : List Int} {k nn j : Nat} (h : Onw c d k nn j) (hf : AllF c d) (hn : nn ≤ c.length) (ho : (atI c j).op = 1) : ∃ q : Nat, (atI c j).a = (q : Int) ∧ Onw c d k (nn + 1) q := by
  obtain ⟨h1, h2, h3, h4⟩ := h
  obtain ⟨a, b⟩ := (free_step hf.len (hf.right j h2) (hf.fit j h2 h3)).1 ho
  refine ⟨(atI c j).a.toNat, by omega, by omega, b.1, b.2, ?_⟩
  rw [h4, show c.length + 1 - nn = (c.length + 1 - (nn + 1)) + 1 by omega, free_jump ho]
theorem Onw.bool {c : List Ins} {d : List Int} {k nn j : Nat} (h : Onw c d k nn j) (hf : AllF c d) (hn : nn ≤ c.length) (ho : (atI c j).op = 5) : Onw c d k (nn + 1) (j + 1) := by
  obtain ⟨h1, h2, h3, h4⟩ := h
  obtain ⟨a, b⟩ := (free_step hf.len (hf.right j h2) (hf.fit j h2 h3)).2 ho
  refine ⟨by omega, a, b, ?_⟩
  rw [h4, show c.length + 1 - nn = (c.length + 1 - (nn + 1)) + 1 by omega, free_bool ho]
theorem Onw.no {c : List Ins} {d : List Int} {k nn j : Nat} (h : Onw c d k nn j) (hn : nn ≤ c.length) (h1 : (atI c j).op ≠ 1) (h5 : (atI c j).op ≠ 5) : circS c k = false := by
  rw [h.2.2.2, show c.length + 1 - nn = (c.length + 1 - (nn + 1)) + 1 by omega, free_no h1 h5]
theorem Onw.yes {c : List Ins} {d : List Int} {k nn j : Nat} (h : Onw c d k nn j) (hn : ¬ nn ≤ c.length) : circS c k = true := by
  rw [h.2.2.2, show c.length + 1 - nn = 0 by omega]; rfl

set_option maxHeartbeats 2000000 in
theorem circle_st {w0 w : World} {x : Fx} {d : List Int} {g : List Bool} {m : Nat} {K : Nat → Prop} {cs : List InsV} (h : St w0 w x d g m K) (hcode : CodeIn w0 x.A cs) (hl : cs.length = x.n) (hn : (x.n : Int) ≤ 8192) (hF : AllF (insL cs) d) :
    Calls Tryd.prog 51 #[.pointer (some ⟨x.wb, 0, none⟩)] w (Ret (.int .i64 (circAt (insL cs) d)) w) := by
  have hlc : (insL cs).length = x.n := by rw [insL_length, hl]
  obtain ⟨k0, k1, k2, dl, dcell, wlt, dlt⟩ := h.cells
  have hcw : CodeIn w x.A cs := hcode.below h.low (Nat.le_refl _)
  clear h hcode k2
  have HC := Lib.hid hcw
  have HF := Lib.hid hF
  have HL := Lib.hid hl
  have HLC := Lib.hid hlc
  have HD := Lib.hid dcell
  clear hcw hF hl hlc dcell dl
  obtain ⟨A, n, cc, wb, db, dc, base, sb, bm⟩ := x
  simp only at k0 k1 wlt dlt hn HC HL HLC HD
  go_enter Tryd.func51, Tryd.ntmps51
  go_wp2_with fail
  go_loop [12, 3, 4, 5, 6] (fun i _ _ _ _ => ∃ k : Nat, k ≤ n ∧ i = .int .i64 k ∧ NoC (insL cs) d k) (fun i _ _ _ _ => n - (intOf i).toNat)
  case atStart => exact ⟨0, Nat.zero_le _, rfl, NoC.zero⟩
  case round =>
    obtain ⟨k, hk, rfl, hno⟩ := hrel
    have NO := Lib.hid hno
    clear hno
    by_cases hlt : k < n
    · have dk := HD.out k hlt
      obtain ⟨b, off, hA, _, hcell⟩ := HC.out (by have := HL.out; omega)
      subst hA
      have CE := Lib.hid hcell
      clear hcell
      by_cases h0 : 0 ≤ dAt d k
      · have H0 := Lib.hid h0
        have hge : decide (0 ≤ dAt d k) = true := decide_eq_true h0
        go_wp2_with fail
        go_loop [5, 6] (fun t v => ∃ (j nn : Nat), t = .int .i64 j ∧ v = .int .i64 nn ∧ Onw (insL cs) d k nn j) (fun _ v => n + 1 - (intOf v).toNat)
        case atStart => exact ⟨k, 0, rfl, rfl, Onw.zero (by rw [HLC.out]; exact hlt) H0.out⟩
        case round =>
          obtain ⟨j, nn, rfl, rfl, hon⟩ := hrel
          have hnn := hon.1
          have hj := hon.2.1
          rw [HLC.out] at hnn hj
          have ON := Lib.hid hon
          clear hon
          by_cases hle : nn ≤ n
          · obtain ⟨q0, q1, _, _⟩ := CE.out j (by have := HL.out; omega)
            have EI := Lib.hid (atI_ins cs j)
            generalize atV cs j = v at *
            obtain ⟨op, a, int, text⟩ := v
            simp only at q0 q1
            have hle2 : nn ≤ (insL cs).length := by have := HLC.out; omega
            have LE2 := Lib.hid hle2
            clear hle2
            by_cases h1 : op = 1
            · subst h1
              obtain ⟨q, hq, hon'⟩ := ON.out.jump HF.out LE2.out (by rw [EI.out]; rfl)
              rw [EI.out] at hq
              have hq' : a = (q : Int) := hq
              subst hq'
              have ON' := Lib.hid hon'
              have q0' : w.cell? ⟨b, off + j * 4, none⟩ = some (.int .u8 1) := q0
              clear hq hon' q0
              go_wp2_with fail
              go_round
              case rel => exact ⟨q, nn + 1, rfl, by go_num, ON'.out⟩
              case measure => simp [intOf]; omega
            · by_cases h5 : op = 5
              · subst h5
                have ON' := Lib.hid (ON.out.bool HF.out LE2.out (by rw [EI.out]; rfl))
                have q0' : w.cell? ⟨b, off + j * 4, none⟩ = some (.int .u8 5) := q0
                clear q0
                go_wp2_with fail
                go_round
                case rel => exact ⟨j + 1, nn + 1, by go_num, by go_num, ON'.out⟩
                case measure => simp [intOf]; omega
              · have t1 : ((op : Int) == 1) = false := beq_eq_false_iff_ne.2 (by omega)
                have t5 : ((op : Int) == 5) = false := beq_eq_false_iff_ne.2 (by omega)
                have hfin := Lib.hid (NO.out.succ (show (decide (0 ≤ dAt d k) && circS (insL cs) k) = false by rw [ON.out.no LE2.out (by rw [EI.out]; exact h1) (by rw [EI.out]; exact h5)]; simp))
                clear h1 h5
                go_wp2_with fail
                go_round
                case rel => exact ⟨k + 1, by omega, by go_num, hfin.out⟩
                case measure => simp [intOf]; omega
          · have E := Lib.hid (circ_some NO.out (by rw [HLC.out]; exact hlt) H0.out (ON.out.yes (by have := HLC.out; omega)))
            go_wp2_with fail
            go_ret
            exact ⟨ret_int E.out.symm, rfl⟩
      · have hge : decide (0 ≤ dAt d k) = false := decide_eq_false h0
        have hfin := Lib.hid (NO.out.succ (show (decide (0 ≤ dAt d k) && circS (insL cs) k) = false by rw [hge]; rfl))
        go_wp2_with fail
        refine wp_loop_rounds 1 ?_
        rw [rounds_succ]
        go_wp2_with fail
        go_round
        case rel => exact ⟨k + 1, by omega, by go_num, hfin.out⟩
        case measure => simp [intOf]; omega
    · have E := Lib.hid (circ_none (c := insL cs) (d := d) (by rw [HLC.out, show n = k by omega]; exact NO.out))
      go_wp2_with fail
      go_ret
      exact ⟨ret_int E.out.symm, rfl⟩
end Go.Proofs.YtefijgdbnjmifaaDoor

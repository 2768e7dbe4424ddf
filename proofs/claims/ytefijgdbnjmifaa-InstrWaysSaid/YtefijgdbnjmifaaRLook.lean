/- The reference's Look, walked. -/
import Derived.Test.YtefijgdbnjmifaaFitsC
import Derived.Test.YtefijgdbnjmifaaLookH
namespace Go.Proofs.Ytefijgdbnjmifaa
open Go.RowKit Go.Maps

/-- What the reference's Look answers: the depths are there where all is well. -/
def RPost (c : List Ins) (S : Said) (w : World) (n : Nat) (e : Ending) (w' : World) : Prop :=
  ∃ v : Value, e = .returned (.tuple #[.int .i64 S.slots, .int .i64 S.stack, .int .i64 S.wrong, v, .int .i64 S.e]) ∧ Below w.heap.size w w' ∧
    (S.e ≠ 0 → v = .slice none 0 0) ∧ (S.e = 0 → ∃ db : Nat, v = .slice (some ⟨db, 0, none⟩) n n ∧ w.heap.size ≤ db ∧ db < w'.heap.size ∧ ∀ j, j < n → w'.cell? ⟨db, j, none⟩ = some (.int .i64 (dAt (fitsS c).1 j)))
theorem rlook_arg (A : Option Addr) (n cc : Nat) (p : Int) (hp : p < 0 ∨ 100 < p) (w : World) :
    Calls Try.prog 9 #[.slice A n cc, .int .i64 p] w (Ret (.tuple #[.int .i64 0, .int .i64 0, .int .i64 0, .slice none 0 0, .int .i64 1]) w) := by
  rcases hp with hp | hp
  · have h1 : decide (p < 0) = true := decide_eq_true hp
    go_enter Try.func9, Try.ntmps9
    go_wp2_with fail
    exact bodyPost_ret (v := .tuple #[.int .i64 0, .int .i64 0, .int .i64 0, .slice none 0 0, .int .i64 1]) (by simp [results, Try.results9, go_sem]) rfl ⟨rfl, rfl⟩
  · have h1 : decide (p < 0) = false := decide_eq_false (by omega)
    have h2 : decide (100 < p) = true := decide_eq_true hp
    go_enter Try.func9, Try.ntmps9
    go_wp2_with fail
    exact bodyPost_ret (v := .tuple #[.int .i64 0, .int .i64 0, .int .i64 0, .slice none 0 0, .int .i64 1]) (by simp [results, Try.results9, go_sem]) rfl ⟨rfl, rfl⟩
theorem rlook_long (A : Option Addr) (n cc : Nat) (p : Int) (hn : n ≤ 9223372036854775807) (hn2 : 8192 < n) (hp0 : 0 ≤ p) (hp1 : p ≤ 100) (w : World) :
    Calls Try.prog 9 #[.slice A n cc, .int .i64 p] w (Ret (.tuple #[.int .i64 0, .int .i64 0, .int .i64 0, .slice none 0 0, .int .i64 2]) w) := by
  have h1 : decide (p < 0) = false := decide_eq_false (by omega)
  have h2 : decide (100 < p) = false := decide_eq_false (by omega)
  have h3 : decide ((8192 : Int) < (n : Int)) = true := decide_eq_true (by omega)
  go_enter Try.func9, Try.ntmps9
  go_wp2_with fail
  exact bodyPost_ret (v := .tuple #[.int .i64 0, .int .i64 0, .int .i64 0, .slice none 0 0, .int .i64 2]) (by simp [results, Try.results9, go_sem]) rfl ⟨rfl, rfl⟩
theorem rlook_empty (A : Option Addr) (cc : Nat) (p : Int) (hp0 : 0 ≤ p) (hp1 : p ≤ 100) (w : World) :
    Calls Try.prog 9 #[.slice A 0 cc, .int .i64 p] w (Ret (.tuple #[.int .i64 0, .int .i64 0, .int .i64 0, .slice none 0 0, .int .i64 3]) w) := by
  have h1 : decide (p < 0) = false := decide_eq_false (by omega)
  have h2 : decide (100 < p) = false := decide_eq_false (by omega)
  go_enter Try.func9, Try.ntmps9
  go_wp2_with fail
  exact bodyPost_ret (v := .tuple #[.int .i64 0, .int .i64 0, .int .i64 0, .slice none 0 0, .int .i64 3]) (by simp [results, Try.results9, go_sem]) rfl ⟨rfl, rfl⟩
set_option maxRecDepth 100000 in
set_option maxHeartbeats 8000000 in
theorem rlook_more {w : World} {A : Option Addr} {n cc : Nat} {cs : List InsV} (hcode : CodeIn w A cs) (hl : cs.length = n) (hok : OkC cs) (hn : (n : Int) ≤ 8192) (hn0 : 0 < n) (p : Int) (hp0 : 0 ≤ p) (hp1 : p ≤ 100) :
    Calls Try.prog 9 #[.slice A n cc, .int .i64 p] w (RPost (insL cs) (lookS (insL cs) p) w n) := by
  have h1 : decide (p < 0) = false := decide_eq_false (by omega)
  have h2 : decide (100 < p) = false := decide_eq_false (by omega)
  have h3 : decide ((8192 : Int) < (n : Int)) = false := decide_eq_false (by omega)
  have h4 : ((n : Int) == 0) = false := beq_eq_false_iff_ne.2 (by omega)
  have HC := Lib.hid hcode
  obtain ⟨b, off, hA, hbl, hcell⟩ := hcode (by omega)
  subst hA
  have CE := Lib.hid hcell
  have HL := Lib.hid hl
  have HO := Lib.hid hok
  have HLC := Lib.hid (show (insL cs).length = n by rw [insL_length, hl])
  clear hcode hl hok hcell
  go_enter Try.func9, Try.ntmps9
  go_wp2_with fail
  go_loopw [10, 9] (fun i s wr => ∃ k : Nat, k ≤ n ∧ i = .int .i64 k ∧ s = .int .i64 (slotsTo (insL cs) p k) ∧ RightTo (insL cs) k ∧ Below w.heap.size w wr) (fun i _ _ => n - (intOf i).toNat)
  case atStart => exact ⟨0, Nat.zero_le _, rfl, rfl, RightTo.zero, Below.refl _ _⟩
  case round =>
    obtain ⟨k, hk, rfl, rfl, hrt, hb⟩ := hrel
    have HR := Lib.hid hrt
    have HB := Lib.hid hb
    clear hrt
    by_cases hlt : k < n
    · obtain ⟨q0, q1, q2, q3⟩ := CE.out k (by have := HL.out; omega)
      have hkk := fun o => hb.cell (p := ⟨b, o, none⟩) hbl
      have q0 := (hkk _).trans q0
      have q1 := (hkk _).trans q1
      have q2 := (hkk _).trans q2
      have q3 := (hkk _).trans q3
      obtain ⟨ok1, ok2⟩ := HO.out k (by have := HL.out; omega)
      have EI := Lib.hid (atI_ins cs k)
      have hsz := hb.size
      have RA := Lib.hid (fun w => rright_any (atV cs k) n ok1 ok2 w)
      generalize atV cs k = v at *
      obtain ⟨op, a, int, text⟩ := v
      simp only at q0 q1 q2 q3 ok1
      have RO : Hid (∀ w, Calls Try.prog 14 #[.int .u8 (op : Int)] w (RetB (.agg #[.string (wordK op), .int .i64 (aK op), .bool (numK op), .bool (decide (textK op = 1)), .bool (decide (textK op = 2)), .int .i64 (takesK op), .int .i64 (leaveK op)]) w)) := Lib.hid (fun w => row_any op ok1 w)
      have hfl : ∀ w, (Instr.field 42 (.agg #[.string (wordK op), .int .i64 (aK op), .bool (numK op), .bool (decide (textK op = 1)), .bool (decide (textK op = 2)), .int .i64 (takesK op), .int .i64 (leaveK op)]) 1).run Try.prog w = .ok (.int .i64 (aK op)) w := fun _ => by kernel_rfl
      clear hkk ok2 hb
      go_wp2_with fail
      refine (RA.out _).mono ?_
      rintro e w2 ⟨rfl, hb2⟩
      have HB2 := Lib.hid (bthen' HB.out hb2 (Nat.le_refl _))
      cases hrb : rightI (InsV.ins ⟨op, a, int, text⟩) n with
      | false =>
        have E := Lib.hid (look_bad (p := p) hp0 hp1 (by have := HLC.out; omega) (by have := HLC.out; omega) (bad_some HR.out (by have := HLC.out; omega) (by rw [HLC.out, EI.out]; exact hrb)))
        clear hrb
        go_wp2_with fail
        refine bodyPost_ret (v := .tuple #[.int .i64 0, .int .i64 0, .int .i64 k, .slice none 0 0, .int .i64 3]) (by simp [results, Try.results9, go_sem]) rfl ?_
        rw [E.out]
        exact ⟨_, rfl, HB2.out, fun _ => rfl, fun h => absurd h (by simp)⟩
      | true =>
        have HRT := Lib.hid (HR.out.succ (by rw [HLC.out, EI.out]; exact hrb))
        have ra := rightI_a hrb
        have hz2 := hb2.size
        have p0 := (hb2.cell (p := ⟨b, off + k * 4, none⟩) (show b < wr.heap.size by omega)).trans q0
        have p1 := (hb2.cell (p := ⟨b, off + k * 4 + 1, none⟩) (show b < wr.heap.size by omega)).trans q1
        simp only [InsV.ins] at ra
        clear hrb q0 q1 q2 q3 hb2
        go_wp2_with fail
        refine (RO.out _).mono ?_
        rintro e w3 ⟨rfl, hb3⟩
        have HB3 := Lib.hid (bthen' HB2.out hb3 (Nat.le_refl _))
        have r1 := (hb3.cell (p := ⟨b, off + k * 4 + 1, none⟩) (show b < w2.heap.size by omega)).trans p1
        have sb := Lib.hid (fun (hr : AllR (insL cs)) => slots_bd hr hp0 hp1)
        clear hb3
        by_cases hA2 : aK op = 2
        · have hAb : ((aK op : Int) == 2) = true := by rw [hA2]; rfl
          have htop : topK op n = 100 := by unfold topK; rw [hA2]; rfl
          rw [htop] at ra
          have SL := Lib.hid (slots_two (c := insL cs) (p := p) (k := k) (by rw [EI.out]; exact hA2))
          have SL2 := Lib.hid (show slotsTo (insL cs) p (k + 1) = max (slotsTo (insL cs) p k) (a + 1) by rw [SL.out, EI.out]; rfl)
          generalize slotsTo (insL cs) p k = sl at *
          clear hA2 htop
          go_wp2_with fail
          all_goals
            go_roundw
            case rel => exact ⟨k + 1, by omega, by go_num, int_eq (by rw [SL2.out]; first | done | omega), HRT.out, HB3.out⟩
            case measure => simp [intOf]; omega
        · have hAb : ((aK op : Int) == 2) = false := beq_eq_false_iff_ne.2 (by omega)
          have SL := Lib.hid (slots_no (c := insL cs) (p := p) (k := k) (by rw [EI.out]; exact hA2))
          generalize slotsTo (insL cs) p k = sl at *
          clear hA2
          go_wp2_with fail
          go_roundw
          case rel => exact ⟨k + 1, by omega, by go_num, int_eq SL.out.symm, HRT.out, HB3.out⟩
          case measure => simp [intOf]; omega
    · have hkn : k = n := by omega
      have hR : AllR (insL cs) := fun i hi => HR.out i (by have := HLC.out; omega)
      have HRR := Lib.hid hR
      have HBN := Lib.hid (bad_none hR)
      have hnl := Lib.hid (show (insL cs).length ≤ 8192 by have := HLC.out; omega)
      have hn0l := Lib.hid (show 0 < (insL cs).length by have := HLC.out; omega)
      have HCW := Lib.hid (HC.out.below hb (Nat.le_refl _))
      have SLN := Lib.hid (show slotsTo (insL cs) p k = slotsTo (insL cs) p (insL cs).length by rw [HLC.out, hkn])
      generalize slotsTo (insL cs) p k = sl at *
      clear hR hkn hb
      go_wp2_with fail
      refine (fits_any HCW.out HL.out HO.out hn hn0 HRR.out).mono ?_
      rintro e w2 ⟨db, rfl, hcells, hb2, hlo, hdlt⟩
      have HB2 := Lib.hid (bthen' HB.out hb2 (Nat.le_refl _))
      have HCE := Lib.hid hcells
      have HCW2 := Lib.hid (HCW.out.below hb2 (Nat.le_refl _))
      obtain ⟨f1, f2, f3, f4, f5⟩ := fits_spec HRR.out hn0l.out
      have F1 := Lib.hid f1
      have F3 := Lib.hid f3
      have F4 := Lib.hid f4
      have LOW := Lib.hid (Nat.le_trans HB.out.size hlo)
      clear f1 f2 f3 f4 hcells hb2
      by_cases hneg : (fitsS (insL cs)).2 < 0
      · have W := Lib.hid (show wrongS (insL cs) = circAt (insL cs) (fitsS (insL cs)).1 from if_pos hneg)
        have AF := Lib.hid (show AllF (insL cs) (fitsS (insL cs)).1 from ⟨F1.out, HRR.out, F4.out hneg⟩)
        have CL := Lib.hid (HCE.out hneg)
        have hd1 : decide ((fitsS (insL cs)).2 < 0) = true := decide_eq_true hneg
        have hd3 := hneg
        clear hneg f5
        generalize (fitsS (insL cs)).2 = at0 at *
        have NOD := Lib.hid (NoC.zero (c := insL cs) (d := (fitsS (insL cs)).1))
        go_wp2_with fail
        go_loop [12, 13] (fun s i => ∃ k : Nat, k ≤ n ∧ i = .int .i64 k ∧ ((s = .int .i64 at0 ∧ NoC (insL cs) (fitsS (insL cs)).1 k) ∨ ∃ j : Nat, s = .int .i64 j ∧ circAt (insL cs) (fitsS (insL cs)).1 = (j : Int))) (fun _ i => n - (intOf i).toNat)
        case atStart => exact ⟨0, Nat.zero_le _, rfl, .inl ⟨rfl, NOD.out⟩⟩
        case round =>
          obtain ⟨k, hk, rfl, ⟨rfl, hno⟩ | ⟨j, rfl, hc⟩⟩ := hrel
          · have NO := Lib.hid hno
            clear hno
            by_cases hlt : k < n
            · have dk := CL.out k hlt
              by_cases h0 : 0 ≤ dAt (fitsS (insL cs)).1 k
              · have hge : decide (0 ≤ dAt (fitsS (insL cs)).1 k) = true := decide_eq_true h0
                have H0 := Lib.hid h0
                have RC := Lib.hid (rcircle_any (cc := cc) HCW2.out HL.out hn AF.out k hlt h0)
                clear h0
                cases hcc : circS (insL cs) k with
                | true =>
                  have CA := Lib.hid (circ_some NO.out (by rw [HLC.out]; exact hlt) H0.out hcc)
                  rw [hcc] at RC
                  generalize dAt (fitsS (insL cs)).1 k = dd at *
                  clear hcc
                  go_wp2_with (go_at_call 23; refine RC.out.mono ?_; rintro e w3 ⟨rfl, rfl⟩)
                  go_round
                  case rel => exact ⟨k + 1, by omega, by go_num, .inr ⟨k, rfl, CA.out⟩⟩
                  case measure => simp [intOf]; omega
                | false =>
                  have CA := Lib.hid (NO.out.succ (by rw [hcc]; simp))
                  rw [hcc] at RC
                  generalize dAt (fitsS (insL cs)).1 k = dd at *
                  clear hcc
                  go_wp2_with (go_at_call 23; refine RC.out.mono ?_; rintro e w3 ⟨rfl, rfl⟩)
                  go_round
                  case rel => exact ⟨k + 1, by omega, by go_num, .inl ⟨rfl, CA.out⟩⟩
                  case measure => simp [intOf]; omega
              · have hge : decide (0 ≤ dAt (fitsS (insL cs)).1 k) = false := decide_eq_false h0
                have CA := Lib.hid (NO.out.succ (by rw [hge]; rfl))
                generalize dAt (fitsS (insL cs)).1 k = dd at *
                go_wp2_with fail
                go_round
                case rel => exact ⟨k + 1, by omega, by go_num, .inl ⟨rfl, CA.out⟩⟩
                case measure => simp [intOf]; omega
            · have CA := Lib.hid (circ_none (c := insL cs) (d := (fitsS (insL cs)).1) (by rw [HLC.out, show n = k by omega]; exact NO.out))
              have hd4 : decide (0 ≤ at0) = false := decide_eq_false (by omega)
              have E := Lib.hid (look_good (p := p) hp0 hp1 hnl.out hn0l.out HBN.out (by rw [W.out, CA.out]; omega))
              go_wp2_with fail
              go_loop [14, 15] (fun s i => ∃ k : Nat, k ≤ n ∧ i = .int .i64 k ∧ s = .int .i64 (stackTo (fitsS (insL cs)).1 k)) (fun _ i => n - (intOf i).toNat)
              case atStart => exact ⟨0, Nat.zero_le _, rfl, rfl⟩
              case round =>
                obtain ⟨m, hm, rfl, rfl⟩ := hrel
                by_cases hlt2 : m < n
                · have dk := CL.out m hlt2
                  have ST := Lib.hid (show stackTo (fitsS (insL cs)).1 (m + 1) = max (stackTo (fitsS (insL cs)).1 m) (dAt (fitsS (insL cs)).1 m) from rfl)
                  generalize stackTo (fitsS (insL cs)).1 m = st at *
                  generalize dAt (fitsS (insL cs)).1 m = dd at *
                  go_wp2_with fail
                  all_goals
                    go_round
                    case rel => exact ⟨m + 1, by omega, by go_num, int_eq (by rw [ST.out]; first | done | omega)⟩
                    case measure => simp [intOf]; omega
                · have hmn : m = (insL cs).length := by have := HLC.out; omega
                  have F := Lib.hid (show lookS (insL cs) p = ⟨sl, stackTo (fitsS (insL cs)).1 m, 0, (fitsS (insL cs)).1, 0⟩ by rw [E.out, SLN.out, hmn])
                  generalize stackTo (fitsS (insL cs)).1 m = st at *
                  clear hmn
                  go_wp2_with fail
                  refine bodyPost_ret (v := .tuple #[.int .i64 sl, .int .i64 st, .int .i64 0, .slice (some ⟨db, 0, none⟩) n n, .int .i64 0]) (by simp [results, Try.results9, go_sem]) rfl ?_
                  rw [F.out]
                  exact ⟨_, rfl, HB2.out, fun h => absurd rfl h, fun _ => ⟨db, rfl, LOW.out, hdlt, CL.out⟩⟩
          · have HCC := Lib.hid hc
            have hd5 : decide ((j : Int) < 0) = false := decide_eq_false (by omega)
            have hd6 : decide ((0 : Int) ≤ (j : Int)) = true := decide_eq_true (by omega)
            have E := Lib.hid (look_wrong (p := p) hp0 hp1 hnl.out hn0l.out HBN.out (by rw [W.out, HCC.out]; omega))
            have E2 := Lib.hid (show lookS (insL cs) p = ⟨0, 0, j, [], 140⟩ by rw [E.out, W.out, HCC.out])
            clear hc
            by_cases hlt : k < n
            all_goals
              go_wp2_with fail
              refine bodyPost_ret (v := .tuple #[.int .i64 0, .int .i64 0, .int .i64 j, .slice none 0 0, .int .i64 140]) (by simp [results, Try.results9, go_sem]) rfl ?_
              rw [E2.out]
              exact ⟨_, rfl, HB2.out, fun _ => rfl, fun h => absurd h (by simp)⟩
      · have W := Lib.hid (show wrongS (insL cs) = (fitsS (insL cs)).2 from if_neg hneg)
        have hd1 : decide ((fitsS (insL cs)).2 < 0) = false := decide_eq_false hneg
        have hd2 : decide (0 ≤ (fitsS (insL cs)).2) = true := decide_eq_true (by omega)
        have E := Lib.hid (look_wrong (p := p) hp0 hp1 hnl.out hn0l.out HBN.out (by rw [W.out]; omega))
        have E2 := Lib.hid (show lookS (insL cs) p = ⟨0, 0, (fitsS (insL cs)).2, [], 140⟩ by rw [E.out, W.out])
        have hd3 : ¬ (fitsS (insL cs)).2 < 0 := hneg
        clear hneg f5
        generalize (fitsS (insL cs)).2 = at0 at *
        go_wp2_with fail
        refine wp_loop_rounds 1 ?_
        rw [rounds_succ]
        go_wp2_with fail
        refine bodyPost_ret (v := .tuple #[.int .i64 0, .int .i64 0, .int .i64 at0, .slice none 0 0, .int .i64 140]) (by simp [results, Try.results9, go_sem]) rfl ?_
        rw [E2.out]
        exact ⟨_, rfl, HB2.out, fun _ => rfl, fun h => absurd h (by simp)⟩
theorem rlook_any {w : World} {A : Option Addr} {n cc : Nat} {cs : List InsV} (hcode : CodeIn w A cs) (hl : cs.length = n) (hok : OkC cs) (hn : n ≤ 9223372036854775807) (p : Int) :
    Calls Try.prog 9 #[.slice A n cc, .int .i64 p] w (RPost (insL cs) (lookS (insL cs) p) w n) := by
  have hlc : (insL cs).length = n := by rw [insL_length, hl]
  by_cases hp : p < 0 ∨ 100 < p
  · refine (rlook_arg A n cc p hp w).mono ?_
    rintro e w' ⟨rfl, rfl⟩
    rw [lookS_arg hp]
    exact ⟨_, rfl, Below.refl _ _, fun _ => rfl, fun h => absurd h (by simp)⟩
  · by_cases h8 : 8192 < n
    · refine (rlook_long A n cc p hn h8 (by omega) (by omega) w).mono ?_
      rintro e w' ⟨rfl, rfl⟩
      rw [lookS_long hp (by omega)]
      exact ⟨_, rfl, Below.refl _ _, fun _ => rfl, fun h => absurd h (by simp)⟩
    · by_cases h0 : n = 0
      · subst h0
        refine (rlook_empty A cc p (by omega) (by omega) w).mono ?_
        rintro e w' ⟨rfl, rfl⟩
        rw [lookS_empty hp hlc]
        exact ⟨_, rfl, Below.refl _ _, fun _ => rfl, fun h => absurd h (by simp)⟩
      · exact rlook_more hcode hl hok (by omega) (by omega) p (by omega) (by omega)
end Go.Proofs.Ytefijgdbnjmifaa

/- Code's text, the reference's, and the statement InstrBytes, walked. -/
import Derived.Test.YtefijgdbnjmifaaDoorLstE
import Derived.Test.YtefijgdbnjmifaaDoorLookG
namespace Go.Proofs.YtefijgdbnjmifaaDoor
open Go.RowKit

set_option maxRecDepth 100000 in
set_option maxHeartbeats 2000000 in
theorem rlist_any {w : World} {A : Option Addr} {n cc : Nat} {cs : List InsV} (hcode : CodeIn w A cs) (hl : cs.length = n) (hok : OkC cs) (hoi : OkI cs) (hn : n ≤ 9223372036854775807) (ht : n ≤ 8192 → textsTo cs n ≤ 1048576) :
    Calls Tryd.prog 11 #[.slice A n cc] w (LiPost cs w) := by
  have HC := Lib.hid hcode
  have HL := Lib.hid hl
  have HO := Lib.hid hok
  have HOI := Lib.hid hoi
  have HT := Lib.hid ht
  clear hcode hl hok hoi ht
  go_enter Tryd.func11, Tryd.ntmps11
  go_wp2_with fail
  refine (rmay_any HC.out HL.out HO.out hn).mono ?_
  rintro e w1 ⟨rfl, hb1⟩
  have HB1 := Lib.hid hb1
  clear hb1
  by_cases hm : mayS cs = 0
  · have hmb : (mayS cs != 0) = false := by rw [hm]; rfl
    obtain ⟨hl8, hri⟩ := may_ok hm
    have HM := Lib.hid hm
    have HRI := Lib.hid hri
    have hn8 : n ≤ 8192 := by have := HL.out; omega
    have HTT := Lib.hid (HT.out hn8)
    clear hm hri hl8
    go_wp2_with fail
    go_loopw [6, 5] (fun i v wr => ∃ k : Nat, i = .int .i64 k ∧ k ≤ n ∧ v = .string (sp (listTo cs k)) ∧ Below w.heap.size w wr) (fun i _ _ => n - (intOf i).toNat)
    case atStart => exact ⟨0, rfl, Nat.zero_le _, rfl, HB1.out⟩
    case round =>
      obtain ⟨k, rfl, hk, rfl, hbw⟩ := hrel
      have HB := Lib.hid hbw
      by_cases hlt : k < n
      · obtain ⟨b, off, rfl, hbl, hcell⟩ := HC.out (by rw [HL.out]; omega)
        obtain ⟨q0, q1, q2, q3⟩ := hcell k (by rw [HL.out]; omega)
        have hkk := fun o => hbw.cell (p := ⟨b, o, none⟩) hbl
        have q0 := (hkk _).trans q0
        have q1 := (hkk _).trans q1
        have q2 := (hkk _).trans q2
        have q3 := (hkk _).trans q3
        obtain ⟨ok1, ok2⟩ := HO.out k (by rw [HL.out]; omega)
        obtain ⟨oi1, oi2⟩ := HOI.out k (by rw [HL.out]; omega)
        have RN := right_nn (HRI.out k (by rw [HL.out]; omega)) (by have := HL.out; omega)
        have LN := Lib.hid (listTo_len HRI.out (by have := HL.out; omega) HOI.out (k + 1) (by rw [HL.out]; omega))
        have LT := Lib.hid (show textsTo cs (k + 1) ≤ 1048576 from Nat.le_trans (textsTo_mono cs (show k + 1 ≤ n by omega)) HTT.out)
        have LX := Lib.hid (show (atV cs k).text.size ≤ 1048576 from by have := LT.out; have e : textsTo cs (k + 1) = textsTo cs k + (atV cs k).text.size := rfl; omega)
        have ST := Lib.hid (show listTo cs (k + 1) = listTo cs k ++ (lineS k (atV cs k) ++ [10]) from rfl)
        have A1 : ∀ w, (Op.stringOp .add (sp (listTo cs k)) (sp (lineS k (atV cs k) ++ [10]))).run Tryd.prog w = .ok (.string (sp (listTo cs (k + 1)))) w := fun w => by
          have h1 := LN.out
          rw [ST.out] at h1 ⊢
          rw [List.length_append] at h1
          exact add_sp w _ _ _ rfl (by have := LT.out; omega)
        have LA := Lib.hid (fun w => rline_any k (by omega) (atV cs k) ok1 RN.1 RN.2 oi1 oi2 LX.out w)
        clear hkk hcell hbw LN LT LX RN ok1 ok2 oi1 oi2 ST
        generalize lineS k (atV cs k) ++ [10] = ln at *
        generalize atV cs k = x at *
        obtain ⟨op, a, int, text⟩ := x
        simp only at q0 q1 q2 q3
        go_wp2_with fail
        refine (LA.out _).mono ?_
        rintro e w3 ⟨rfl, hb3⟩
        have HB3 := Lib.hid (bthen HB.out hb3)
        clear hb3
        go_wp2_with fail
        go_roundw
        case rel => exact ⟨k + 1, by go_num, by omega, rfl, HB3.out⟩
        case measure => simp [intOf]; omega
      · have KB := Lib.hid (show listTo cs k = listS cs by unfold listS; rw [HL.out, show n = k by omega])
        go_wp2_with fail
        go_ret2
        exact li_good HM.out (by rw [KB.out]) HB.out
  · have hmb : (mayS cs != 0) = true := bne_iff_ne.2 hm
    have HM := Lib.hid hm
    clear hm
    go_wp2_with fail
    go_ret2
    exact li_bad HM.out HB1.out rfl
/-- Bytes that a row of the call's own holds, as a text. -/
theorem own_text {w : World} {base : Nat} {v : Value} {bs : List UInt8} (h : OwnBy w base v bs) : (convert 25 9 v).run Tryd.prog w = .ok (.string (sp bs)) w := by
  by_cases hn : 0 < bs.length
  · obtain ⟨g, cap, rfl, hs⟩ := h.src hn
    exact own_conv hs
  · have h0 : bs = [] := by cases bs with
      | nil => rfl
      | cons _ _ => exact absurd (Nat.succ_pos _) hn
    subst h0
    obtain ⟨A, c, rfl⟩ := own_slice h
    show (convert 25 9 (.slice A 0 c)).run Tryd.prog w = _
    rw [run_convert_bytes_string w 25 9 5 A 0 c Tryd.underlying25 Tryd.underlying5 Tryd.underlying9]
    cases A <;> simp [Conv.bytesToString, loadCells, go_sem] <;> rfl
set_option maxRecDepth 100000 in
set_option maxHeartbeats 2000000 in
theorem bytes_law (cs : List InsV) (A : Option Addr) (n cc : Nat) (w : World) (hn : n ≤ 9223372036854775807) (hl : cs.length = n) (hcode : CodeIn w A cs) (hok : OkC cs) (hoi : OkI cs) (hp : Pow10 w) :
    Calls Tryd.prog 3 #[.slice A n cc] w (RetB (.bool true) w) := by
  have HP := Lib.hid hp
  have HC := Lib.hid hcode
  have HL := Lib.hid hl
  have HO := Lib.hid hok
  have HOI := Lib.hid hoi
  clear hp hcode hl hok hoi
  go_enter Tryd.func3, Tryd.ntmps3
  go_wp2_with fail
  refine (awake_any _).mono ?_
  rintro e w1 ⟨rfl, h1⟩
  have HC1 := Lib.hid (HC.out.keep h1)
  have H1 := Lib.hid h1
  clear h1
  go_wp2_with fail
  refine (long_any A n cc hn _).mono ?_
  rintro e w2 ⟨rfl, rfl⟩
  cases hlong : longB n with
  | true =>
    clear hlong
    go_wp2_with fail
    go_ret
    exact ⟨rfl, H1.out⟩
  | false =>
    clear hlong
    go_wp2_with fail
    refine (heavy_any HC1.out HL.out HO.out hn).mono ?_
    rintro e w2 ⟨hv, rfl, hh, rfl⟩
    cases hv with
    | true =>
      clear hh
      go_wp2_with fail
      go_ret
      exact ⟨rfl, H1.out⟩
    | false =>
      have HT := Lib.hid (show n ≤ 8192 → textsTo cs n ≤ 1048576 from fun h => by have := hh rfl (by rw [HL.out]; exact h); rw [HL.out] at this; omega)
      clear hh
      go_wp2_with fail
      refine (bytes_any HC1.out HL.out HO.out HOI.out hn HT.out).mono ?_
      rintro e w2 ⟨v2, rfl, ho2, h2⟩
      have HC2 := Lib.hid (HC1.out.keep h2)
      have HO2 := Lib.hid ho2
      have H2 := Lib.hid (bthen H1.out h2)
      clear ho2 h2
      go_wp2_with fail
      refine (rbytes_any HC2.out HL.out HO.out HOI.out hn HT.out).mono ?_
      rintro e w3 ⟨v3, rfl, ho3, h3⟩
      have HC3 := Lib.hid (HC2.out.keep h3)
      have HO23 := Lib.hid (HO2.out.keep h3)
      have HO3 := Lib.hid ho3
      have H3 := Lib.hid (bthen H2.out h3)
      clear ho3 h3
      go_wp2_with fail
      refine (list_any HC3.out HL.out HO.out HOI.out hn HT.out (HP.out.below H3.out)).mono ?_
      rintro e w4 ⟨rfl, h4⟩
      have HC4 := Lib.hid (HC3.out.keep h4)
      have HO24 := Lib.hid (HO23.out.keep h4)
      have HO34 := Lib.hid (HO3.out.keep h4)
      have H4 := Lib.hid (bthen H3.out h4)
      clear h4
      go_wp2_with fail
      refine (rlist_any HC4.out HL.out HO.out HOI.out hn HT.out).mono ?_
      rintro e w5 ⟨rfl, h5⟩
      have k2 := own_text (HO24.out.keep h5)
      have k3 := own_text (HO34.out.keep h5)
      have H5 := Lib.hid (bthen H4.out h5)
      clear h5
      have z1 : (mayS cs == mayS cs) = true := beq_self_eq_true _
      generalize sp (if mayS cs = 0 then bytesS cs else []) = sb at *
      generalize sp (listV cs) = sl at *
      generalize mayS cs = m at *
      have z2 : (sb.toList == sb.toList) = true := beq_self_eq_true _
      have z3 : (sl.toList == sl.toList) = true := beq_self_eq_true _
      go_wp2_with fail
      go_ret
      exact ⟨rfl, H5.out⟩
end Go.Proofs.YtefijgdbnjmifaaDoor

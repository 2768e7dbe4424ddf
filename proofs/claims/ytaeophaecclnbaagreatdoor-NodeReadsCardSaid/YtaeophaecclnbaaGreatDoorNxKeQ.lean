/- The document's read of an event, walked. -/
import Derived.Test.YtaeophaecclnbaaGreatDoorMgW
import Derived.Deep.DeepCutAuto
namespace Go.Proofs.YtaeophaecclnbaaGreatDoor
open Go.RowKit
set_option maxRecDepth 100000 in
set_option maxHeartbeats 8000000 in
theorem rread_eq {w : World} {A : Option Addr} {n cc : Nat} {l : List UInt8} {p : Nat} (h : BS w A n cc l) (hp : p < n) (hk : ¬ (byt l p < 1 ∨ 12 < byt l p)) (hn : n = eB l p) (hcc : cc = eB l p) : Calls Tryz.prog 47 #[.slice A n cc, .int .i64 p] w (EvRet l p w) := by
  subst hn
  subst hcc
  have H := Lib.hid h
  have hsm := h.small
  have hcap := h.cap
  have HL := Lib.hid h.len
  have HP := Lib.hid (show ¬ l.length ≤ p by rw [HL.out]; omega)
  have hpl : p < l.length := by rw [HL.out]; exact hp
  have lA := eA_le hpl
  have lB := eB_le hpl
  have lC := eC_le hpl
  have lD := eD_le hpl
  rw [HL.out] at lA lB lC lD
  clear hpl
  obtain ⟨b, off, rfl, hbl, hcell⟩ := h.bytes (by omega)
  have cb : w.cell? ⟨b, off + p, none⟩ = some (.int .u8 (byt l p : Int)) := hcell p (by omega)
  have hk8 := byt_lt l p
  have hk1 : ¬ byt l p < 1 := fun c => hk (.inl c)
  have hk2 : ¬ 12 < byt l p := fun c => hk (.inr c)
  have HI := Lib.hid (rid_any (byt l p))
  have HM := Lib.hid (rnm_any (byt l p))
  have HU := Lib.hid (rvl_any (byt l p))
  have HT := Lib.hid (rin_any (byt l p))
  have X1 := Lib.hid (ev_id (l := l) (p := p) HP.out hk)
  have X2 := Lib.hid (ev_name (l := l) (p := p) HP.out hk)
  have X3 := Lib.hid (ev_value (l := l) (p := p) HP.out hk)
  have X4 := Lib.hid (ev_int (l := l) (p := p) HP.out hk)
  have X5 := Lib.hid (ev_wrong (l := l) (p := p) HP.out hk)
  have X6 := Lib.hid (evt_ok (l := l) (p := p) HP.out hk)
  have HC := Lib.hid (fun he => evC_of (l := l) (p := p) (by rw [HL.out]; omega) hk he)
  have hd : decide (((eB l p : Nat) : Int) ≤ (p : Int)) = false := decide_eq_false (by omega)
  clear hcell h hk
  go_enter Tryz.func47, Tryz.ntmps47
  go_upto_if 49 with (go_at_call 74; refine (HI.out _).mono ?_; rintro e w9 ⟨rfl, rfl⟩)
  have S0 : RvS w (((w.alloc (.cells #[.int .u8 0, .int .i64 0, .string ⟨#[]⟩, .slice none 0 0, .int .i64 0] 109)).alloc (.cells #[.int .u8 0, .int .i64 0, .string ⟨#[]⟩, .slice none 0 0, .int .i64 0] 109)).alloc (.cells #[.int .u8 (byt l p : Int), .int .i64 0, .string ⟨#[]⟩, .slice none 0 0, .int .i64 0] 109)) (byt l p) (.int .i64 0) (.string ⟨#[]⟩) none 0 [] (.int .i64 0) := by
    exact ⟨by go_grown, ((EvB.new w rfl _ _ _ _ _ _).keep ((Below.refl _ _).alloc (Nat.le_refl _) _)).keep ((Below.refl _ _).alloc (Nat.le_refl _) _), (EvB.new (w.alloc _) (by simp) _ _ _ _ _ _).keep ((Below.refl _ _).alloc (Nat.le_refl _) _), EvB.new ((w.alloc _).alloc _) (by simp) _ _ _ _ _ _, NodesIn.nil, Far.nil⟩
  have T0 := Lib.hid S0
  generalize (((w.alloc (.cells #[.int .u8 0, .int .i64 0, .string ⟨#[]⟩, .slice none 0 0, .int .i64 0] 109)).alloc (.cells #[.int .u8 0, .int .i64 0, .string ⟨#[]⟩, .slice none 0 0, .int .i64 0] 109)).alloc (.cells #[.int .u8 (byt l p : Int), .int .i64 0, .string ⟨#[]⟩, .slice none 0 0, .int .i64 0] 109)) = W0 at *
  clear S0 cb hbl
  go_cut [9] (fun s9 wx => s9 = .int .i64 ((eA l p : Nat) : Int) ∧ (pI (byt l p) (l.drop (p + 1))).2.2 = 0 ∧ RvS w wx (byt l p) (.int .i64 ((Nat.min (pI (byt l p) (l.drop (p + 1))).1 500 : Nat) : Int)) (.string ⟨#[]⟩) none 0 [] (.int .i64 0))
  case first =>
    cases ha : idK (byt l p) with
    | false =>
      have P := Lib.hid (pI_no ha (l.drop (p + 1)))
      have E := Lib.hid (show eA l p = p + 1 by rw [eA_def, P.out]; exact Nat.add_zero _)
      go_wp2_with fail
      go_meet
      exact ⟨int_eq (by rw [E.out]; omega), by rw [P.out], by rw [P.out]; exact T0.out⟩
    | true =>
      have P := Lib.hid (pI_yes ha (l.drop (p + 1)))
      have E := Lib.hid (show eA l p = p + 1 + (numS (l.drop (p + 1))).2.1 by rw [eA_def, P.out])
      go_wp2_with fail
      refine (ruint_any (H.out.below T0.out.bel) (p + 1) (by omega)).mono ?_
      rintro e w1 ⟨rfl, hb⟩
      have S1 := T0.out.keep hb
      have U1 := Lib.hid S1
      clear hb
      by_cases he : (numS (l.drop (p + 1))).2.2 = 0
      · have he1 : ((numS (l.drop (p + 1))).2.2 != 0) = false := by rw [he]; rfl
        have e1 := S1.e.c1
        have ez := S1.e.fz
        have hmin := min_id2 (numS (l.drop (p + 1))).1
        have nv := num_lt (l.drop (p + 1))
        have HE := Lib.hid he
        clear S1 he
        go_wp2_with fail
        go_meet
        exact ⟨int_eq (by rw [E.out]; omega), by rw [P.out]; exact HE.out, by rw [P.out]; exact U1.out.set1⟩
      · have he1 : ((numS (l.drop (p + 1))).2.2 != 0) = true := bne_iff_ne.2 he
        have EV := Lib.hid (show evtS l p = (zE, p + 1 + (numS (l.drop (p + 1))).2.1, (numS (l.drop (p + 1))).2.2) by
          have := X1.out (by rw [P.out]; exact he)
          rw [E.out, P.out] at this
          exact this)
        obtain ⟨z0, z1, z2, z3, z4, _, _⟩ := S1.z
        obtain ⟨y0, y1, y2, y3, y4, yf, _⟩ := S1.r
        clear S1 he
        go_wp2_with fail
        refine bodyPost_ret (v := .tuple #[.agg #[.int .u8 0, .int .i64 0, .string ⟨#[]⟩, .slice none 0 0, .int .i64 0], .int .i64 ((p + 1 + (numS (l.drop (p + 1))).2.1 : Nat) : Int), .int .i64 (numS (l.drop (p + 1))).2.2]) (by first | (simp [results, Tryz.results47, go_sem]; done) | (simp [results, Tryz.results47, go_sem, *]; done)) rfl (EvRet.bad EV.out (by have hb0 := U1.out.bel; go_grown; try exact hb0))
  obtain ⟨rfl, hE1, hS1⟩ := hcut
  have T1 := Lib.hid hS1
  have HE1 := Lib.hid hE1
  have k0 := hS1.e.c0
  clear hS1 hE1 T0
  go_upto_if 69 with (go_at_call 75; refine (HM.out _).mono ?_; rintro e w9 ⟨rfl, rfl⟩)
  go_cut [9] (fun s9 wx => s9 = .int .i64 ((eB l p : Nat) : Int) ∧ (pT (byt l p) (l.drop (eA l p))).2.2 = 0 ∧ RvS w wx (byt l p) (.int .i64 ((Nat.min (pI (byt l p) (l.drop (p + 1))).1 500 : Nat) : Int)) (.string (strB (pT (byt l p) (l.drop (eA l p))).1)) none 0 [] (.int .i64 0))
  case first =>
    cases ha : nameK (byt l p) with
    | false =>
      have P := Lib.hid (pT_no ha (l.drop (eA l p)))
      have E := Lib.hid (show eB l p = eA l p by rw [eB_def, P.out]; exact Nat.add_zero _)
      go_wp2_with fail
      go_meet
      exact ⟨int_eq (by rw [E.out]), by rw [P.out], by rw [P.out]; exact T1.out⟩
    | true =>
      have P := Lib.hid (pT_yes ha (l.drop (eA l p)))
      have E := Lib.hid (show eB l p = eA l p + (textS (l.drop (eA l p))).2.1 by rw [eB_def, P.out])
      go_wp2_with fail
      refine (rtext_any (H.out.below T1.out.bel) (eA l p) lA).mono ?_
      rintro e w1 ⟨rfl, hb⟩
      have S1 := T1.out.keep hb
      have U1 := Lib.hid S1
      clear hb
      by_cases he : (textS (l.drop (eA l p))).2.2 = 0
      · have he1 : ((textS (l.drop (eA l p))).2.2 != 0) = false := by rw [he]; rfl
        have e1 := S1.e.c2
        have ez := S1.e.fz
        have HE := Lib.hid he
        clear S1 he
        go_wp2_with fail
        go_meet
        exact ⟨int_eq (by rw [E.out]; omega), by rw [P.out]; exact HE.out, by rw [P.out]; exact U1.out.set2⟩
      · have he1 : ((textS (l.drop (eA l p))).2.2 != 0) = true := bne_iff_ne.2 he
        have EV := Lib.hid (show evtS l p = (zE, eA l p + (textS (l.drop (eA l p))).2.1, (textS (l.drop (eA l p))).2.2) by
          have := X2.out HE1.out (by rw [P.out]; exact he)
          rw [E.out, P.out] at this
          exact this)
        obtain ⟨z0, z1, z2, z3, z4, _, _⟩ := S1.z
        obtain ⟨y0, y1, y2, y3, y4, yf, _⟩ := S1.r
        clear S1 he
        go_wp2_with fail
        refine bodyPost_ret (v := .tuple #[.agg #[.int .u8 0, .int .i64 0, .string ⟨#[]⟩, .slice none 0 0, .int .i64 0], .int .i64 ((eA l p + (textS (l.drop (eA l p))).2.1 : Nat) : Int), .int .i64 (textS (l.drop (eA l p))).2.2]) (by first | (simp [results, Tryz.results47, go_sem]; done) | (simp [results, Tryz.results47, go_sem, *]; done)) rfl (EvRet.bad EV.out (by have hb0 := U1.out.bel; go_grown; try exact hb0))
  obtain ⟨rfl, hE2, hS2⟩ := hcut
  have T2 := Lib.hid hS2
  have HE2 := Lib.hid hE2
  have k0 := hS2.e.c0
  clear hS2 hE2 T1
  go_upto_if 87 with (go_at_call 76; refine (HU.out _).mono ?_; rintro e w9 ⟨rfl, rfl⟩)
  go_cut [9] (fun s9 wx => CutV w l p s9 wx)
  case first =>
    cases ha : valueK (byt l p) with
    | false =>
      have P := Lib.hid (pV_no ha (l.drop (eB l p)))
      have E := Lib.hid (show eC l p = eB l p by rw [eC_def, P.out]; exact Nat.add_zero _)
      go_wp2_with fail
      go_meet
      exact ⟨int_eq (by rw [E.out]), by rw [P.out], none, 0, by rw [P.out]; exact T2.out⟩
    | true =>
      have P := Lib.hid (pV_yes ha (l.drop (eB l p)))
      have E := Lib.hid (show eC l p = eB l p + (vlS (l.drop (eB l p))).2.1 by rw [eC_def, P.out])
      have vq := (valR (l.drop (eB l p))).to
      rw [List.length_drop, HL.out] at vq
      have hw1 : IntKind.i64.wrap ((eB l p : Int) + ((vlS (l.drop (eB l p))).2.1 : Int)) = (eB l p : Int) + ((vlS (l.drop (eB l p))).2.1 : Int) := IntWalk.i64_in _ (by omega)
      have HBE := Lib.hid (bs_end (H.out.below T2.out.bel) rfl)
      go_wp2_with fail
      refine (rvalue_any HBE.out).mono ?_
      rintro e w1 ⟨A3, c3, rfl, hn3, hf3, hb⟩
      have S1 := T2.out.keep hb
      have U1 := Lib.hid S1
      have HN3 := Lib.hid (And.intro hn3 (hf3.mono (show w.heap.size + 1 + 1 + 1 ≤ _ from T2.out.e.lt)))
      clear hb hn3 hf3
      by_cases he : (vlS (l.drop (eB l p))).2.2 = 0
      · have he1 : ((vlS (l.drop (eB l p))).2.2 != 0) = false := by rw [he]; rfl
        have e1 := S1.e.c3
        have ez := S1.e.fz
        have HE := Lib.hid he
        clear S1 he
        go_wp2_with fail
        go_meet
        exact ⟨int_eq (by rw [E.out]; omega), by rw [P.out]; exact HE.out, A3, c3, by rw [P.out]; exact U1.out.set3 HN3.out.1 HN3.out.2⟩
      · have he1 : ((vlS (l.drop (eB l p))).2.2 != 0) = true := bne_iff_ne.2 he
        have EV := Lib.hid (show evtS l p = (zE, eB l p + (vlS (l.drop (eB l p))).2.1, (vlS (l.drop (eB l p))).2.2) by
          have := X3.out HE1.out HE2.out (by rw [P.out]; exact he)
          rw [E.out, P.out] at this
          exact this)
        obtain ⟨z0, z1, z2, z3, z4, _, _⟩ := S1.z
        obtain ⟨y0, y1, y2, y3, y4, yf, _⟩ := S1.r
        clear S1 he
        go_wp2_with fail
        refine bodyPost_ret (v := .tuple #[.agg #[.int .u8 0, .int .i64 0, .string ⟨#[]⟩, .slice none 0 0, .int .i64 0], .int .i64 ((eB l p : Int) + ((vlS (l.drop (eB l p))).2.1 : Int)), .int .i64 (vlS (l.drop (eB l p))).2.2]) (by first | (simp [results, Tryz.results47, go_sem]; done) | (simp [results, Tryz.results47, go_sem, *]; done)) rfl (EvRet.bad EV.out (by have hb0 := U1.out.bel; go_grown; try exact hb0) (by omega))
  obtain ⟨rfl, hE3, A1, c1, hS3⟩ := hcut
  have T3 := Lib.hid hS3
  have HE3 := Lib.hid hE3
  have k0 := hS3.e.c0
  clear hS3 hE3 T2
  go_upto_if 110 with (go_at_call 77; refine (HT.out _).mono ?_; rintro e w9 ⟨rfl, rfl⟩)
  go_cut [9] (fun s9 wx => s9 = .int .i64 ((eD l p : Nat) : Int) ∧ (pN (byt l p) (l.drop (eC l p))).2.2 = 0 ∧ RvS w wx (byt l p) (.int .i64 ((Nat.min (pI (byt l p) (l.drop (p + 1))).1 500 : Nat) : Int)) (.string (strB (pT (byt l p) (l.drop (eA l p))).1)) A1 c1 (pV (byt l p) (l.drop (eB l p))).1 (.int .i64 (pN (byt l p) (l.drop (eC l p))).1))
  case first =>
    cases ha : intK (byt l p) with
    | false =>
      have P := Lib.hid (pN_no ha (l.drop (eC l p)))
      have E := Lib.hid (show eD l p = eC l p by rw [eD_def, P.out]; exact Nat.add_zero _)
      go_wp2_with fail
      go_meet
      exact ⟨int_eq (by rw [E.out]), by rw [P.out], by rw [P.out]; exact T3.out⟩
    | true =>
      have P := Lib.hid (pN_yes ha (l.drop (eC l p)))
      have E := Lib.hid (show eD l p = eC l p + (numS (l.drop (eC l p))).2.1 by rw [eD_def, P.out]; rfl)
      go_wp2_with fail
      refine (rint_any (H.out.below T3.out.bel) (eC l p) lC).mono ?_
      rintro e w1 ⟨rfl, hb⟩
      have S1 := T3.out.keep hb
      have U1 := Lib.hid S1
      clear hb
      by_cases he : (numS (l.drop (eC l p))).2.2 = 0
      · have he1 : ((numS (l.drop (eC l p))).2.2 != 0) = false := by rw [he]; rfl
        have e1 := S1.e.c4
        have ez := S1.e.fz
        have HE := Lib.hid he
        clear S1 he
        go_wp2_with fail
        go_meet
        exact ⟨int_eq (by rw [E.out]; omega), by rw [P.out]; exact HE.out, by rw [P.out]; exact U1.out.set4⟩
      · have he1 : ((numS (l.drop (eC l p))).2.2 != 0) = true := bne_iff_ne.2 he
        have EV := Lib.hid (show evtS l p = (zE, eC l p + (numS (l.drop (eC l p))).2.1, (numS (l.drop (eC l p))).2.2) by
          have := X4.out HE1.out HE2.out HE3.out (by rw [P.out]; exact he)
          rw [E.out, P.out] at this
          exact this)
        obtain ⟨z0, z1, z2, z3, z4, _, _⟩ := S1.z
        obtain ⟨y0, y1, y2, y3, y4, yf, _⟩ := S1.r
        clear S1 he
        go_wp2_with fail
        refine bodyPost_ret (v := .tuple #[.agg #[.int .u8 0, .int .i64 0, .string ⟨#[]⟩, .slice none 0 0, .int .i64 0], .int .i64 ((eC l p + (numS (l.drop (eC l p))).2.1 : Nat) : Int), .int .i64 (numS (l.drop (eC l p))).2.2]) (by first | (simp [results, Tryz.results47, go_sem]; done) | (simp [results, Tryz.results47, go_sem, *]; done)) rfl (EvRet.bad EV.out (by have hb0 := U1.out.bel; go_grown; try exact hb0))
  obtain ⟨rfl, hE4, hS4⟩ := hcut
  have T4 := Lib.hid hS4
  have HE4 := Lib.hid hE4
  obtain ⟨x0, x1, x2, x3, x4, xf, _⟩ := hS4.e
  clear hS4 hE4 T3 X1 X2 X3 X4
  have XW := Lib.hid (X5.out HE1.out HE2.out HE3.out HE4.out)
  have XO := Lib.hid (X6.out HE1.out HE2.out HE3.out HE4.out)
  have CX := Lib.hid (HC.out (by rw [wN_eq HE1.out HE2.out HE3.out]; exact HE4.out))
  clear X5 X6 HC
  go_wp2_with fail
  refine (rright_at (x := evX l p) rfl CX.out T4.out.nd).mono ?_
  rintro e w5 ⟨rfl, hb⟩
  have S5 := T4.out.keep hb
  have T5 := Lib.hid S5
  obtain ⟨z0, z1, z2, z3, z4, _, _⟩ := S5.z
  obtain ⟨y0, y1, y2, y3, y4, yf, _⟩ := S5.r
  clear hb x0 x1 x2 x3 x4 xf
  obtain ⟨x0, x1, x2, x3, x4, xf, _⟩ := S5.e
  clear S5
  cases hr : rightE (evX l p) with
  | true =>
    have EV := Lib.hid (XO.out hr)
    clear XW XO hr
    go_wp2_with fail
    refine bodyPost_ret (v := .tuple #[.agg #[.int .u8 ((byt l p) : Int), (.int .i64 ((Nat.min (pI (byt l p) (l.drop (p + 1))).1 500 : Nat) : Int)), (.string (strB (pT (byt l p) (l.drop (eA l p))).1)), .slice A1 (pV (byt l p) (l.drop (eB l p))).1.length c1, .int .i64 (pN (byt l p) (l.drop (eC l p))).1], .int .i64 ((eD l p : Nat) : Int), .int .i64 0]) (by first | (simp [results, Tryz.results47, go_sem]; done) | (simp [results, Tryz.results47, go_sem, *]; done)) rfl (EvRet.good EV.out rfl ⟨((((T5.out.nd.set T5.out.fr (by omega)).set T5.out.fr (by omega)).set T5.out.fr (by omega)).set T5.out.fr (by omega)).set T5.out.fr (by omega), T5.out.fr.mono (by omega)⟩ (by have hb0 := T5.out.bel; go_grown; try exact hb0))
  | false =>
    have EV := Lib.hid (XW.out hr)
    clear XW XO hr
    go_wp2_with fail
    refine bodyPost_ret (v := .tuple #[.agg #[.int .u8 0, .int .i64 0, .string ⟨#[]⟩, .slice none 0 0, .int .i64 0], .int .i64 (p : Int), .int .i64 3]) (by first | (simp [results, Tryz.results47, go_sem]; done) | (simp [results, Tryz.results47, go_sem, *]; done)) rfl (EvRet.bad EV.out (by have hb0 := T5.out.bel; go_grown; try exact hb0))
end Go.Proofs.YtaeophaecclnbaaGreatDoor

/- A line read, walked. -/
import Derived.Test.YtefijgdbnjmifaaDoorUnlE
import Derived.WalkSmall
import Derived.Deep.RegionHeld3
import Derived.Deep.DeepCutAuto
import Derived.Deep.CutBlock
namespace Go.Proofs.YtefijgdbnjmifaaDoor
open Go.RowKit

/-- The library's word of how long a text may be that is looked through in one go. -/
def MaxVar (w : World) : Prop := ∃ m, w.cell? ⟨0, 0, none⟩ = some (.int .i64 m) ∧ 0 < w.heap.size
theorem MaxVar.below {w w' : World} (h : MaxVar w) (hb : Below w.heap.size w w') : MaxVar w' := by
  obtain ⟨m, h1, h3⟩ := h
  exact ⟨m, (hb.cell (p := ⟨0, 0, none⟩) h3).trans h1, Nat.lt_of_lt_of_le h3 hb.size⟩
theorem cut_any (l : List UInt8) (c : UInt8) (h : l.length ≤ 1048576) (w : World) (hm : MaxVar w) :
    Calls Tryd.prog 34 #[.string (sp l), .string ⟨#[c]⟩] w (RetB (.tuple #[.string (sp (cutL l c).1), .string (sp (cutL l c).2.1), .bool (cutL l c).2.2]) w) := by
  obtain ⟨m, h1, _⟩ := hm
  refine (Tryd.strings_Cut (sp l) ⟨#[c]⟩ m w (by rw [sp_size]; omega) h1).mono ?_
  rintro e w' ⟨rfl, n, rfl⟩
  exact ⟨rfl, below_drewN (Below.refl _ _) n⟩
theorem trim_any (s : ByteArray) (p : List UInt8) (w : World) :
    Calls Tryd.prog 53 #[.string s, .string (sp p)] w fun e w' => e = .returned (.string (sp (Lib.trimPrefix s.data.toList p))) ∧ w' = w := Tryd.strings_TrimPrefix s (sp p) w
theorem read_l (l : List UInt8) (w : World) (hl : l.length ≤ 1048576) (hr : RangeVar w) :
    Calls Tryd.prog 55 #[.string (sp l)] w (RetB (.tuple #[.int .i64 (readVal l), .int .i64 (readErr l)]) w) := wread_any (sp l) w (by rw [sp_size]; omega) hr
theorem trim_len (l p : List UInt8) : (Lib.trimPrefix l p).length ≤ l.length := by
  unfold Lib.trimPrefix
  split
  · simp only [List.length_drop]; omega
  · exact Nat.le_refl _
theorem cutL_len (l : List UInt8) (c : UInt8) : (cutL l c).1.length ≤ l.length ∧ (cutL l c).2.1.length ≤ l.length := by
  unfold cutL Lib.cut
  split
  · simp only [List.length_take, List.length_drop]; omega
  · simp
set_option maxRecDepth 100000 in
set_option maxHeartbeats 2000000 in
theorem parse_any (k : Nat) (hk : k ≤ 8192) (s : ByteArray) (hs : s.size ≤ 1048576) (w : World) (hp : Pow10 w) (hv : SynVar w) (hr : RangeVar w) (hm : MaxVar w) :
    Calls Tryd.prog 35 #[.int .i64 k, .string s] w (RetB (.tuple #[(parseS k s.data.toList).1.val, .bool (parseS k s.data.toList).2]) w) := by
  have HP := Lib.hid hp
  have HV := Lib.hid hv
  have HR := Lib.hid hr
  have HM := Lib.hid hm
  have SL : s.data.toList.length = s.size := by simp
  have TL := trim_len s.data.toList (headL k)
  have CL := cutL_len (Lib.trimPrefix s.data.toList (headL k)) 32
  have RL := Lib.hid (show (restL k s.data.toList).length ≤ 1048576 by unfold restL; omega)
  have WD : (cutL (Lib.trimPrefix s.data.toList (headL k)) 32).1 = wordL k s.data.toList := rfl
  have RD : (cutL (Lib.trimPrefix s.data.toList (headL k)) 32).2.1 = restL k s.data.toList := rfl
  have IL := itoa_len (a := (k : Int)) (by omega) (by omega)
  have A1 : ∀ w, (Op.stringOp .add (⟨(Lib.itoa (k : Int)).toArray⟩ : ByteArray) ⟨#[32]⟩).run Tryd.prog w = .ok (.string (sp (headL k))) w := fun w => add_str w _ _ (by rw [str_size]; show _ + 1 ≤ _; omega)
  have PD := Lib.hid (show parseS k s.data.toList = parseO k (opS (sp (wordL k s.data.toList))) (restL k s.data.toList) s.data.toList from rfl)
  have OL := opS_lt (sp (wordL k s.data.toList))
  have OP := Lib.hid (opof_any (sp (wordL k s.data.toList)))
  generalize hop : opS (sp (wordL k s.data.toList)) = op at *
  clear hp hv hr hm hop
  go_enter Tryd.func35, Tryd.ntmps35
  go_wp2_with fail
  refine (itoa_any (k : Int) (by omega) (by omega) _ (HP.out.below ((Below.refl _ w).alloc (Nat.le_refl _) _))).mono ?_
  rintro e w1 ⟨rfl, hb1⟩
  have HB1 := Lib.hid (bthen ((Below.refl _ w).alloc (Nat.le_refl _) _) hb1)
  have hr1 := (hb1.block w.heap.size (by simp)).trans (alloc_new _ _)
  have HR1 := Lib.hid hr1
  clear hb1 hr1
  go_wp2_with fail
  refine (trim_any s (headL k) _).mono ?_
  rintro e w2 ⟨rfl, rfl⟩
  go_wp2_with fail
  refine (cut_any (Lib.trimPrefix s.data.toList (headL k)) 32 (by omega) _ (HM.out.below HB1.out)).mono ?_
  rintro e w3 ⟨rfl, hb3⟩
  have HB3 := Lib.hid (bthen HB1.out hb3)
  have HR3 := Lib.hid ((hb3.block w.heap.size (Array.getElem?_eq_some_iff.1 HR1.out).1).trans HR1.out)
  clear hb3 HB1 HR1
  rw [WD, RD]
  go_wp2_with fail
  refine (OP.out _).mono ?_
  rintro e w4 ⟨rfl, hb4⟩
  have HB4 := Lib.hid (bthen HB3.out hb4)
  have HR4 := Lib.hid ((hb4.block w.heap.size (Array.getElem?_eq_some_iff.1 HR3.out).1).trans HR3.out)
  clear hb4 HB3 HR3
  have hz4 := (Array.getElem?_eq_some_iff.1 HR4.out).1
  go_wp2_with fail
  refine (bkind_agg op (by omega) _).mono ?_
  rintro e w5 ⟨rfl, hb5⟩
  have hz5 := hb5.size
  simp only [World.size_alloc] at hz5
  have r5 := (hb5.block w.heap.size (by simp; omega)).trans ((Below.heap_alloc w4 _ w.heap.size (by omega)).trans HR4.out)
  have x5 := (hb5.block w4.heap.size (by simp)).trans (alloc_new _ _)
  have P0 : Ps w (w5.alloc (.cells #[.string (wordK op), .int .u8 (aB op), .bool (numK op), .int .u8 (tB op), .int .i64 (takesK op), .int .i64 (leaveK op), .bool (manyK op), .bool (endsK op)] 46)) w.heap.size w4.heap.size w5.heap.size ⟨op, 0, 0, ⟨#[]⟩⟩ :=
    ⟨(bthen' (HB4.out.alloc (by omega) _) hb5 (Nat.le_refl _)).alloc (by omega) _, (Below.heap_alloc w5 _ w.heap.size (by omega)).trans r5, (Below.heap_alloc w5 _ w4.heap.size (by omega)).trans x5, alloc_new _ _, Nat.le_refl _, by omega, by omega, by omega, by omega⟩
  have HP0 := Lib.hid P0
  clear P0 r5 x5 hb5 HB4 HR4
  go_upto_if 33 with fail
  generalize w5.alloc (.cells #[.string (wordK op), .int .u8 (aB op), .bool (numK op), .int .u8 (tB op), .int .i64 (takesK op), .int .i64 (leaveK op), .bool (manyK op), .bool (endsK op)] 46) = W0 at *
  generalize w5.heap.size = kb at *
  generalize w4.heap.size = xb at *
  generalize hrb : w.heap.size = rb at *
  go_cut [6] (fun s6 wx => s6 = .string (sp (behindL op (restL k s.data.toList))) ∧ failL op (restL k s.data.toList) = false ∧ Ps w wx rb xb kb ⟨op, aL op (restL k s.data.toList), 0, ⟨#[]⟩⟩)
  case first =>
    have e1 := HP0.out.k1
    generalize restL k s.data.toList = rest at *
    by_cases hA : aK op = 0
    · have hAb : (aB op != 0) = false := by rw [aB_ne]; simp [hA]
      have E := Lib.hid (behindL_no (rest := rest) hA)
      have F := Lib.hid (failL_no (rest := rest) hA)
      have G := Lib.hid (aL_no (rest := rest) hA)
      clear hA
      go_wp2_with fail
      go_meet
      exact ⟨by rw [E.out], F.out, by rw [G.out]; exact HP0.out⟩
    · have hAb : (aB op != 0) = true := by rw [aB_ne]; simp [hA]
      have E := Lib.hid (behindL_is (rest := rest) hA)
      have G := Lib.hid (aL_is (rest := rest) hA)
      have FE := Lib.hid (failL_e (rest := rest) hA)
      have FN := Lib.hid (failL_n (rest := rest) hA)
      have FO := Lib.hid (failL_ok (op := op) (rest := rest))
      have CL2 := cutL_len rest 32
      have RL2 := RL.out
      clear hA
      go_wp2_with fail
      refine (cut_any rest 32 RL.out _ (HM.out.below (HP0.out.low))).mono ?_
      rintro e w6 ⟨rfl, hb6⟩
      have HP6 := Lib.hid (HP0.out.below hb6)
      clear hb6 e1
      go_wp2_with fail
      refine (read_l (cutL rest 32).1 _ (by omega) (HR.out.below HP6.out.low)).mono ?_
      rintro e w7 ⟨rfl, hb7⟩
      have HP7 := Lib.hid (HP6.out.below hb7)
      clear hb7
      have f0 := HP7.out.c0
      have f1 := HP7.out.c1
      have f2 := HP7.out.c2
      have f3 := HP7.out.c3
      have g0 := HP7.out.o0
      have g1 := HP7.out.o1
      have g2 := HP7.out.o2
      have g3 := HP7.out.o3
      have xf := HP7.out.xf
      have rf := HP7.out.rf
      by_cases hE : readErr (cutL rest 32).1 = 0
      · by_cases hN : readVal (cutL rest 32).1 < 0
        · have bE : (readErr (cutL rest 32).1 != 0) = false := by rw [hE]; rfl
          have bN : decide (readVal (cutL rest 32).1 < 0) = true := decide_eq_true hN
          have PF := Lib.hid (parseO_fail (k := k) (l := s.data.toList) (FN.out hN))
          clear hE hN
          go_wp2_with fail
          refine bodyPost_ret (v := .tuple #[InsV.val ⟨op, 0, 0, ⟨#[]⟩⟩, .bool false]) (by simp [results, Tryd.results35, go_sem, World.cell?_setCell_same', World.cell?_setCell_other, g0, g1, g2, g3]; rfl) rfl ⟨by rw [PD.out, PF.out], ?_⟩
          exact (((HP7.out.low.setCell (p := ⟨rb, 0, none⟩) HP7.out.r0 _).setCell (p := ⟨rb, 1, none⟩) HP7.out.r0 _).setCell (p := ⟨rb, 2, none⟩) HP7.out.r0 _).setCell (p := ⟨rb, 3, none⟩) HP7.out.r0 _
        · have bE : (readErr (cutL rest 32).1 != 0) = false := by rw [hE]; rfl
          have bN : decide (readVal (cutL rest 32).1 < 0) = false := decide_eq_false hN
          have F := Lib.hid (FO.out hE (by omega))
          clear hE hN
          go_wp2_with fail
          go_meet
          exact ⟨by rw [E.out], F.out, by rw [G.out]; exact HP7.out.setA _⟩
      · have bE : (readErr (cutL rest 32).1 != 0) = true := bne_iff_ne.2 hE
        have PF := Lib.hid (parseO_fail (k := k) (l := s.data.toList) (FE.out hE))
        clear hE
        go_wp2_with fail
        refine bodyPost_ret (v := .tuple #[InsV.val ⟨op, 0, 0, ⟨#[]⟩⟩, .bool false]) (by simp [results, Tryd.results35, go_sem, World.cell?_setCell_same', World.cell?_setCell_other, g0, g1, g2, g3]; rfl) rfl ⟨by rw [PD.out, PF.out], ?_⟩
        exact (((HP7.out.low.setCell (p := ⟨rb, 0, none⟩) HP7.out.r0 _).setCell (p := ⟨rb, 1, none⟩) HP7.out.r0 _).setCell (p := ⟨rb, 2, none⟩) HP7.out.r0 _).setCell (p := ⟨rb, 3, none⟩) HP7.out.r0 _
  obtain ⟨rfl, hF, hP⟩ := hcut
  have AV := Lib.hid (aL_in hF)
  have HP1 := Lib.hid hP
  clear hP HP0
  have e2 := HP1.out.k2
  have e3 := HP1.out.k3
  have xf := HP1.out.xf
  have BL := Lib.hid (show (behindL op (restL k s.data.toList)).length ≤ 1048576 by
    have h1 := RL.out
    have h2 := cutL_len (restL k s.data.toList) 32
    unfold behindL
    split <;> omega)
  go_upto_block 0 with fail
  have FD := Lib.hid (show (fullL op (restL k s.data.toList)) = ⟨op, aL op (restL k s.data.toList), intL op (behindL op (restL k s.data.toList)), textL op (behindL op (restL k s.data.toList))⟩ from rfl)
  generalize restL k s.data.toList = rest at *
  generalize behindL op rest = fl at *
  generalize aL op rest = av at *
  go_cut [] (fun wx => Ps w wx rb xb kb ⟨op, av, intL op fl, textL op fl⟩)
  case first =>
    cases hn : numK op with
    | true =>
      have I := Lib.hid (intL_is (l := fl) hn)
      have T := Lib.hid (textL_no (l := fl) (num_text hn))
      rw [hn] at e2
      clear hn
      go_wp2_with fail
      refine (read_l fl _ BL.out (HR.out.below HP1.out.low)).mono ?_
      rintro e w8 ⟨rfl, hb8⟩
      have HP8 := Lib.hid (HP1.out.below hb8)
      have xf8 := HP8.out.xf
      have y2 := HP8.out.c2
      clear hb8 xf e2 e3
      go_wp2_with fail
      go_meet
      rw [I.out, T.out]
      exact HP8.out.setI _
    | false =>
      have I := Lib.hid (intL_no (l := fl) hn)
      rw [hn] at e2
      clear hn
      rcases textK_cases op with ht | ht | ht
      · have T := Lib.hid (textL_no (l := fl) ht)
        have b1 : (tB op == 110) = false := by rw [tB_110, ht]; rfl
        have b2 : (tB op == 120) = false := by rw [tB_120, ht]; rfl
        clear ht
        go_wp2_with fail
        go_meet
        rw [I.out, T.out]
        exact HP1.out
      · have T := Lib.hid (textL_any (l := fl) ht)
        have b1 : (tB op == 110) = false := by rw [tB_110, ht]; rfl
        have b2 : (tB op == 120) = true := by rw [tB_120, ht]; rfl
        clear ht
        go_wp2_with fail
        refine (unquoted_any (sp fl) (by rw [sp_size]; exact BL.out) _ (HV.out.below HP1.out.low)).mono ?_
        rintro e w8 ⟨rfl, hb8⟩
        have HP8 := Lib.hid (HP1.out.below hb8)
        have xf8 := HP8.out.xf
        have y3 := HP8.out.c3
        clear hb8 xf e2 e3
        go_wp2_with fail
        go_meet
        rw [I.out, T.out]
        exact HP8.out.setT _
      · have T := Lib.hid (textL_name (l := fl) ht)
        have b1 : (tB op == 110) = true := by rw [tB_110, ht]; rfl
        have y3 := HP1.out.c3
        clear ht
        go_wp2_with fail
        go_meet
        rw [I.out, T.out]
        exact HP1.out.setT _
  have HP2 := Lib.hid hcut
  have f0 := hcut.c0
  have f1 := hcut.c1
  have f2 := hcut.c2
  have f3 := hcut.c3
  have g0 := hcut.o0
  have g1 := hcut.o1
  have g2 := hcut.o2
  have g3 := hcut.o3
  have rf := hcut.rf
  have e0 := hcut.k0
  clear hcut e2 e3 xf HP1
  have PO := Lib.hid (parseO_ok (k := k) (l := s.data.toList) hF)
  cases hk : isK op with
  | false =>
    have bw : (wordK op).toList.isEmpty = true := by rw [word_none, hk]; rfl
    go_wp2_with fail
    go_region
    all_goals
      go_wp2_with fail
      refine bodyPost_ret (v := .tuple #[InsV.val ⟨op, av, intL op fl, textL op fl⟩, .bool false]) (by simp [results, Tryd.results35, go_sem, World.cell?_setCell_same', World.cell?_setCell_other, g0, g1, g2, g3]; rfl) rfl ⟨by rw [PD.out, PO.out, FD.out, hk]; rfl, ?_⟩
      exact (((HP2.out.low.drew.setCell (p := ⟨rb, 0, none⟩) HP2.out.r0 _).setCell (p := ⟨rb, 1, none⟩) HP2.out.r0 _).setCell (p := ⟨rb, 2, none⟩) HP2.out.r0 _).setCell (p := ⟨rb, 3, none⟩) HP2.out.r0 _
  | true =>
    have bw : (wordK op).toList.isEmpty = false := by rw [word_none, hk]; rfl
    have LA := Lib.hid (fun w hw => line_any k (by omega) ⟨op, av, intL op fl, textL op fl⟩ (by simp only; omega) AV.out.1 AV.out.2 (intL_in op fl).1 (intL_in op fl).2 (by have := textL_len op fl; have := BL.out; simp only; omega) w hw)
    have xr := HP2.out.rx.symm
    have kr := HP2.out.rk.symm
    clear g0 g1 g2 g3 rf
    go_wp2_with fail
    go_region_held3 (fun w' => w'.cell? ⟨xb, 0, none⟩ = some (.int .u8 (op : Int)) ∧ w'.cell? ⟨xb, 1, none⟩ = some (.int .i64 av) ∧ w'.cell? ⟨xb, 2, none⟩ = some (.int .i64 (intL op fl)) ∧ w'.cell? ⟨xb, 3, none⟩ = some (.string (textL op fl)) ∧ w'.cell? ⟨kb, 0, none⟩ = some (.string (wordK op))) (first | exact ⟨f0, f1, f2, f3, e0⟩ | exact ⟨k0, k1, k2, k3, k4⟩ | exact ⟨keep4 k0 xr, keep4 k1 xr, keep4 k2 xr, keep4 k3 xr, keep4 k4 kr⟩) (first | (go_at_call 27; refine (LA.out _ (by exact HP.out.below (HP2.out.low.trans (by go_grown)))).mono ?_; rintro e w3 ⟨rfl, h3⟩; have HP3 := HP2.out.below (bthen (by go_grown) h3); have k0 := HP3.c0; have k1 := HP3.c1; have k2 := HP3.c2; have k3 := HP3.c3; have k4 := HP3.k0; have q0 := HP3.o0; have q1 := HP3.o1; have q2 := HP3.o2; have q3 := HP3.o3; have qf := HP3.rf))
    all_goals
      go_wp2_with fail
      refine bodyPost_ret (v := .tuple #[InsV.val ⟨op, av, intL op fl, textL op fl⟩, .bool ((sp (lineS k ⟨op, av, intL op fl, textL op fl⟩)).toList == s.toList)]) (by simp [results, Tryd.results35, go_sem, World.cell?_setCell_same', World.cell?_setCell_other, q0, q1, q2, q3]; rfl) rfl ⟨by rw [PD.out, PO.out, FD.out, hk, same_text]; rfl, ?_⟩
      exact (((HP3.low.setCell (p := ⟨rb, 0, none⟩) HP2.out.r0 _).setCell (p := ⟨rb, 1, none⟩) HP2.out.r0 _).setCell (p := ⟨rb, 2, none⟩) HP2.out.r0 _).setCell (p := ⟨rb, 3, none⟩) HP2.out.r0 _
end Go.Proofs.YtefijgdbnjmifaaDoor

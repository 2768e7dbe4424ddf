/- The reference's Fits, walked. Printed by a program. -/
import Derived.Test.YtefijgdbnjmifaaFitsB
import Derived.Deep.RegionWith
namespace Go.Proofs.Ytefijgdbnjmifaa
open Go.RowKit Go.Maps

theorem dAt_r0 (n j : Nat) : dAt (List.replicate n 0) j = 0 := by
  unfold dAt
  by_cases h : j < n
  · rw [List.getD, List.getElem?_eq_getElem (by simpa using h)]; simp
  · rw [List.getD, List.getElem?_eq_none (by simp; omega)]; rfl
/-- The depths while they are laid. -/
def mkD' (n k : Nat) : List Int := List.replicate k (-1) ++ List.replicate (n - k) 0
theorem mkD_s (n k : Nat) (h : k < n) : (mkD' n k).set k (-1) = mkD' n (k + 1) := by
  unfold mkD'
  rw [List.set_append_right _ _ (by simp), List.length_replicate, Nat.sub_self, show n - k = (n - (k + 1)) + 1 by omega, List.replicate_succ, List.set_cons_zero, List.replicate_succ', List.append_assoc]
  rfl
theorem mkD_z (n : Nat) : mkD' n 0 = List.replicate n 0 := by simp [mkD']
theorem mkD_a (n : Nat) : mkD' n n = List.replicate n (-1) := by simp [mkD']
set_option maxRecDepth 100000 in
set_option maxHeartbeats 16000000 in
theorem fits_any {w : World} {A : Option Addr} {n cc : Nat} {cs : List InsV} (hcode : CodeIn w A cs) (hl : cs.length = n) (hok : OkC cs) (hn : (n : Int) ≤ 8192) (hn0 : 0 < n) (hr : AllR (insL cs)) :
    Calls Try.prog 22 #[.slice A n cc] w (FPost (insL cs) w n) := by
  have hmk := run_make_row' (P := Try.prog) 28 3 (.int .i64 0) 8 Try.underlying28 infoI2 rfl .i64 .i64 n (by omega) (by omega)
  have hmk2 := run_make_row' (P := Try.prog) 34 4 (.bool false) 1 Try.underlying34 infoB rfl .i64 .i64 n (by omega) (by omega)
  obtain ⟨b, off, hA, hbl, hcell⟩ := hcode (by omega)
  subst hA
  have CE := Lib.hid hcell
  have HL := Lib.hid hl
  have HO := Lib.hid hok
  have HR := Lib.hid hr
  have HLC := Lib.hid (show (insL cs).length = n by rw [insL_length, hl])
  clear hcode hl hok hr hcell
  go_enter Try.func22, Try.ntmps22
  go_wp2_with fail
  clear hmk hmk2
  obtain ⟨db, hdb⟩ : ∃ db, db = w.heap.size := ⟨_, rfl⟩
  obtain ⟨gb, hgb⟩ : ∃ gb, gb = w.heap.size + 1 := ⟨_, rfl⟩
  have ne : db ≠ gb := by omega
  have NE := Lib.hid ne
  have LO := Lib.hid (show w.heap.size ≤ db by omega)
  have LO2 := Lib.hid (show w.heap.size ≤ gb by omega)
  have hs0 : Kp w db gb n (List.replicate n 0) (g0S n) ((w.alloc (.cells (madeCells #[.int .i64 0] n) 3)).alloc (.cells (madeCells #[.bool false] n) 4)) := by
    subst hdb hgb
    refine ⟨?_, ?_, ((Below.refl _ w).alloc (Nat.le_refl _) _).alloc (by simp) _⟩
    · exact ((World.rowIs_made w (.int .i64 0) n 3).congr (fun i hi => by unfold dV; rw [dAt_r0])).alloc _
    · have := (World.rowIs_made (w.alloc (.cells (madeCells #[.int .i64 0] n) 3)) (.bool false) n 4).congr (g := gV (g0S n)) (fun i hi => by unfold gV; rw [gAt_g0 n i hi])
      simpa using this
  rw [← hgb]
  simp only [← hdb]
  have HS0 := Lib.hid hs0
  clear hs0 hdb hgb
  go_loopw [6] (fun i wr => ∃ k : Nat, k ≤ n ∧ i = .int .i64 k ∧ Kp w db gb n (mkD' n k) (g0S n) wr) (fun i _ => n - (intOf i).toNat)
  case atStart => exact ⟨0, Nat.zero_le _, rfl, by rw [mkD_z]; exact HS0.out⟩
  case round =>
    obtain ⟨k, hk, rfl, hkp⟩ := hrel
    have KP := Lib.hid hkp
    have hz := hkp.row.lt
    by_cases hlt : k < n
    · have dk := hkp.row.cell hlt
      have df := hkp.row.frozen k
      simp only [dV] at dk
      generalize dAt (mkD' n k) k = v at dk
      clear hkp
      go_wp2_with fail
      go_roundw
      case rel =>
        have := KP.out.store NE.out LO.out (q := k) (by simp [mkD']; omega) (-1)
        rw [mkD_s _ _ hlt] at this
        exact ⟨k + 1, by omega, by go_num, this⟩
      case measure => simp [intOf]; omega
    · have hkn : k = n := by omega
      have KP2 := Lib.hid (show Kp w db gb n (List.replicate n (-1)) (g0S n) wr by have := KP.out; rwa [hkn, mkD_a] at this)
      have dk := KP2.out.row.cell hn0
      have df := KP2.out.row.frozen 0
      simp only [dV] at dk
      generalize dAt (List.replicate n (-1)) 0 = v at dk
      clear hkp hkn
      go_wp2_with fail
      have KP3 := Lib.hid (KP2.out.store NE.out LO.out (q := 0) (by simpa using hn0) 0)
      go_loopg [7, 8, 9, 10, 11] ((insL cs).length * ((insL cs).length + 1) + (insL cs).length) (fun N p _ _ _ _ wx => FRel (insL cs) w db gb N p wx)
      case atStart => exact ⟨0, _, _, _, rfl, FS.start (by rw [HLC.out]; exact KP3.out) LO.out LO2.out NE.out⟩
      case round =>
        clear KP KP2 KP3 HS0 hz dk df
        obtain ⟨p, d, g, k, rfl, hfs⟩ := hrel
        have F := Lib.hid hfs
        have hpl := hfs.ple
        rw [HLC.out] at hpl
        have hkp := hfs.kp
        rw [HLC.out] at hkp
        have KP := Lib.hid hkp
        have ldb := hkp.row.lt
        have lgb := hkp.grow.lt
        clear hfs
        by_cases hlt : p < n
        · have hpc : p < (insL cs).length := by have := HLC.out; omega
          have PC := Lib.hid hpc
          have dp := hkp.row.cell hlt
          have gp := hkp.grow.cell hlt
          have gfz := hkp.grow.frozen p
          simp only [dV, gV] at dp gp
          clear hkp hpc
          by_cases hy : pendB d g p = true
          · obtain ⟨k', hk', hg0, hv0, hvn, hfit⟩ := F.out.next PC.out hy
            rw [HLC.out] at hvn
            have HY := Lib.hid hy
            have HK := Lib.hid hk'
            have FT := Lib.hid hfit
            have HP := Lib.hid (HR.out p PC.out)
            rw [hg0] at gp
            generalize hvv : dAt d p = v at *
            have HV := Lib.hid hvv
            have hneg : decide (v < 0) = false := decide_eq_false (by omega)
            obtain ⟨q0, q1, q2, q3⟩ := CE.out p (by have := HL.out; omega)
            have hkk := fun o => F.out.bel.cell (p := ⟨b, o, none⟩) hbl
            have q0 := (hkk _).trans q0
            have q1 := (hkk _).trans q1
            have q2 := (hkk _).trans q2
            have q3 := (hkk _).trans q3
            have hbg : b ≠ gb := by have := LO2.out; omega
            obtain ⟨ok1, _⟩ := HO.out p (by have := HL.out; omega)
            have EI := Lib.hid (atI_ins cs p)
            generalize atV cs p = x at *
            obtain ⟨op, a, int, text⟩ := x
            simp only [InsV.ins] at q0 q1 q2 q3 ok1 EI
            have HP2 := Lib.hid (show rightI ⟨op, a, int, text.data.toList⟩ (insL cs).length = true by have := HP.out; rwa [EI.out] at this)
            have tn := takesI_nn HP2.out
            have TK := Lib.hid (fun w => rtakes_any op a int text ok1 w)
            have EN := Lib.hid (fun w => rends_any op ok1 w)
            have BG := Lib.hid (F.out.begin_ PC.out (.cells #[.int .u8 (op : Int), .int .i64 a, .int .i64 int, .string text] 36))
            have XT : Hid (takesI (atI (insL cs) p) = takesI ⟨op, a, int, text.data.toList⟩) := Lib.hid (by rw [EI.out])
            have BE := Lib.hid (fun (hf : takesI ⟨op, a, int, text.data.toList⟩ ≤ v) w => rbehind_any op a int text ok1 v (by omega) (by omega) hf tn.1 w)
            generalize takesI ⟨op, a, int, text.data.toList⟩ = tk at *
            clear hkk hy hk' hfit hvv hg0
            have hsz : (wr.setCell ⟨gb, p, none⟩ (.bool true)).heap.size = wr.heap.size := by simp
            have s4 : ((wr.setCell ⟨gb, p, none⟩ (.bool true)).alloc (.cells #[.int .u8 (op : Int), .int .i64 a, .int .i64 int, .string text] 36)).cell? ⟨db, p, none⟩ = some (.int .i64 v) := by have := BG.out.row.cell (i := p) PC.out; rw [dV, HV.out] at this; exact this
            have s0 : ((wr.setCell ⟨gb, p, none⟩ (.bool true)).alloc (.cells #[.int .u8 (op : Int), .int .i64 a, .int .i64 int, .string text] 36)).cell? ⟨wr.heap.size, 0, none⟩ = some (.int .u8 (op : Int)) := by rw [← hsz, World.cell?_alloc_new]; rfl
            have s1 : ((wr.setCell ⟨gb, p, none⟩ (.bool true)).alloc (.cells #[.int .u8 (op : Int), .int .i64 a, .int .i64 int, .string text] 36)).cell? ⟨wr.heap.size, 1, none⟩ = some (.int .i64 a) := by rw [← hsz, World.cell?_alloc_new]; rfl
            have s2 : ((wr.setCell ⟨gb, p, none⟩ (.bool true)).alloc (.cells #[.int .u8 (op : Int), .int .i64 a, .int .i64 int, .string text] 36)).cell? ⟨wr.heap.size, 2, none⟩ = some (.int .i64 int) := by rw [← hsz, World.cell?_alloc_new]; rfl
            have s3 : ((wr.setCell ⟨gb, p, none⟩ (.bool true)).alloc (.cells #[.int .u8 (op : Int), .int .i64 a, .int .i64 int, .string text] 36)).cell? ⟨wr.heap.size, 3, none⟩ = some (.string text) := by rw [← hsz, World.cell?_alloc_new]; rfl
            clear hsz
            go_wp2_with fail
            refine (EN.out _).mono ?_
            rintro e w2 ⟨rfl, rfl⟩
            cases hen : endsK op with
            | true =>
              have HEN := Lib.hid hen
              clear hen
              by_cases htk : v = tk
              · have hcmp : (v != tk) = false := by simpa using htk
                have HT := Lib.hid (show throughS (atI (insL cs) p) d p = (d, true) by rw [through_ends (by rw [EI.out]; exact HEN.out), HV.out, XT.out, htk]; simp)
                clear htk
                go_wp2_with fail
                go_region_held3 (fun w' => w'.cell? ⟨db, p, none⟩ = some (.int .i64 v) ∧ w'.cell? ⟨wr.heap.size, 0, none⟩ = some (.int .u8 (op : Int)) ∧ w'.cell? ⟨wr.heap.size, 1, none⟩ = some (.int .i64 a) ∧ w'.cell? ⟨wr.heap.size, 2, none⟩ = some (.int .i64 int) ∧ w'.cell? ⟨wr.heap.size, 3, none⟩ = some (.string text)) (first | exact ⟨s4, s0, s1, s2, s3⟩ | exact ⟨k4, k0, k1, k2, k3⟩) (first | (go_at_call 11; refine (TK.out _).mono ?_; rintro e w3 ⟨rfl, h3⟩; have ck := (bcell h3).1; have k4 := (ck _ _ (by simp <;> omega)).trans s4; have k0 := (ck _ 0 (by simp <;> omega)).trans s0; have k1 := (ck _ 1 (by simp <;> omega)).trans s1; have k2 := (ck _ 2 (by simp <;> omega)).trans s2; have k3 := (ck _ 3 (by simp <;> omega)).trans s3))
                go_wp2_with fail
                have K3 := Lib.hid (BG.out.drew.below h3)
                have FO := Lib.hid (F.out.on HR.out PC.out HY.out HK.out HT.out (q := p) (by have := PC.out; omega) (pend_gset F.out.low (by rw [F.out.gl]; exact PC.out)) K3.out.row K3.out.grow K3.out.bel)
                go_roundg (k' * ((insL cs).length + 1) + ((insL cs).length - p))
                case measure => exact FO.out.2
                case rel => exact ⟨p, d, _, k', rfl, FO.out.1⟩
              · have hcmp : (v != tk) = true := by simpa using htk
                have HT := Lib.hid (show throughS (atI (insL cs) p) d p = (d, false) by rw [through_ends (by rw [EI.out]; exact HEN.out), HV.out, XT.out]; simp [htk])
                clear htk
                go_wp2_with fail
                go_region_held3 (fun w' => w'.cell? ⟨db, p, none⟩ = some (.int .i64 v) ∧ w'.cell? ⟨wr.heap.size, 0, none⟩ = some (.int .u8 (op : Int)) ∧ w'.cell? ⟨wr.heap.size, 1, none⟩ = some (.int .i64 a) ∧ w'.cell? ⟨wr.heap.size, 2, none⟩ = some (.int .i64 int) ∧ w'.cell? ⟨wr.heap.size, 3, none⟩ = some (.string text)) (first | exact ⟨s4, s0, s1, s2, s3⟩ | exact ⟨k4, k0, k1, k2, k3⟩) (first | (go_at_call 11; refine (TK.out _).mono ?_; rintro e w3 ⟨rfl, h3⟩; have ck := (bcell h3).1; have k4 := (ck _ _ (by simp <;> omega)).trans s4; have k0 := (ck _ 0 (by simp <;> omega)).trans s0; have k1 := (ck _ 1 (by simp <;> omega)).trans s1; have k2 := (ck _ 2 (by simp <;> omega)).trans s2; have k3 := (ck _ 3 (by simp <;> omega)).trans s3))
                go_wp2_with fail
                have K3 := Lib.hid (BG.out.drew.below h3)
                have E := Lib.hid (show fitsS (insL cs) = (d, (p : Int)) by rw [FT.out, HT.out]; rfl)
                go_ret2
                have := FPost.wrong K3.out LO.out E.out
                rw [HLC.out] at this
                exact this
            | false =>
              have HEN := Lib.hid hen
              clear hen
              by_cases hlow : v < tk
              · have hcmp : decide (v < tk) = true := decide_eq_true hlow
                have HT := Lib.hid (show throughS (atI (insL cs) p) d p = (d, false) from through_low (by rw [EI.out]; simp [HEN.out]) (by rw [HV.out, XT.out]; exact hlow))
                clear hlow
                go_wp2_with fail
                go_region_held3 (fun w' => w'.cell? ⟨db, p, none⟩ = some (.int .i64 v) ∧ w'.cell? ⟨wr.heap.size, 0, none⟩ = some (.int .u8 (op : Int)) ∧ w'.cell? ⟨wr.heap.size, 1, none⟩ = some (.int .i64 a) ∧ w'.cell? ⟨wr.heap.size, 2, none⟩ = some (.int .i64 int) ∧ w'.cell? ⟨wr.heap.size, 3, none⟩ = some (.string text)) (first | exact ⟨s4, s0, s1, s2, s3⟩ | exact ⟨k4, k0, k1, k2, k3⟩) (first | (go_at_call 11; refine (TK.out _).mono ?_; rintro e w3 ⟨rfl, h3⟩; have ck := (bcell h3).1; have k4 := (ck _ _ (by simp <;> omega)).trans s4; have k0 := (ck _ 0 (by simp <;> omega)).trans s0; have k1 := (ck _ 1 (by simp <;> omega)).trans s1; have k2 := (ck _ 2 (by simp <;> omega)).trans s2; have k3 := (ck _ 3 (by simp <;> omega)).trans s3))
                go_wp2_with fail
                have K3 := Lib.hid (BG.out.drew.below h3)
                have E := Lib.hid (show fitsS (insL cs) = (d, (p : Int)) by rw [FT.out, HT.out]; rfl)
                go_ret2
                have := FPost.wrong K3.out LO.out E.out
                rw [HLC.out] at this
                exact this
              · have hcmp : decide (v < tk) = false := decide_eq_false hlow
                have TG := Lib.hid (through_gen (x := atI (insL cs) p) (d := d) (p := p) (by rw [EI.out]; exact HEN.out) (by rw [HV.out, XT.out]; exact hlow))
                have BE2 := Lib.hid (BE.out (by omega))
                have nn := next_nn (depth := v) HP2.out (by rw [← EI.out]; rw [XT.out]; omega)
                have EIo : Hid ((atI (insL cs) p).op = op) := Lib.hid (by rw [EI.out])
                have EIa : Hid ((atI (insL cs) p).a = a) := Lib.hid (by rw [EI.out])
                have TH : Hid (thereI (atI (insL cs) p) (dAt d p) = thereI ⟨op, a, int, text.data.toList⟩ v) := Lib.hid (by rw [EI.out, HV.out])
                have NX : Hid (nextI (atI (insL cs) p) (dAt d p) = nextI ⟨op, a, int, text.data.toList⟩ v) := Lib.hid (by rw [EI.out, HV.out])
                generalize thereI ⟨op, a, int, text.data.toList⟩ v = th at *
                generalize nextI ⟨op, a, int, text.data.toList⟩ v = nx at *
                have RO : Hid (∀ w, Calls Try.prog 14 #[.int .u8 (op : Int)] w (RetB (.agg #[.string (wordK op), .int .i64 (aK op), .bool (numK op), .bool (decide (textK op = 1)), .bool (decide (textK op = 2)), .int .i64 (takesK op), .int .i64 (leaveK op)]) w)) := Lib.hid (fun w => row_any op ok1 w)
                have hfl : ∀ w, (Instr.field 42 (.agg #[.string (wordK op), .int .i64 (aK op), .bool (numK op), .bool (decide (textK op = 1)), .bool (decide (textK op = 2)), .int .i64 (takesK op), .int .i64 (leaveK op)]) 1).run Try.prog w = .ok (.int .i64 (aK op)) w := fun _ => by kernel_rfl
                clear hlow
                go_wp2_with fail
                go_region_held3 (fun w' => w'.cell? ⟨db, p, none⟩ = some (.int .i64 v) ∧ w'.cell? ⟨wr.heap.size, 0, none⟩ = some (.int .u8 (op : Int)) ∧ w'.cell? ⟨wr.heap.size, 1, none⟩ = some (.int .i64 a) ∧ w'.cell? ⟨wr.heap.size, 2, none⟩ = some (.int .i64 int) ∧ w'.cell? ⟨wr.heap.size, 3, none⟩ = some (.string text)) (first | exact ⟨s4, s0, s1, s2, s3⟩ | exact ⟨k4, k0, k1, k2, k3⟩) (first | (go_at_call 11; refine (TK.out _).mono ?_; rintro e w3 ⟨rfl, h3⟩; have ck := (bcell h3).1; have k4 := (ck _ _ (by simp <;> omega)).trans s4; have k0 := (ck _ 0 (by simp <;> omega)).trans s0; have k1 := (ck _ 1 (by simp <;> omega)).trans s1; have k2 := (ck _ 2 (by simp <;> omega)).trans s2; have k3 := (ck _ 3 (by simp <;> omega)).trans s3))
                have K3 := Lib.hid (BG.out.drew.below h3)
                have z3 : db < w3.heap.size ∧ gb < w3.heap.size ∧ wr.heap.size < w3.heap.size := by have := h3.size; simp at this; omega
                obtain ⟨z31, z32, z33⟩ := z3
                clear s0 s1 s2 s3 s4
                go_wp2_with fail
                go_region_held3 (fun w' => w'.cell? ⟨db, p, none⟩ = some (.int .i64 v) ∧ w'.cell? ⟨wr.heap.size, 0, none⟩ = some (.int .u8 (op : Int)) ∧ w'.cell? ⟨wr.heap.size, 1, none⟩ = some (.int .i64 a) ∧ w'.cell? ⟨wr.heap.size, 2, none⟩ = some (.int .i64 int) ∧ w'.cell? ⟨wr.heap.size, 3, none⟩ = some (.string text)) (first | exact ⟨k4, k0, k1, k2, k3⟩ | exact ⟨j4, j0, j1, j2, j3⟩) (first | (go_at_call 13; refine (BE2.out _).mono ?_; rintro e w4 ⟨rfl, h4⟩; have cj := (bcell h4).1; have j4 := (cj _ _ (by simp <;> omega)).trans k4; have j0 := (cj _ 0 (by simp <;> omega)).trans k0; have j1 := (cj _ 1 (by simp <;> omega)).trans k1; have j2 := (cj _ 2 (by simp <;> omega)).trans k2; have j3 := (cj _ 3 (by simp <;> omega)).trans k3))
                have K4 := Lib.hid (K3.out.drew.below h4)
                have z4 : db < w4.heap.size ∧ gb < w4.heap.size ∧ wr.heap.size < w4.heap.size := by have := h4.size; simp at this; omega
                obtain ⟨z41, z42, z43⟩ := z4
                clear k0 k1 k2 k3 k4 cj ck
                go_wp2_with fail
                refine (RO.out _).mono ?_
                rintro e w5 ⟨rfl, h5⟩
                have K5 := Lib.hid (K4.out.below h5)
                have m0 := ((bcell h5).1 _ 0 z43).trans j0
                have m1 := ((bcell h5).1 _ 1 z43).trans j1
                have z5 := h5.size
                clear j0 j1 j2 j3 j4
                have hge : gAt g p = gAt g p := rfl
                clear hge
                go_upto_if 88 with fail
                go_cut [7] (fun s7 wx => Mid (insL cs) w db gb p d g wr.heap.size op a s7 wx)
                case first =>
                  by_cases hA1 : aK op = 1
                  · have hAb : ((aK op : Int) == 1) = true := by rw [hA1]; rfl
                    obtain ⟨ha0, ha1⟩ := target_lt HP2.out hA1
                    have ha0' : 0 ≤ a := ha0
                    have ha1' : a < ((insL cs).length : Int) := ha1
                    rw [HLC.out] at ha1'
                    obtain ⟨q, hq⟩ : ∃ q : Nat, a = (q : Int) := ⟨a.toNat, by omega⟩
                    subst hq
                    have hqn : q < n := by omega
                    have QL := Lib.hid (show q < d.length by have := F.out.dl; have := HLC.out; omega)
                    have dq := K5.out.row.cell (i := q) (by have := HLC.out; omega)
                    have dfz := K5.out.row.frozen q
                    simp only [dV] at dq
                    clear ha0 ha1
                    by_cases hn1 : dAt d q < 0
                    · have hnb : decide (dAt d q < 0) = true := decide_eq_true hn1
                      have E1 := Lib.hid (R1_new (p := p) (by rw [EIo.out]; exact hA1) EIa.out QL.out hn1)
                      clear hA1
                      generalize dAt d q = dd at *
                      have E2 := Lib.hid (show R1S (atI (insL cs) p) d p = (d.set q th, true) by rw [E1.out, TH.out])
                      have K6 := Lib.hid (K5.out.store NE.out LO.out QL.out th)
                      have hlow := Lib.hid (pend_gset F.out.low (p := p) (by rw [F.out.gl]; exact PC.out))
                      by_cases hpq : p ≤ q
                      · have PL := Lib.hid (pend_set (v := th) hlow.out hpq QL.out)
                        go_wp2_with fail
                        go_meet
                        refine ⟨p, rfl, Nat.le_refl _, ?_, ?_, ?_, ?_, ?_⟩
                        · rw [E2.out]
                        · rw [E2.out]; exact HLC.out ▸ K6.out
                        · rw [E2.out]; exact PL.out
                        · exact (World.cell?_setCell_other _ _ _ _ (fun e => by injection e with e1 _ _; omega)).trans m0
                        · exact (World.cell?_setCell_other _ _ _ _ (fun e => by injection e with e1 _ _; omega)).trans m1
                      · have PL := Lib.hid (pend_set (v := th) (fun i (hi : i < q) => hlow.out i (by omega)) (Nat.le_refl _) QL.out)
                        have hqp : q < p := by omega
                        clear hpq
                        go_wp2_with fail
                        go_meet
                        refine ⟨q, rfl, Nat.le_of_lt hqp, ?_, ?_, ?_, ?_, ?_⟩
                        · rw [E2.out]
                        · rw [E2.out]; exact HLC.out ▸ K6.out
                        · rw [E2.out]; exact PL.out
                        · exact (World.cell?_setCell_other _ _ _ _ (fun e => by injection e with e1 _ _; omega)).trans m0
                        · exact (World.cell?_setCell_other _ _ _ _ (fun e => by injection e with e1 _ _; omega)).trans m1
                    · have hnb : decide (dAt d q < 0) = false := decide_eq_false hn1
                      have E1 := Lib.hid (R1_old (p := p) (by rw [EIo.out]; exact hA1) EIa.out QL.out hn1)
                      clear hA1
                      by_cases heq : dAt d q = th
                      · have E2 := Lib.hid (show R1S (atI (insL cs) p) d p = (d, true) by rw [E1.out, TH.out, heq]; simp)
                        have heb : (dAt d q != th) = false := by simpa using heq
                        have hlow := Lib.hid (pend_gset F.out.low (p := p) (by rw [F.out.gl]; exact PC.out))
                        clear heq
                        generalize dAt d q = dd at *
                        go_wp2_with fail
                        go_meet
                        refine ⟨p, rfl, Nat.le_refl _, ?_, ?_, ?_, m0, m1⟩
                        · rw [E2.out]
                        · rw [E2.out]; exact HLC.out ▸ K5.out
                        · rw [E2.out]; exact hlow.out
                      · have E2 := Lib.hid (show R1S (atI (insL cs) p) d p = (d, false) by rw [E1.out, TH.out]; simp [heq])
                        have heb : (dAt d q != th) = true := by simpa using heq
                        have E := Lib.hid (show fitsS (insL cs) = (d, (p : Int)) by rw [FT.out, TG.out, E2.out]; rfl)
                        clear heq
                        generalize dAt d q = dd at *
                        go_wp2_with fail
                        go_ret2
                        have := FPost.wrong K5.out LO.out E.out
                        rw [HLC.out] at this
                        exact this
                  · have hAb : ((aK op : Int) == 1) = false := beq_eq_false_iff_ne.2 (by omega)
                    have E2 := Lib.hid (R1_no (x := atI (insL cs) p) (d := d) (p := p) (by rw [EIo.out]; exact hA1))
                    have hlow := Lib.hid (pend_gset F.out.low (p := p) (by rw [F.out.gl]; exact PC.out))
                    clear hA1
                    go_wp2_with fail
                    go_meet
                    refine ⟨p, rfl, Nat.le_refl _, ?_, ?_, ?_, m0, m1⟩
                    · rw [E2.out]
                    · rw [E2.out]; exact HLC.out ▸ K5.out
                    · rw [E2.out]; exact hlow.out
                case rest =>
                  obtain ⟨q, rfl, hqp, hR2, hK6, hlow6, n0, n1⟩ := hcut
                  have L1 := R1_len (atI (insL cs) p) d p
                  have DL := F.out.dl
                  generalize R1S (atI (insL cs) p) d p = R at *
                  obtain ⟨d1, b1⟩ := R
                  simp only at hR2 hK6 hlow6 L1
                  subst hR2
                  rw [DL, HLC.out] at L1
                  have hK6 := hK6
                  rw [HLC.out] at hK6
                  have K6 := Lib.hid hK6
                  have LOW := Lib.hid hlow6
                  have TG2 := Lib.hid (TG.out.trans (if_pos rfl))
                  have ldb6 := hK6.row.lt
                  clear hK6 hlow6 DL m0 m1 K5 K4 K3
                  by_cases ho1 : op = 1
                  · have hob : ((op : Int) != 1) = false := by rw [ho1]; rfl
                    have HT := Lib.hid (show throughS (atI (insL cs) p) d p = (d1, true) from TG2.out.trans (if_pos (by rw [EIo.out]; exact ho1)))
                    clear ho1
                    go_wp2_with fail
                    have FO := Lib.hid (F.out.on HR.out PC.out HY.out HK.out HT.out (q := q) (by have := PC.out; omega) LOW.out (HLC.out.symm ▸ K6.out.row) (HLC.out.symm ▸ K6.out.grow) K6.out.bel)
                    go_roundg (k' * ((insL cs).length + 1) + ((insL cs).length - q))
                    case measure => exact FO.out.2
                    case rel => exact ⟨q, d1, _, k', rfl, FO.out.1⟩
                  · have hob : ((op : Int) != 1) = true := by rw [bne_iff_ne]; omega
                    have TG3 := Lib.hid (TG2.out.trans (if_neg (by rw [EIo.out]; exact ho1)))
                    clear ho1
                    by_cases hend : p + 1 = n
                    · have heb : ((p : Int) + 1 == (n : Int)) = true := beq_iff_eq.2 (by omega)
                      have E := Lib.hid (show fitsS (insL cs) = (d1, (p : Int)) by rw [FT.out, TG3.out]; show (if (meetS d1 (p + 1) _).2 = true then _ else _) = _; rw [meetS_end (by omega)]; rfl)
                      clear hend
                      go_wp2_with fail
                      go_ret2
                      have := FPost.wrong K6.out LO.out E.out
                      exact this
                    · have heb : ((p : Int) + 1 == (n : Int)) = false := beq_eq_false_iff_ne.2 (by omega)
                      have hp1 : p + 1 < n := by omega
                      have dq := K6.out.row.cell hp1
                      have dfz := K6.out.row.frozen (p + 1)
                      simp only [dV] at dq
                      clear hend
                      by_cases hn1 : dAt d1 (p + 1) < 0
                      · have hnb : decide (dAt d1 (p + 1) < 0) = true := decide_eq_true hn1
                        have HT := Lib.hid (show throughS (atI (insL cs) p) d p = (d1.set (p + 1) nx, true) by rw [TG3.out, NX.out]; show meetS d1 (p + 1) nx = _; exact meetS_new (by omega) hn1)
                        have K7 := Lib.hid (K6.out.store NE.out LO.out (q := p + 1) (by omega) nx)
                        have LOW7 := Lib.hid (pend_set (v := nx) LOW.out (by omega : q ≤ p + 1) (by omega))
                        clear hn1
                        generalize dAt d1 (p + 1) = dd at *
                        go_wp2_with fail
                        have FO := Lib.hid (F.out.on HR.out PC.out HY.out HK.out HT.out (q := q) (by have := PC.out; omega) LOW7.out (HLC.out.symm ▸ K7.out.row) (HLC.out.symm ▸ K7.out.grow) K7.out.bel)
                        go_roundg (k' * ((insL cs).length + 1) + ((insL cs).length - q))
                        case measure => exact FO.out.2
                        case rel => exact ⟨q, _, _, k', rfl, FO.out.1⟩
                      · have hnb : decide (dAt d1 (p + 1) < 0) = false := decide_eq_false hn1
                        have TG4 := Lib.hid (show throughS (atI (insL cs) p) d p = (d1, dAt d1 (p + 1) == nx) by rw [TG3.out, NX.out]; show meetS d1 (p + 1) nx = _; exact meetS_old (by omega) hn1)
                        clear hn1
                        by_cases heq : dAt d1 (p + 1) = nx
                        · have HT := Lib.hid (show throughS (atI (insL cs) p) d p = (d1, true) by rw [TG4.out, heq]; simp)
                          have hqb : (dAt d1 (p + 1) != nx) = false := by simpa using heq
                          clear heq
                          generalize dAt d1 (p + 1) = dd at *
                          go_wp2_with fail
                          have FO := Lib.hid (F.out.on HR.out PC.out HY.out HK.out HT.out (q := q) (by have := PC.out; omega) LOW.out (HLC.out.symm ▸ K6.out.row) (HLC.out.symm ▸ K6.out.grow) K6.out.bel)
                          go_roundg (k' * ((insL cs).length + 1) + ((insL cs).length - q))
                          case measure => exact FO.out.2
                          case rel => exact ⟨q, d1, _, k', rfl, FO.out.1⟩
                        · have E := Lib.hid (show fitsS (insL cs) = (d1, (p : Int)) by rw [FT.out, TG4.out]; simp [heq])
                          have hqb : (dAt d1 (p + 1) != nx) = true := by simpa using heq
                          clear heq
                          generalize dAt d1 (p + 1) = dd at *
                          go_wp2_with fail
                          go_ret2
                          have := FPost.wrong K6.out LO.out E.out
                          exact this
          · have SK := Lib.hid (F.out.skip PC.out (by simpa using hy))
            have gg : ¬ dAt d p < 0 → gAt g p = true := fun h => by
              unfold pendB at hy
              rw [decide_eq_true (by omega : 0 ≤ dAt d p)] at hy
              simpa using hy
            clear hy
            by_cases hneg : dAt d p < 0
            · have hnb : decide (dAt d p < 0) = true := decide_eq_true hneg
              clear gg hneg
              generalize dAt d p = v at *
              go_wp2_with fail
              go_roundg (gk - 1)
              case measure => exact SK.out.2
              case rel => exact ⟨p + 1, d, g, k, by go_num, SK.out.1⟩
            · have hnb : decide (dAt d p < 0) = false := decide_eq_false hneg
              rw [gg hneg] at gp
              clear gg hneg
              generalize dAt d p = v at *
              go_wp2_with fail
              go_roundg (gk - 1)
              case measure => exact SK.out.2
              case rel => exact ⟨p + 1, d, g, k, by go_num, SK.out.1⟩
        · have E := Lib.hid (F.out.done (by have := HLC.out; omega))
          clear hkp
          go_wp2_with fail
          go_ret2
          exact FPost.fine KP.out LO.out E.out
end Go.Proofs.Ytefijgdbnjmifaa

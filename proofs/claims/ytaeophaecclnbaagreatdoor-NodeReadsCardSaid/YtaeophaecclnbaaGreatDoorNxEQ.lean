/- Reading parts of a question, walked. Printed by gen_nx.py. -/
import Derived.Deep.RegionHeld3
import Derived.RegionTactic
import Derived.Test.YtaeophaecclnbaaGreatDoorMgP
namespace Go.Proofs.YtaeophaecclnbaaGreatDoor
open Go.RowKit

theorem flagmk_any (m : Nat) (w : World) : Calls Tryz.prog 9 #[.int .u8 (m : Int)] w (Ret (.func (.func 33) #[] #[.pointer (some ⟨w.heap.size, 0, none⟩)]) (w.alloc (.cells #[.int .u8 (m : Int)] 5))) := by
  go_enter Tryz.func9, Tryz.ntmps9
  go_wp2
  go_ret
  exact ⟨rfl, rfl⟩
theorem flag_any {m fb : Nat} {w : World} (hfb : w.cell? ⟨fb, 0, none⟩ = some (.int .u8 (m : Int))) {A : Option Addr} {n cc : Nat} {l : List UInt8} (h : BS w A n cc l) :
    Calls Tryz.prog 33 #[.slice A n cc, .pointer (some ⟨fb, 0, none⟩)] w (RetB (.tuple #[.int .u8 (((flagS m l).1 : Nat) : Int), .int .i64 (((flagS m l).2.1 : Nat) : Int), .int .i64 (flagS m l).2.2]) w) := by
  have hl := h.len
  by_cases h0 : n = 0
  · have e : flagS m l = (0, 0, 4) := if_pos (by omega)
    rw [e]
    subst h0
    go_enter Tryz.func33, Tryz.ntmps33
    go_wp2_with fail
    go_ret3
    exact ⟨rfl, Below.refl _ _⟩
  · obtain ⟨b, off, rfl, hbl, hcell⟩ := h.bytes (by omega)
    have cb : w.cell? ⟨b, off, none⟩ = some (.int .u8 (byt l 0 : Int)) := by
      have := hcell 0 (by omega)
      rw [Nat.add_zero] at this
      exact this
    have hk8 := byt_lt l 0
    have hz : ((n : Int) == 0) = false := beq_eq_false_iff_ne.2 (by omega)
    by_cases hm : m < byt l 0
    · have e : flagS m l = (0, 0, 3) := (if_neg (by omega)).trans (if_pos hm)
      rw [e]
      clear hcell h e
      generalize byt l 0 = k at *
      go_enter Tryz.func33, Tryz.ntmps33
      go_wp2_with fail
      go_region
      go_wp2_with fail
      try go_region
      try go_wp2_with fail
      go_ret3
      exact ⟨rfl, by first | exact (Below.refl _ _).drew.drew | exact (Below.refl _ _).drew | exact Below.refl _ _⟩
    · have e : flagS m l = (byt l 0, 1, 0) := (if_neg (by omega)).trans (if_neg hm)
      rw [e]
      clear hcell h e
      generalize byt l 0 = k at *
      go_enter Tryz.func33, Tryz.ntmps33
      go_wp2_with fail
      go_region
      go_wp2_with fail
      try go_region
      try go_wp2_with fail
      go_ret3
      exact ⟨rfl, by first | exact (Below.refl _ _).drew.drew | exact (Below.refl _ _).drew | exact Below.refl _ _⟩
set_option maxRecDepth 100000 in
set_option maxHeartbeats 2000000 in
theorem nnext_text {w : World} {rb : Nat} {A : Option Addr} {n cc : Nat} {l : List UInt8} {p : Nat} {er : Int} (h : RE w rb A n cc l p er) :
    Calls Tryz.prog 10 #[.pointer (some ⟨rb, 0, none⟩), .func (.func 11) #[] #[]] w (fun e w' => e = .returned (.string (strB (nxV [] (textS) l ⟨p, er⟩))) ∧ GoE rb (nxS (textS) l ⟨p, er⟩).at_ (nxS (textS) l ⟨p, er⟩).e w w') := by
  obtain ⟨a, rfl⟩ := h.adr
  have R0 := Lib.hid (GoE.refl h)
  have c0 := h.c0
  have c1 := h.c1
  have c2 := h.c2
  have f1 := h.f1
  have f2 := h.f2
  have hle := h.le
  have hlt := h.lt
  have HBS := Lib.hid h.bs
  have hcap := h.bs.cap
  have hsm := h.bs.small
  have hcapb := h.bs.capb
  have hnil := h.bs.nil
  clear h
  by_cases hc : er = 0
  · subst hc
    rw [nxS_is rfl]
    dsimp only
    by_cases he : ((textS) (l.drop p)).2.2 = 0
    · rw [nxV_ok rfl he]
      dsimp only
      have he1 : (((textS) (l.drop p)).2.2 != 0) = false := by rw [he]; rfl
      by_cases hpc : cc = p
      · subst hpc
        obtain rfl : cc = n := by omega
        clear he
        have HS := Lib.hid (show ∀ w', Below w.heap.size w w' → w'.cell? ⟨rb, 0, none⟩ = some (.slice (some a) cc cc) ∧ w'.cell? ⟨rb, 1, none⟩ = some (.int .i64 cc) from fun w' hb => ⟨(hb.cell (p := ⟨rb, 0, none⟩) hlt).trans c0, (hb.cell (p := ⟨rb, 1, none⟩) hlt).trans c1⟩)
        go_enter Tryz.func10, Tryz.ntmps10
        go_wp2_with fail
        go_region_held3 (fun w' => w'.cell? ⟨rb, 0, none⟩ = some (.slice (some a) cc cc) ∧ w'.cell? ⟨rb, 1, none⟩ = some (.int .i64 cc)) (first | exact HS.out _ (Below.refl _ _).drew | exact HS.out _ (bthen (Below.refl _ _).drew (by assumption))) (first | (go_at_call 11; refine (ctext_any (bs_end (HBS.out.below (Below.refl _ w).drew) rfl)).mono ?_; rintro e w1 ⟨rfl, hb⟩))
        replace hb := bthen (Below.refl _ w).drew hb
        have hq : ((textS) (l.drop cc)).2.1 ≤ cc - cc := by have := (text_pos : (textS (l.drop cc)).2.1 ≤ (l.drop cc).length); rw [List.length_drop, HBS.out.len] at this; omega
        have hw1 : IntKind.i64.wrap ((cc : Int) + (((textS) (l.drop cc)).2.1 : Int)) = (cc : Int) + (((textS) (l.drop cc)).2.1 : Int) := IntWalk.i64_in _ (by omega)
        have d1 := (hb.cell (p := ⟨rb, 1, none⟩) hlt).trans c1
        have d2 := (hb.cell (p := ⟨rb, 2, none⟩) hlt).trans c2
        have g1 := (hb.frozen (p := ⟨rb, 1, none⟩) hlt).trans f1
        have g2 := (hb.frozen (p := ⟨rb, 2, none⟩) hlt).trans f2
        have HG := Lib.hid (GoE.ahead hb hlt (GoE.store (q := cc + ((textS) (l.drop cc)).2.1) (er' := ((textS) (l.drop cc)).2.2) d1 d2 ((cc : Int) + (((textS) (l.drop cc)).2.1 : Int)) (by omega)))
        clear hb
        go_wp2_with fail
        go_ret
        exact ⟨rfl, HG.out⟩
      · clear he
        have HS := Lib.hid (show ∀ w', Below w.heap.size w w' → w'.cell? ⟨rb, 0, none⟩ = some (.slice (some a) n cc) ∧ w'.cell? ⟨rb, 1, none⟩ = some (.int .i64 p) from fun w' hb => ⟨(hb.cell (p := ⟨rb, 0, none⟩) hlt).trans c0, (hb.cell (p := ⟨rb, 1, none⟩) hlt).trans c1⟩)
        go_enter Tryz.func10, Tryz.ntmps10
        go_wp2_with fail
        go_region_held3 (fun w' => w'.cell? ⟨rb, 0, none⟩ = some (.slice (some a) n cc) ∧ w'.cell? ⟨rb, 1, none⟩ = some (.int .i64 p)) (first | exact HS.out _ (Below.refl _ _).drew | exact HS.out _ (bthen (Below.refl _ _).drew (by assumption))) (first | (go_at_call 11; refine (ctext_any (bs_drop (HBS.out.below (Below.refl _ w).drew) hle)).mono ?_; rintro e w1 ⟨rfl, hb⟩))
        replace hb := bthen (Below.refl _ w).drew hb
        have hq : ((textS) (l.drop p)).2.1 ≤ n - p := by have := (text_pos : (textS (l.drop p)).2.1 ≤ (l.drop p).length); rw [List.length_drop, HBS.out.len] at this; omega
        have hw1 : IntKind.i64.wrap ((p : Int) + (((textS) (l.drop p)).2.1 : Int)) = (p : Int) + (((textS) (l.drop p)).2.1 : Int) := IntWalk.i64_in _ (by omega)
        have d1 := (hb.cell (p := ⟨rb, 1, none⟩) hlt).trans c1
        have d2 := (hb.cell (p := ⟨rb, 2, none⟩) hlt).trans c2
        have g1 := (hb.frozen (p := ⟨rb, 1, none⟩) hlt).trans f1
        have g2 := (hb.frozen (p := ⟨rb, 2, none⟩) hlt).trans f2
        have HG := Lib.hid (GoE.ahead hb hlt (GoE.store (q := p + ((textS) (l.drop p)).2.1) (er' := ((textS) (l.drop p)).2.2) d1 d2 ((p : Int) + (((textS) (l.drop p)).2.1 : Int)) (by omega)))
        clear hb
        go_wp2_with fail
        go_ret
        exact ⟨rfl, HG.out⟩
    · rw [nxV_bad rfl he]
      have he1 : (((textS) (l.drop p)).2.2 != 0) = true := bne_iff_ne.2 he
      by_cases hpc : cc = p
      · subst hpc
        obtain rfl : cc = n := by omega
        clear he
        have HS := Lib.hid (show ∀ w', Below w.heap.size w w' → w'.cell? ⟨rb, 0, none⟩ = some (.slice (some a) cc cc) ∧ w'.cell? ⟨rb, 1, none⟩ = some (.int .i64 cc) from fun w' hb => ⟨(hb.cell (p := ⟨rb, 0, none⟩) hlt).trans c0, (hb.cell (p := ⟨rb, 1, none⟩) hlt).trans c1⟩)
        go_enter Tryz.func10, Tryz.ntmps10
        go_wp2_with fail
        go_region_held3 (fun w' => w'.cell? ⟨rb, 0, none⟩ = some (.slice (some a) cc cc) ∧ w'.cell? ⟨rb, 1, none⟩ = some (.int .i64 cc)) (first | exact HS.out _ (Below.refl _ _).drew | exact HS.out _ (bthen (Below.refl _ _).drew (by assumption))) (first | (go_at_call 11; refine (ctext_any (bs_end (HBS.out.below (Below.refl _ w).drew) rfl)).mono ?_; rintro e w1 ⟨rfl, hb⟩))
        replace hb := bthen (Below.refl _ w).drew hb
        have hq : ((textS) (l.drop cc)).2.1 ≤ cc - cc := by have := (text_pos : (textS (l.drop cc)).2.1 ≤ (l.drop cc).length); rw [List.length_drop, HBS.out.len] at this; omega
        have hw1 : IntKind.i64.wrap ((cc : Int) + (((textS) (l.drop cc)).2.1 : Int)) = (cc : Int) + (((textS) (l.drop cc)).2.1 : Int) := IntWalk.i64_in _ (by omega)
        have d1 := (hb.cell (p := ⟨rb, 1, none⟩) hlt).trans c1
        have d2 := (hb.cell (p := ⟨rb, 2, none⟩) hlt).trans c2
        have g1 := (hb.frozen (p := ⟨rb, 1, none⟩) hlt).trans f1
        have g2 := (hb.frozen (p := ⟨rb, 2, none⟩) hlt).trans f2
        have HG := Lib.hid (GoE.ahead hb hlt (GoE.store (q := cc + ((textS) (l.drop cc)).2.1) (er' := ((textS) (l.drop cc)).2.2) d1 d2 ((cc : Int) + (((textS) (l.drop cc)).2.1 : Int)) (by omega)))
        clear hb
        go_wp2_with fail
        go_ret
        exact ⟨rfl, HG.out⟩
      · clear he
        have HS := Lib.hid (show ∀ w', Below w.heap.size w w' → w'.cell? ⟨rb, 0, none⟩ = some (.slice (some a) n cc) ∧ w'.cell? ⟨rb, 1, none⟩ = some (.int .i64 p) from fun w' hb => ⟨(hb.cell (p := ⟨rb, 0, none⟩) hlt).trans c0, (hb.cell (p := ⟨rb, 1, none⟩) hlt).trans c1⟩)
        go_enter Tryz.func10, Tryz.ntmps10
        go_wp2_with fail
        go_region_held3 (fun w' => w'.cell? ⟨rb, 0, none⟩ = some (.slice (some a) n cc) ∧ w'.cell? ⟨rb, 1, none⟩ = some (.int .i64 p)) (first | exact HS.out _ (Below.refl _ _).drew | exact HS.out _ (bthen (Below.refl _ _).drew (by assumption))) (first | (go_at_call 11; refine (ctext_any (bs_drop (HBS.out.below (Below.refl _ w).drew) hle)).mono ?_; rintro e w1 ⟨rfl, hb⟩))
        replace hb := bthen (Below.refl _ w).drew hb
        have hq : ((textS) (l.drop p)).2.1 ≤ n - p := by have := (text_pos : (textS (l.drop p)).2.1 ≤ (l.drop p).length); rw [List.length_drop, HBS.out.len] at this; omega
        have hw1 : IntKind.i64.wrap ((p : Int) + (((textS) (l.drop p)).2.1 : Int)) = (p : Int) + (((textS) (l.drop p)).2.1 : Int) := IntWalk.i64_in _ (by omega)
        have d1 := (hb.cell (p := ⟨rb, 1, none⟩) hlt).trans c1
        have d2 := (hb.cell (p := ⟨rb, 2, none⟩) hlt).trans c2
        have g1 := (hb.frozen (p := ⟨rb, 1, none⟩) hlt).trans f1
        have g2 := (hb.frozen (p := ⟨rb, 2, none⟩) hlt).trans f2
        have HG := Lib.hid (GoE.ahead hb hlt (GoE.store (q := p + ((textS) (l.drop p)).2.1) (er' := ((textS) (l.drop p)).2.2) d1 d2 ((p : Int) + (((textS) (l.drop p)).2.1 : Int)) (by omega)))
        clear hb
        go_wp2_with fail
        go_ret
        exact ⟨rfl, HG.out⟩
  · rw [nxS_no hc, nxV_no hc]
    have he : (er != 0) = true := bne_iff_ne.2 hc
    go_enter Tryz.func10, Tryz.ntmps10
    go_wp2_with fail
    go_ret
    exact ⟨rfl, R0.out⟩
set_option maxRecDepth 100000 in
set_option maxHeartbeats 2000000 in
theorem nnext_int {w : World} {rb : Nat} {A : Option Addr} {n cc : Nat} {l : List UInt8} {p : Nat} {er : Int} (h : RE w rb A n cc l p er) :
    Calls Tryz.prog 12 #[.pointer (some ⟨rb, 0, none⟩), .func (.func 13) #[] #[]] w (fun e w' => e = .returned (.int .i64 (nxV 0 (intS) l ⟨p, er⟩)) ∧ GoE rb (nxS (intS) l ⟨p, er⟩).at_ (nxS (intS) l ⟨p, er⟩).e w w') := by
  obtain ⟨a, rfl⟩ := h.adr
  have R0 := Lib.hid (GoE.refl h)
  have c0 := h.c0
  have c1 := h.c1
  have c2 := h.c2
  have f1 := h.f1
  have f2 := h.f2
  have hle := h.le
  have hlt := h.lt
  have HBS := Lib.hid h.bs
  have hcap := h.bs.cap
  have hsm := h.bs.small
  have hcapb := h.bs.capb
  have hnil := h.bs.nil
  clear h
  by_cases hc : er = 0
  · subst hc
    rw [nxS_is rfl]
    dsimp only
    by_cases he : ((intS) (l.drop p)).2.2 = 0
    · rw [nxV_ok rfl he]
      dsimp only
      have he1 : (((intS) (l.drop p)).2.2 != 0) = false := by rw [he]; rfl
      by_cases hpc : cc = p
      · subst hpc
        obtain rfl : cc = n := by omega
        clear he
        have HS := Lib.hid (show ∀ w', Below w.heap.size w w' → w'.cell? ⟨rb, 0, none⟩ = some (.slice (some a) cc cc) ∧ w'.cell? ⟨rb, 1, none⟩ = some (.int .i64 cc) from fun w' hb => ⟨(hb.cell (p := ⟨rb, 0, none⟩) hlt).trans c0, (hb.cell (p := ⟨rb, 1, none⟩) hlt).trans c1⟩)
        go_enter Tryz.func12, Tryz.ntmps12
        go_wp2_with fail
        go_region_held3 (fun w' => w'.cell? ⟨rb, 0, none⟩ = some (.slice (some a) cc cc) ∧ w'.cell? ⟨rb, 1, none⟩ = some (.int .i64 cc)) (first | exact HS.out _ (Below.refl _ _).drew | exact HS.out _ (bthen (Below.refl _ _).drew (by assumption))) (first | (go_at_call 13; refine (cintS_any (bs_end (HBS.out.below (Below.refl _ w).drew) rfl)).mono ?_; rintro e w1 ⟨rfl, hb⟩))
        replace hb := bthen (Below.refl _ w).drew hb
        have hq : ((intS) (l.drop cc)).2.1 ≤ cc - cc := by have := int_pos (l.drop cc); rw [List.length_drop, HBS.out.len] at this; omega
        have hw1 : IntKind.i64.wrap ((cc : Int) + (((intS) (l.drop cc)).2.1 : Int)) = (cc : Int) + (((intS) (l.drop cc)).2.1 : Int) := IntWalk.i64_in _ (by omega)
        have d1 := (hb.cell (p := ⟨rb, 1, none⟩) hlt).trans c1
        have d2 := (hb.cell (p := ⟨rb, 2, none⟩) hlt).trans c2
        have g1 := (hb.frozen (p := ⟨rb, 1, none⟩) hlt).trans f1
        have g2 := (hb.frozen (p := ⟨rb, 2, none⟩) hlt).trans f2
        have HG := Lib.hid (GoE.ahead hb hlt (GoE.store (q := cc + ((intS) (l.drop cc)).2.1) (er' := ((intS) (l.drop cc)).2.2) d1 d2 ((cc : Int) + (((intS) (l.drop cc)).2.1 : Int)) (by omega)))
        clear hb
        go_wp2_with fail
        go_ret
        exact ⟨rfl, HG.out⟩
      · clear he
        have HS := Lib.hid (show ∀ w', Below w.heap.size w w' → w'.cell? ⟨rb, 0, none⟩ = some (.slice (some a) n cc) ∧ w'.cell? ⟨rb, 1, none⟩ = some (.int .i64 p) from fun w' hb => ⟨(hb.cell (p := ⟨rb, 0, none⟩) hlt).trans c0, (hb.cell (p := ⟨rb, 1, none⟩) hlt).trans c1⟩)
        go_enter Tryz.func12, Tryz.ntmps12
        go_wp2_with fail
        go_region_held3 (fun w' => w'.cell? ⟨rb, 0, none⟩ = some (.slice (some a) n cc) ∧ w'.cell? ⟨rb, 1, none⟩ = some (.int .i64 p)) (first | exact HS.out _ (Below.refl _ _).drew | exact HS.out _ (bthen (Below.refl _ _).drew (by assumption))) (first | (go_at_call 13; refine (cintS_any (bs_drop (HBS.out.below (Below.refl _ w).drew) hle)).mono ?_; rintro e w1 ⟨rfl, hb⟩))
        replace hb := bthen (Below.refl _ w).drew hb
        have hq : ((intS) (l.drop p)).2.1 ≤ n - p := by have := int_pos (l.drop p); rw [List.length_drop, HBS.out.len] at this; omega
        have hw1 : IntKind.i64.wrap ((p : Int) + (((intS) (l.drop p)).2.1 : Int)) = (p : Int) + (((intS) (l.drop p)).2.1 : Int) := IntWalk.i64_in _ (by omega)
        have d1 := (hb.cell (p := ⟨rb, 1, none⟩) hlt).trans c1
        have d2 := (hb.cell (p := ⟨rb, 2, none⟩) hlt).trans c2
        have g1 := (hb.frozen (p := ⟨rb, 1, none⟩) hlt).trans f1
        have g2 := (hb.frozen (p := ⟨rb, 2, none⟩) hlt).trans f2
        have HG := Lib.hid (GoE.ahead hb hlt (GoE.store (q := p + ((intS) (l.drop p)).2.1) (er' := ((intS) (l.drop p)).2.2) d1 d2 ((p : Int) + (((intS) (l.drop p)).2.1 : Int)) (by omega)))
        clear hb
        go_wp2_with fail
        go_ret
        exact ⟨rfl, HG.out⟩
    · rw [nxV_bad rfl he]
      have he1 : (((intS) (l.drop p)).2.2 != 0) = true := bne_iff_ne.2 he
      by_cases hpc : cc = p
      · subst hpc
        obtain rfl : cc = n := by omega
        clear he
        have HS := Lib.hid (show ∀ w', Below w.heap.size w w' → w'.cell? ⟨rb, 0, none⟩ = some (.slice (some a) cc cc) ∧ w'.cell? ⟨rb, 1, none⟩ = some (.int .i64 cc) from fun w' hb => ⟨(hb.cell (p := ⟨rb, 0, none⟩) hlt).trans c0, (hb.cell (p := ⟨rb, 1, none⟩) hlt).trans c1⟩)
        go_enter Tryz.func12, Tryz.ntmps12
        go_wp2_with fail
        go_region_held3 (fun w' => w'.cell? ⟨rb, 0, none⟩ = some (.slice (some a) cc cc) ∧ w'.cell? ⟨rb, 1, none⟩ = some (.int .i64 cc)) (first | exact HS.out _ (Below.refl _ _).drew | exact HS.out _ (bthen (Below.refl _ _).drew (by assumption))) (first | (go_at_call 13; refine (cintS_any (bs_end (HBS.out.below (Below.refl _ w).drew) rfl)).mono ?_; rintro e w1 ⟨rfl, hb⟩))
        replace hb := bthen (Below.refl _ w).drew hb
        have hq : ((intS) (l.drop cc)).2.1 ≤ cc - cc := by have := int_pos (l.drop cc); rw [List.length_drop, HBS.out.len] at this; omega
        have hw1 : IntKind.i64.wrap ((cc : Int) + (((intS) (l.drop cc)).2.1 : Int)) = (cc : Int) + (((intS) (l.drop cc)).2.1 : Int) := IntWalk.i64_in _ (by omega)
        have d1 := (hb.cell (p := ⟨rb, 1, none⟩) hlt).trans c1
        have d2 := (hb.cell (p := ⟨rb, 2, none⟩) hlt).trans c2
        have g1 := (hb.frozen (p := ⟨rb, 1, none⟩) hlt).trans f1
        have g2 := (hb.frozen (p := ⟨rb, 2, none⟩) hlt).trans f2
        have HG := Lib.hid (GoE.ahead hb hlt (GoE.store (q := cc + ((intS) (l.drop cc)).2.1) (er' := ((intS) (l.drop cc)).2.2) d1 d2 ((cc : Int) + (((intS) (l.drop cc)).2.1 : Int)) (by omega)))
        clear hb
        go_wp2_with fail
        go_ret
        exact ⟨rfl, HG.out⟩
      · clear he
        have HS := Lib.hid (show ∀ w', Below w.heap.size w w' → w'.cell? ⟨rb, 0, none⟩ = some (.slice (some a) n cc) ∧ w'.cell? ⟨rb, 1, none⟩ = some (.int .i64 p) from fun w' hb => ⟨(hb.cell (p := ⟨rb, 0, none⟩) hlt).trans c0, (hb.cell (p := ⟨rb, 1, none⟩) hlt).trans c1⟩)
        go_enter Tryz.func12, Tryz.ntmps12
        go_wp2_with fail
        go_region_held3 (fun w' => w'.cell? ⟨rb, 0, none⟩ = some (.slice (some a) n cc) ∧ w'.cell? ⟨rb, 1, none⟩ = some (.int .i64 p)) (first | exact HS.out _ (Below.refl _ _).drew | exact HS.out _ (bthen (Below.refl _ _).drew (by assumption))) (first | (go_at_call 13; refine (cintS_any (bs_drop (HBS.out.below (Below.refl _ w).drew) hle)).mono ?_; rintro e w1 ⟨rfl, hb⟩))
        replace hb := bthen (Below.refl _ w).drew hb
        have hq : ((intS) (l.drop p)).2.1 ≤ n - p := by have := int_pos (l.drop p); rw [List.length_drop, HBS.out.len] at this; omega
        have hw1 : IntKind.i64.wrap ((p : Int) + (((intS) (l.drop p)).2.1 : Int)) = (p : Int) + (((intS) (l.drop p)).2.1 : Int) := IntWalk.i64_in _ (by omega)
        have d1 := (hb.cell (p := ⟨rb, 1, none⟩) hlt).trans c1
        have d2 := (hb.cell (p := ⟨rb, 2, none⟩) hlt).trans c2
        have g1 := (hb.frozen (p := ⟨rb, 1, none⟩) hlt).trans f1
        have g2 := (hb.frozen (p := ⟨rb, 2, none⟩) hlt).trans f2
        have HG := Lib.hid (GoE.ahead hb hlt (GoE.store (q := p + ((intS) (l.drop p)).2.1) (er' := ((intS) (l.drop p)).2.2) d1 d2 ((p : Int) + (((intS) (l.drop p)).2.1 : Int)) (by omega)))
        clear hb
        go_wp2_with fail
        go_ret
        exact ⟨rfl, HG.out⟩
  · rw [nxS_no hc, nxV_no hc]
    have he : (er != 0) = true := bne_iff_ne.2 hc
    go_enter Tryz.func12, Tryz.ntmps12
    go_wp2_with fail
    go_ret
    exact ⟨rfl, R0.out⟩
set_option maxRecDepth 100000 in
set_option maxHeartbeats 2000000 in
theorem nnext_value {w : World} {rb : Nat} {A : Option Addr} {n cc : Nat} {l : List UInt8} {p : Nat} {er : Int} (h : RE w rb A n cc l p er) :
    Calls Tryz.prog 14 #[.pointer (some ⟨rb, 0, none⟩), .func (.func 15) #[] #[]] w (fun e w' => VNx (nxV [] (vlS) l ⟨p, er⟩) rb (nxS (vlS) l ⟨p, er⟩).at_ (nxS (vlS) l ⟨p, er⟩).e w e w') := by
  obtain ⟨a, rfl⟩ := h.adr
  have R0 := Lib.hid (GoE.refl h)
  have c0 := h.c0
  have c1 := h.c1
  have c2 := h.c2
  have f1 := h.f1
  have f2 := h.f2
  have hle := h.le
  have hlt := h.lt
  have HBS := Lib.hid h.bs
  have hcap := h.bs.cap
  have hsm := h.bs.small
  have hcapb := h.bs.capb
  have hnil := h.bs.nil
  clear h
  by_cases hc : er = 0
  · subst hc
    rw [nxS_is rfl]
    dsimp only
    by_cases he : ((vlS) (l.drop p)).2.2 = 0
    · rw [nxV_ok rfl he]
      dsimp only
      have he1 : (((vlS) (l.drop p)).2.2 != 0) = false := by rw [he]; rfl
      by_cases hpc : cc = p
      · subst hpc
        obtain rfl : cc = n := by omega
        clear he
        have HS := Lib.hid (show ∀ w', Below w.heap.size w w' → w'.cell? ⟨rb, 0, none⟩ = some (.slice (some a) cc cc) ∧ w'.cell? ⟨rb, 1, none⟩ = some (.int .i64 cc) from fun w' hb => ⟨(hb.cell (p := ⟨rb, 0, none⟩) hlt).trans c0, (hb.cell (p := ⟨rb, 1, none⟩) hlt).trans c1⟩)
        go_enter Tryz.func14, Tryz.ntmps14
        go_wp2_with fail
        go_region_held3 (fun w' => w'.cell? ⟨rb, 0, none⟩ = some (.slice (some a) cc cc) ∧ w'.cell? ⟨rb, 1, none⟩ = some (.int .i64 cc)) (first | exact HS.out _ (Below.refl _ _).drew | exact HS.out _ (bthen (Below.refl _ _).drew (by assumption))) (first | (go_at_call 15; refine (cvalue_any (bs_end (HBS.out.below (Below.refl _ w).drew) rfl)).mono ?_; rintro e w1 ⟨A', c', rfl, hn, hf, hb⟩))
        replace hb := bthen (Below.refl _ w).drew hb
        have hq : ((vlS) (l.drop cc)).2.1 ≤ cc - cc := by have := (valR (l.drop cc)).to; rw [List.length_drop, HBS.out.len] at this; omega
        have hw1 : IntKind.i64.wrap ((cc : Int) + (((vlS) (l.drop cc)).2.1 : Int)) = (cc : Int) + (((vlS) (l.drop cc)).2.1 : Int) := IntWalk.i64_in _ (by omega)
        have d1 := (hb.cell (p := ⟨rb, 1, none⟩) hlt).trans c1
        have d2 := (hb.cell (p := ⟨rb, 2, none⟩) hlt).trans c2
        have g1 := (hb.frozen (p := ⟨rb, 1, none⟩) hlt).trans f1
        have g2 := (hb.frozen (p := ⟨rb, 2, none⟩) hlt).trans f2
        have gs := GoE.store (q := cc + ((vlS) (l.drop cc)).2.1) (er' := ((vlS) (l.drop cc)).2.2) d1 d2 ((cc : Int) + (((vlS) (l.drop cc)).2.1 : Int)) (by omega)
        have HG := Lib.hid (And.intro (hn.go hf hlt gs) (And.intro hf (GoE.ahead hb hlt gs)))
        have HGN := Lib.hid (GoE.ahead hb hlt gs)
        clear hb hn hf gs
        go_wp2_with fail
        go_ret
        exact ⟨A', c', rfl, HG.out⟩
      · clear he
        have HS := Lib.hid (show ∀ w', Below w.heap.size w w' → w'.cell? ⟨rb, 0, none⟩ = some (.slice (some a) n cc) ∧ w'.cell? ⟨rb, 1, none⟩ = some (.int .i64 p) from fun w' hb => ⟨(hb.cell (p := ⟨rb, 0, none⟩) hlt).trans c0, (hb.cell (p := ⟨rb, 1, none⟩) hlt).trans c1⟩)
        go_enter Tryz.func14, Tryz.ntmps14
        go_wp2_with fail
        go_region_held3 (fun w' => w'.cell? ⟨rb, 0, none⟩ = some (.slice (some a) n cc) ∧ w'.cell? ⟨rb, 1, none⟩ = some (.int .i64 p)) (first | exact HS.out _ (Below.refl _ _).drew | exact HS.out _ (bthen (Below.refl _ _).drew (by assumption))) (first | (go_at_call 15; refine (cvalue_any (bs_drop (HBS.out.below (Below.refl _ w).drew) hle)).mono ?_; rintro e w1 ⟨A', c', rfl, hn, hf, hb⟩))
        replace hb := bthen (Below.refl _ w).drew hb
        have hq : ((vlS) (l.drop p)).2.1 ≤ n - p := by have := (valR (l.drop p)).to; rw [List.length_drop, HBS.out.len] at this; omega
        have hw1 : IntKind.i64.wrap ((p : Int) + (((vlS) (l.drop p)).2.1 : Int)) = (p : Int) + (((vlS) (l.drop p)).2.1 : Int) := IntWalk.i64_in _ (by omega)
        have d1 := (hb.cell (p := ⟨rb, 1, none⟩) hlt).trans c1
        have d2 := (hb.cell (p := ⟨rb, 2, none⟩) hlt).trans c2
        have g1 := (hb.frozen (p := ⟨rb, 1, none⟩) hlt).trans f1
        have g2 := (hb.frozen (p := ⟨rb, 2, none⟩) hlt).trans f2
        have gs := GoE.store (q := p + ((vlS) (l.drop p)).2.1) (er' := ((vlS) (l.drop p)).2.2) d1 d2 ((p : Int) + (((vlS) (l.drop p)).2.1 : Int)) (by omega)
        have HG := Lib.hid (And.intro (hn.go hf hlt gs) (And.intro hf (GoE.ahead hb hlt gs)))
        have HGN := Lib.hid (GoE.ahead hb hlt gs)
        clear hb hn hf gs
        go_wp2_with fail
        go_ret
        exact ⟨A', c', rfl, HG.out⟩
    · rw [nxV_bad rfl he]
      have he1 : (((vlS) (l.drop p)).2.2 != 0) = true := bne_iff_ne.2 he
      by_cases hpc : cc = p
      · subst hpc
        obtain rfl : cc = n := by omega
        clear he
        have HS := Lib.hid (show ∀ w', Below w.heap.size w w' → w'.cell? ⟨rb, 0, none⟩ = some (.slice (some a) cc cc) ∧ w'.cell? ⟨rb, 1, none⟩ = some (.int .i64 cc) from fun w' hb => ⟨(hb.cell (p := ⟨rb, 0, none⟩) hlt).trans c0, (hb.cell (p := ⟨rb, 1, none⟩) hlt).trans c1⟩)
        go_enter Tryz.func14, Tryz.ntmps14
        go_wp2_with fail
        go_region_held3 (fun w' => w'.cell? ⟨rb, 0, none⟩ = some (.slice (some a) cc cc) ∧ w'.cell? ⟨rb, 1, none⟩ = some (.int .i64 cc)) (first | exact HS.out _ (Below.refl _ _).drew | exact HS.out _ (bthen (Below.refl _ _).drew (by assumption))) (first | (go_at_call 15; refine (cvalue_any (bs_end (HBS.out.below (Below.refl _ w).drew) rfl)).mono ?_; rintro e w1 ⟨A', c', rfl, hn, hf, hb⟩))
        replace hb := bthen (Below.refl _ w).drew hb
        have hq : ((vlS) (l.drop cc)).2.1 ≤ cc - cc := by have := (valR (l.drop cc)).to; rw [List.length_drop, HBS.out.len] at this; omega
        have hw1 : IntKind.i64.wrap ((cc : Int) + (((vlS) (l.drop cc)).2.1 : Int)) = (cc : Int) + (((vlS) (l.drop cc)).2.1 : Int) := IntWalk.i64_in _ (by omega)
        have d1 := (hb.cell (p := ⟨rb, 1, none⟩) hlt).trans c1
        have d2 := (hb.cell (p := ⟨rb, 2, none⟩) hlt).trans c2
        have g1 := (hb.frozen (p := ⟨rb, 1, none⟩) hlt).trans f1
        have g2 := (hb.frozen (p := ⟨rb, 2, none⟩) hlt).trans f2
        have gs := GoE.store (q := cc + ((vlS) (l.drop cc)).2.1) (er' := ((vlS) (l.drop cc)).2.2) d1 d2 ((cc : Int) + (((vlS) (l.drop cc)).2.1 : Int)) (by omega)
        have HG := Lib.hid (And.intro (hn.go hf hlt gs) (And.intro hf (GoE.ahead hb hlt gs)))
        have HGN := Lib.hid (GoE.ahead hb hlt gs)
        clear hb hn hf gs
        go_wp2_with fail
        go_ret
        exact ⟨none, 0, rfl, NodesIn.nil, Far.nil, HGN.out⟩
      · clear he
        have HS := Lib.hid (show ∀ w', Below w.heap.size w w' → w'.cell? ⟨rb, 0, none⟩ = some (.slice (some a) n cc) ∧ w'.cell? ⟨rb, 1, none⟩ = some (.int .i64 p) from fun w' hb => ⟨(hb.cell (p := ⟨rb, 0, none⟩) hlt).trans c0, (hb.cell (p := ⟨rb, 1, none⟩) hlt).trans c1⟩)
        go_enter Tryz.func14, Tryz.ntmps14
        go_wp2_with fail
        go_region_held3 (fun w' => w'.cell? ⟨rb, 0, none⟩ = some (.slice (some a) n cc) ∧ w'.cell? ⟨rb, 1, none⟩ = some (.int .i64 p)) (first | exact HS.out _ (Below.refl _ _).drew | exact HS.out _ (bthen (Below.refl _ _).drew (by assumption))) (first | (go_at_call 15; refine (cvalue_any (bs_drop (HBS.out.below (Below.refl _ w).drew) hle)).mono ?_; rintro e w1 ⟨A', c', rfl, hn, hf, hb⟩))
        replace hb := bthen (Below.refl _ w).drew hb
        have hq : ((vlS) (l.drop p)).2.1 ≤ n - p := by have := (valR (l.drop p)).to; rw [List.length_drop, HBS.out.len] at this; omega
        have hw1 : IntKind.i64.wrap ((p : Int) + (((vlS) (l.drop p)).2.1 : Int)) = (p : Int) + (((vlS) (l.drop p)).2.1 : Int) := IntWalk.i64_in _ (by omega)
        have d1 := (hb.cell (p := ⟨rb, 1, none⟩) hlt).trans c1
        have d2 := (hb.cell (p := ⟨rb, 2, none⟩) hlt).trans c2
        have g1 := (hb.frozen (p := ⟨rb, 1, none⟩) hlt).trans f1
        have g2 := (hb.frozen (p := ⟨rb, 2, none⟩) hlt).trans f2
        have gs := GoE.store (q := p + ((vlS) (l.drop p)).2.1) (er' := ((vlS) (l.drop p)).2.2) d1 d2 ((p : Int) + (((vlS) (l.drop p)).2.1 : Int)) (by omega)
        have HG := Lib.hid (And.intro (hn.go hf hlt gs) (And.intro hf (GoE.ahead hb hlt gs)))
        have HGN := Lib.hid (GoE.ahead hb hlt gs)
        clear hb hn hf gs
        go_wp2_with fail
        go_ret
        exact ⟨none, 0, rfl, NodesIn.nil, Far.nil, HGN.out⟩
  · rw [nxS_no hc, nxV_no hc]
    have he : (er != 0) = true := bne_iff_ne.2 hc
    go_enter Tryz.func14, Tryz.ntmps14
    go_wp2_with fail
    go_ret
    exact ⟨none, 0, rfl, NodesIn.nil, Far.nil, R0.out⟩
set_option maxRecDepth 100000 in
set_option maxHeartbeats 2000000 in
theorem nnext_events {w : World} {rb : Nat} {A : Option Addr} {n cc : Nat} {l : List UInt8} {p : Nat} {er : Int} (h : RE w rb A n cc l p er) :
    Calls Tryz.prog 16 #[.pointer (some ⟨rb, 0, none⟩), .func (.func 17) #[] #[]] w (fun e w' => ENx (nxV [] (histS) l ⟨p, er⟩) rb (nxS (histS) l ⟨p, er⟩).at_ (nxS (histS) l ⟨p, er⟩).e w e w') := by
  obtain ⟨a, rfl⟩ := h.adr
  have R0 := Lib.hid (GoE.refl h)
  have c0 := h.c0
  have c1 := h.c1
  have c2 := h.c2
  have f1 := h.f1
  have f2 := h.f2
  have hle := h.le
  have hlt := h.lt
  have HBS := Lib.hid h.bs
  have hcap := h.bs.cap
  have hsm := h.bs.small
  have hcapb := h.bs.capb
  have hnil := h.bs.nil
  clear h
  by_cases hc : er = 0
  · subst hc
    rw [nxS_is rfl]
    dsimp only
    by_cases he : ((histS) (l.drop p)).2.2 = 0
    · rw [nxV_ok rfl he]
      dsimp only
      have he1 : (((histS) (l.drop p)).2.2 != 0) = false := by rw [he]; rfl
      by_cases hpc : cc = p
      · subst hpc
        obtain rfl : cc = n := by omega
        clear he
        have HS := Lib.hid (show ∀ w', Below w.heap.size w w' → w'.cell? ⟨rb, 0, none⟩ = some (.slice (some a) cc cc) ∧ w'.cell? ⟨rb, 1, none⟩ = some (.int .i64 cc) from fun w' hb => ⟨(hb.cell (p := ⟨rb, 0, none⟩) hlt).trans c0, (hb.cell (p := ⟨rb, 1, none⟩) hlt).trans c1⟩)
        go_enter Tryz.func16, Tryz.ntmps16
        go_wp2_with fail
        go_region_held3 (fun w' => w'.cell? ⟨rb, 0, none⟩ = some (.slice (some a) cc cc) ∧ w'.cell? ⟨rb, 1, none⟩ = some (.int .i64 cc)) (first | exact HS.out _ (Below.refl _ _).drew | exact HS.out _ (bthen (Below.refl _ _).drew (by assumption))) (first | (go_at_call 17; refine (hunpack_at (bs_end (HBS.out.below (Below.refl _ w).drew) rfl)).mono ?_; rintro e w1 ⟨A', c', rfl, hn, hb⟩))
        replace hb := bthen (Below.refl _ w).drew hb
        have hq : ((histS) (l.drop cc)).2.1 ≤ cc - cc := by have := hist_pos (l := l.drop cc) (by rw [List.length_drop, HBS.out.len]; omega); rw [List.length_drop, HBS.out.len] at this; omega
        have hw1 : IntKind.i64.wrap ((cc : Int) + (((histS) (l.drop cc)).2.1 : Int)) = (cc : Int) + (((histS) (l.drop cc)).2.1 : Int) := IntWalk.i64_in _ (by omega)
        have d1 := (hb.cell (p := ⟨rb, 1, none⟩) hlt).trans c1
        have d2 := (hb.cell (p := ⟨rb, 2, none⟩) hlt).trans c2
        have g1 := (hb.frozen (p := ⟨rb, 1, none⟩) hlt).trans f1
        have g2 := (hb.frozen (p := ⟨rb, 2, none⟩) hlt).trans f2
        have gs := GoE.store (q := cc + ((histS) (l.drop cc)).2.1) (er' := ((histS) (l.drop cc)).2.2) d1 d2 ((cc : Int) + (((histS) (l.drop cc)).2.1 : Int)) (by omega)
        have HG := Lib.hid (And.intro (hn.go hlt gs) (GoE.ahead hb hlt gs))
        have HGN := Lib.hid (GoE.ahead hb hlt gs)
        clear hb hn gs
        go_wp2_with fail
        go_ret
        exact ⟨A', c', rfl, HG.out⟩
      · clear he
        have HS := Lib.hid (show ∀ w', Below w.heap.size w w' → w'.cell? ⟨rb, 0, none⟩ = some (.slice (some a) n cc) ∧ w'.cell? ⟨rb, 1, none⟩ = some (.int .i64 p) from fun w' hb => ⟨(hb.cell (p := ⟨rb, 0, none⟩) hlt).trans c0, (hb.cell (p := ⟨rb, 1, none⟩) hlt).trans c1⟩)
        go_enter Tryz.func16, Tryz.ntmps16
        go_wp2_with fail
        go_region_held3 (fun w' => w'.cell? ⟨rb, 0, none⟩ = some (.slice (some a) n cc) ∧ w'.cell? ⟨rb, 1, none⟩ = some (.int .i64 p)) (first | exact HS.out _ (Below.refl _ _).drew | exact HS.out _ (bthen (Below.refl _ _).drew (by assumption))) (first | (go_at_call 17; refine (hunpack_at (bs_drop (HBS.out.below (Below.refl _ w).drew) hle)).mono ?_; rintro e w1 ⟨A', c', rfl, hn, hb⟩))
        replace hb := bthen (Below.refl _ w).drew hb
        have hq : ((histS) (l.drop p)).2.1 ≤ n - p := by have := hist_pos (l := l.drop p) (by rw [List.length_drop, HBS.out.len]; omega); rw [List.length_drop, HBS.out.len] at this; omega
        have hw1 : IntKind.i64.wrap ((p : Int) + (((histS) (l.drop p)).2.1 : Int)) = (p : Int) + (((histS) (l.drop p)).2.1 : Int) := IntWalk.i64_in _ (by omega)
        have d1 := (hb.cell (p := ⟨rb, 1, none⟩) hlt).trans c1
        have d2 := (hb.cell (p := ⟨rb, 2, none⟩) hlt).trans c2
        have g1 := (hb.frozen (p := ⟨rb, 1, none⟩) hlt).trans f1
        have g2 := (hb.frozen (p := ⟨rb, 2, none⟩) hlt).trans f2
        have gs := GoE.store (q := p + ((histS) (l.drop p)).2.1) (er' := ((histS) (l.drop p)).2.2) d1 d2 ((p : Int) + (((histS) (l.drop p)).2.1 : Int)) (by omega)
        have HG := Lib.hid (And.intro (hn.go hlt gs) (GoE.ahead hb hlt gs))
        have HGN := Lib.hid (GoE.ahead hb hlt gs)
        clear hb hn gs
        go_wp2_with fail
        go_ret
        exact ⟨A', c', rfl, HG.out⟩
    · rw [nxV_bad rfl he]
      have he1 : (((histS) (l.drop p)).2.2 != 0) = true := bne_iff_ne.2 he
      by_cases hpc : cc = p
      · subst hpc
        obtain rfl : cc = n := by omega
        clear he
        have HS := Lib.hid (show ∀ w', Below w.heap.size w w' → w'.cell? ⟨rb, 0, none⟩ = some (.slice (some a) cc cc) ∧ w'.cell? ⟨rb, 1, none⟩ = some (.int .i64 cc) from fun w' hb => ⟨(hb.cell (p := ⟨rb, 0, none⟩) hlt).trans c0, (hb.cell (p := ⟨rb, 1, none⟩) hlt).trans c1⟩)
        go_enter Tryz.func16, Tryz.ntmps16
        go_wp2_with fail
        go_region_held3 (fun w' => w'.cell? ⟨rb, 0, none⟩ = some (.slice (some a) cc cc) ∧ w'.cell? ⟨rb, 1, none⟩ = some (.int .i64 cc)) (first | exact HS.out _ (Below.refl _ _).drew | exact HS.out _ (bthen (Below.refl _ _).drew (by assumption))) (first | (go_at_call 17; refine (hunpack_at (bs_end (HBS.out.below (Below.refl _ w).drew) rfl)).mono ?_; rintro e w1 ⟨A', c', rfl, hn, hb⟩))
        replace hb := bthen (Below.refl _ w).drew hb
        have hq : ((histS) (l.drop cc)).2.1 ≤ cc - cc := by have := hist_pos (l := l.drop cc) (by rw [List.length_drop, HBS.out.len]; omega); rw [List.length_drop, HBS.out.len] at this; omega
        have hw1 : IntKind.i64.wrap ((cc : Int) + (((histS) (l.drop cc)).2.1 : Int)) = (cc : Int) + (((histS) (l.drop cc)).2.1 : Int) := IntWalk.i64_in _ (by omega)
        have d1 := (hb.cell (p := ⟨rb, 1, none⟩) hlt).trans c1
        have d2 := (hb.cell (p := ⟨rb, 2, none⟩) hlt).trans c2
        have g1 := (hb.frozen (p := ⟨rb, 1, none⟩) hlt).trans f1
        have g2 := (hb.frozen (p := ⟨rb, 2, none⟩) hlt).trans f2
        have gs := GoE.store (q := cc + ((histS) (l.drop cc)).2.1) (er' := ((histS) (l.drop cc)).2.2) d1 d2 ((cc : Int) + (((histS) (l.drop cc)).2.1 : Int)) (by omega)
        have HG := Lib.hid (And.intro (hn.go hlt gs) (GoE.ahead hb hlt gs))
        have HGN := Lib.hid (GoE.ahead hb hlt gs)
        clear hb hn gs
        go_wp2_with fail
        go_ret
        exact ⟨none, 0, rfl, EvsR.nil, HGN.out⟩
      · clear he
        have HS := Lib.hid (show ∀ w', Below w.heap.size w w' → w'.cell? ⟨rb, 0, none⟩ = some (.slice (some a) n cc) ∧ w'.cell? ⟨rb, 1, none⟩ = some (.int .i64 p) from fun w' hb => ⟨(hb.cell (p := ⟨rb, 0, none⟩) hlt).trans c0, (hb.cell (p := ⟨rb, 1, none⟩) hlt).trans c1⟩)
        go_enter Tryz.func16, Tryz.ntmps16
        go_wp2_with fail
        go_region_held3 (fun w' => w'.cell? ⟨rb, 0, none⟩ = some (.slice (some a) n cc) ∧ w'.cell? ⟨rb, 1, none⟩ = some (.int .i64 p)) (first | exact HS.out _ (Below.refl _ _).drew | exact HS.out _ (bthen (Below.refl _ _).drew (by assumption))) (first | (go_at_call 17; refine (hunpack_at (bs_drop (HBS.out.below (Below.refl _ w).drew) hle)).mono ?_; rintro e w1 ⟨A', c', rfl, hn, hb⟩))
        replace hb := bthen (Below.refl _ w).drew hb
        have hq : ((histS) (l.drop p)).2.1 ≤ n - p := by have := hist_pos (l := l.drop p) (by rw [List.length_drop, HBS.out.len]; omega); rw [List.length_drop, HBS.out.len] at this; omega
        have hw1 : IntKind.i64.wrap ((p : Int) + (((histS) (l.drop p)).2.1 : Int)) = (p : Int) + (((histS) (l.drop p)).2.1 : Int) := IntWalk.i64_in _ (by omega)
        have d1 := (hb.cell (p := ⟨rb, 1, none⟩) hlt).trans c1
        have d2 := (hb.cell (p := ⟨rb, 2, none⟩) hlt).trans c2
        have g1 := (hb.frozen (p := ⟨rb, 1, none⟩) hlt).trans f1
        have g2 := (hb.frozen (p := ⟨rb, 2, none⟩) hlt).trans f2
        have gs := GoE.store (q := p + ((histS) (l.drop p)).2.1) (er' := ((histS) (l.drop p)).2.2) d1 d2 ((p : Int) + (((histS) (l.drop p)).2.1 : Int)) (by omega)
        have HG := Lib.hid (And.intro (hn.go hlt gs) (GoE.ahead hb hlt gs))
        have HGN := Lib.hid (GoE.ahead hb hlt gs)
        clear hb hn gs
        go_wp2_with fail
        go_ret
        exact ⟨none, 0, rfl, EvsR.nil, HGN.out⟩
  · rw [nxS_no hc, nxV_no hc]
    have he : (er != 0) = true := bne_iff_ne.2 hc
    go_enter Tryz.func16, Tryz.ntmps16
    go_wp2_with fail
    go_ret
    exact ⟨none, 0, rfl, EvsR.nil, R0.out⟩
set_option maxRecDepth 100000 in
set_option maxHeartbeats 2000000 in
theorem nnext_flag {w : World} {rb : Nat} {A : Option Addr} {n cc : Nat} {l : List UInt8} {p : Nat} {er : Int} (h : RE w rb A n cc l p er) {m fb : Nat} (hfb : w.cell? ⟨fb, 0, none⟩ = some (.int .u8 (m : Int))) :
    Calls Tryz.prog 8 #[.pointer (some ⟨rb, 0, none⟩), .func (.func 33) #[] #[.pointer (some ⟨fb, 0, none⟩)]] w (fun e w' => e = .returned (.int .u8 (((nxV 0 (flagS m) l ⟨p, er⟩) : Nat) : Int)) ∧ GoE rb (nxS (flagS m) l ⟨p, er⟩).at_ (nxS (flagS m) l ⟨p, er⟩).e w w') := by
  obtain ⟨a, rfl⟩ := h.adr
  have R0 := Lib.hid (GoE.refl h)
  have c0 := h.c0
  have c1 := h.c1
  have c2 := h.c2
  have f1 := h.f1
  have f2 := h.f2
  have hle := h.le
  have hlt := h.lt
  have HBS := Lib.hid h.bs
  have hcap := h.bs.cap
  have hsm := h.bs.small
  have hcapb := h.bs.capb
  have hnil := h.bs.nil
  clear h
  by_cases hc : er = 0
  · subst hc
    rw [nxS_is rfl]
    dsimp only
    by_cases he : ((flagS m) (l.drop p)).2.2 = 0
    · rw [nxV_ok rfl he]
      dsimp only
      have he1 : (((flagS m) (l.drop p)).2.2 != 0) = false := by rw [he]; rfl
      by_cases hpc : cc = p
      · subst hpc
        obtain rfl : cc = n := by omega
        clear he
        have HS := Lib.hid (show ∀ w', Below w.heap.size w w' → w'.cell? ⟨rb, 0, none⟩ = some (.slice (some a) cc cc) ∧ w'.cell? ⟨rb, 1, none⟩ = some (.int .i64 cc) from fun w' hb => ⟨(hb.cell (p := ⟨rb, 0, none⟩) hlt).trans c0, (hb.cell (p := ⟨rb, 1, none⟩) hlt).trans c1⟩)
        go_enter Tryz.func8, Tryz.ntmps8
        go_wp2_with fail
        go_region_held3 (fun w' => w'.cell? ⟨rb, 0, none⟩ = some (.slice (some a) cc cc) ∧ w'.cell? ⟨rb, 1, none⟩ = some (.int .i64 cc)) (first | exact HS.out _ (Below.refl _ _).drew | exact HS.out _ (bthen (Below.refl _ _).drew (by assumption))) (first | (go_at_call 33; refine (flag_any (w := w.drew) hfb (bs_end (HBS.out.below (Below.refl _ w).drew) rfl)).mono ?_; rintro e w1 ⟨rfl, hb⟩))
        replace hb := bthen (Below.refl _ w).drew hb
        have hq : ((flagS m) (l.drop cc)).2.1 ≤ cc - cc := by have := flag_pos m (l.drop cc); rw [List.length_drop, HBS.out.len] at this; omega
        have hw1 : IntKind.i64.wrap ((cc : Int) + (((flagS m) (l.drop cc)).2.1 : Int)) = (cc : Int) + (((flagS m) (l.drop cc)).2.1 : Int) := IntWalk.i64_in _ (by omega)
        have d1 := (hb.cell (p := ⟨rb, 1, none⟩) hlt).trans c1
        have d2 := (hb.cell (p := ⟨rb, 2, none⟩) hlt).trans c2
        have g1 := (hb.frozen (p := ⟨rb, 1, none⟩) hlt).trans f1
        have g2 := (hb.frozen (p := ⟨rb, 2, none⟩) hlt).trans f2
        have HG := Lib.hid (GoE.ahead hb hlt (GoE.store (q := cc + ((flagS m) (l.drop cc)).2.1) (er' := ((flagS m) (l.drop cc)).2.2) d1 d2 ((cc : Int) + (((flagS m) (l.drop cc)).2.1 : Int)) (by omega)))
        clear hb
        go_wp2_with fail
        go_ret
        exact ⟨rfl, HG.out⟩
      · clear he
        have HS := Lib.hid (show ∀ w', Below w.heap.size w w' → w'.cell? ⟨rb, 0, none⟩ = some (.slice (some a) n cc) ∧ w'.cell? ⟨rb, 1, none⟩ = some (.int .i64 p) from fun w' hb => ⟨(hb.cell (p := ⟨rb, 0, none⟩) hlt).trans c0, (hb.cell (p := ⟨rb, 1, none⟩) hlt).trans c1⟩)
        go_enter Tryz.func8, Tryz.ntmps8
        go_wp2_with fail
        go_region_held3 (fun w' => w'.cell? ⟨rb, 0, none⟩ = some (.slice (some a) n cc) ∧ w'.cell? ⟨rb, 1, none⟩ = some (.int .i64 p)) (first | exact HS.out _ (Below.refl _ _).drew | exact HS.out _ (bthen (Below.refl _ _).drew (by assumption))) (first | (go_at_call 33; refine (flag_any (w := w.drew) hfb (bs_drop (HBS.out.below (Below.refl _ w).drew) hle)).mono ?_; rintro e w1 ⟨rfl, hb⟩))
        replace hb := bthen (Below.refl _ w).drew hb
        have hq : ((flagS m) (l.drop p)).2.1 ≤ n - p := by have := flag_pos m (l.drop p); rw [List.length_drop, HBS.out.len] at this; omega
        have hw1 : IntKind.i64.wrap ((p : Int) + (((flagS m) (l.drop p)).2.1 : Int)) = (p : Int) + (((flagS m) (l.drop p)).2.1 : Int) := IntWalk.i64_in _ (by omega)
        have d1 := (hb.cell (p := ⟨rb, 1, none⟩) hlt).trans c1
        have d2 := (hb.cell (p := ⟨rb, 2, none⟩) hlt).trans c2
        have g1 := (hb.frozen (p := ⟨rb, 1, none⟩) hlt).trans f1
        have g2 := (hb.frozen (p := ⟨rb, 2, none⟩) hlt).trans f2
        have HG := Lib.hid (GoE.ahead hb hlt (GoE.store (q := p + ((flagS m) (l.drop p)).2.1) (er' := ((flagS m) (l.drop p)).2.2) d1 d2 ((p : Int) + (((flagS m) (l.drop p)).2.1 : Int)) (by omega)))
        clear hb
        go_wp2_with fail
        go_ret
        exact ⟨rfl, HG.out⟩
    · rw [nxV_bad rfl he]
      have he1 : (((flagS m) (l.drop p)).2.2 != 0) = true := bne_iff_ne.2 he
      by_cases hpc : cc = p
      · subst hpc
        obtain rfl : cc = n := by omega
        clear he
        have HS := Lib.hid (show ∀ w', Below w.heap.size w w' → w'.cell? ⟨rb, 0, none⟩ = some (.slice (some a) cc cc) ∧ w'.cell? ⟨rb, 1, none⟩ = some (.int .i64 cc) from fun w' hb => ⟨(hb.cell (p := ⟨rb, 0, none⟩) hlt).trans c0, (hb.cell (p := ⟨rb, 1, none⟩) hlt).trans c1⟩)
        go_enter Tryz.func8, Tryz.ntmps8
        go_wp2_with fail
        go_region_held3 (fun w' => w'.cell? ⟨rb, 0, none⟩ = some (.slice (some a) cc cc) ∧ w'.cell? ⟨rb, 1, none⟩ = some (.int .i64 cc)) (first | exact HS.out _ (Below.refl _ _).drew | exact HS.out _ (bthen (Below.refl _ _).drew (by assumption))) (first | (go_at_call 33; refine (flag_any (w := w.drew) hfb (bs_end (HBS.out.below (Below.refl _ w).drew) rfl)).mono ?_; rintro e w1 ⟨rfl, hb⟩))
        replace hb := bthen (Below.refl _ w).drew hb
        have hq : ((flagS m) (l.drop cc)).2.1 ≤ cc - cc := by have := flag_pos m (l.drop cc); rw [List.length_drop, HBS.out.len] at this; omega
        have hw1 : IntKind.i64.wrap ((cc : Int) + (((flagS m) (l.drop cc)).2.1 : Int)) = (cc : Int) + (((flagS m) (l.drop cc)).2.1 : Int) := IntWalk.i64_in _ (by omega)
        have d1 := (hb.cell (p := ⟨rb, 1, none⟩) hlt).trans c1
        have d2 := (hb.cell (p := ⟨rb, 2, none⟩) hlt).trans c2
        have g1 := (hb.frozen (p := ⟨rb, 1, none⟩) hlt).trans f1
        have g2 := (hb.frozen (p := ⟨rb, 2, none⟩) hlt).trans f2
        have HG := Lib.hid (GoE.ahead hb hlt (GoE.store (q := cc + ((flagS m) (l.drop cc)).2.1) (er' := ((flagS m) (l.drop cc)).2.2) d1 d2 ((cc : Int) + (((flagS m) (l.drop cc)).2.1 : Int)) (by omega)))
        clear hb
        go_wp2_with fail
        go_ret
        exact ⟨rfl, HG.out⟩
      · clear he
        have HS := Lib.hid (show ∀ w', Below w.heap.size w w' → w'.cell? ⟨rb, 0, none⟩ = some (.slice (some a) n cc) ∧ w'.cell? ⟨rb, 1, none⟩ = some (.int .i64 p) from fun w' hb => ⟨(hb.cell (p := ⟨rb, 0, none⟩) hlt).trans c0, (hb.cell (p := ⟨rb, 1, none⟩) hlt).trans c1⟩)
        go_enter Tryz.func8, Tryz.ntmps8
        go_wp2_with fail
        go_region_held3 (fun w' => w'.cell? ⟨rb, 0, none⟩ = some (.slice (some a) n cc) ∧ w'.cell? ⟨rb, 1, none⟩ = some (.int .i64 p)) (first | exact HS.out _ (Below.refl _ _).drew | exact HS.out _ (bthen (Below.refl _ _).drew (by assumption))) (first | (go_at_call 33; refine (flag_any (w := w.drew) hfb (bs_drop (HBS.out.below (Below.refl _ w).drew) hle)).mono ?_; rintro e w1 ⟨rfl, hb⟩))
        replace hb := bthen (Below.refl _ w).drew hb
        have hq : ((flagS m) (l.drop p)).2.1 ≤ n - p := by have := flag_pos m (l.drop p); rw [List.length_drop, HBS.out.len] at this; omega
        have hw1 : IntKind.i64.wrap ((p : Int) + (((flagS m) (l.drop p)).2.1 : Int)) = (p : Int) + (((flagS m) (l.drop p)).2.1 : Int) := IntWalk.i64_in _ (by omega)
        have d1 := (hb.cell (p := ⟨rb, 1, none⟩) hlt).trans c1
        have d2 := (hb.cell (p := ⟨rb, 2, none⟩) hlt).trans c2
        have g1 := (hb.frozen (p := ⟨rb, 1, none⟩) hlt).trans f1
        have g2 := (hb.frozen (p := ⟨rb, 2, none⟩) hlt).trans f2
        have HG := Lib.hid (GoE.ahead hb hlt (GoE.store (q := p + ((flagS m) (l.drop p)).2.1) (er' := ((flagS m) (l.drop p)).2.2) d1 d2 ((p : Int) + (((flagS m) (l.drop p)).2.1 : Int)) (by omega)))
        clear hb
        go_wp2_with fail
        go_ret
        exact ⟨rfl, HG.out⟩
  · rw [nxS_no hc, nxV_no hc]
    have he : (er != 0) = true := bne_iff_ne.2 hc
    go_enter Tryz.func8, Tryz.ntmps8
    go_wp2_with fail
    go_ret
    exact ⟨rfl, R0.out⟩
end Go.Proofs.YtaeophaecclnbaaGreatDoor

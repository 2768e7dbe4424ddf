/- Going through all places, walked. -/
import Derived.Test.YtefijgdbnjmifaaLookE
namespace Go.Proofs.Ytefijgdbnjmifaa
open Go.RowKit Go.Maps

/-- In the midst of going through all: k places at most are still to come. -/
def ARel (c : List Ins) (w0 w : World) (x : Fx) (K : Nat → Prop) (k : Nat) (wr : World) : Prop :=
  ∃ (d : List Int) (g : List Bool) (m : Nat) (K' : Nat → Prop), goS c k d g = fitsS c ∧ cntB g ≤ k ∧ Dom d (c.length - k) ∧ k ≤ c.length ∧ g.length = c.length ∧ St w0 wr x d g m K' ∧ m + 3 * k ≤ 3 * c.length + 10 ∧ Turn w wr K ∧ ∀ j, K' j → j < w.heap.size → K j
def APost (c : List Ins) (w0 w : World) (x : Fx) (K : Nat → Prop) (e : Ending) (w' : World) : Prop :=
  e = .returned (.int .i64 (fitsS c).2) ∧ Turn w w' K ∧ ∃ (g : List Bool) (m : Nat) (K' : Nat → Prop), St w0 w' x (fitsS c).1 g m K'
theorem go_none {c : List Ins} {k : Nat} {d : List Int} {g : List Bool} (h : noneB d g = true) : goS c k d g = (d, -1) := by
  unfold noneB at h
  rw [Option.isNone_iff_eq_none] at h
  cases k with
  | zero => rfl
  | succ k => simp only [goS, h]
theorem go_some {c : List Ins} {k : Nat} {d : List Int} {g : List Bool} {p : Nat} (h : leastB d g = some p) :
    goS c (k + 1) d g = if (throughS (atI c p) d p).2 = true then goS c k (throughS (atI c p) d p).1 (g.set p true) else ((throughS (atI c p) d p).1, (p : Int)) := by
  simp only [goS, h]
set_option maxRecDepth 100000 in
set_option maxHeartbeats 2000000 in
theorem all_st {w0 w : World} {x : Fx} {K : Nat → Prop} {cs : List InsV} (h : St w0 w x (List.replicate x.n (-1)) (g0S x.n) 0 K) (hcode : CodeIn w0 x.A cs) (hl : cs.length = x.n) (hok : OkC cs) (hn : (x.n : Int) ≤ 8192) (hn0 : 0 < x.n) (hr : AllR (insL cs)) :
    Calls Try.prog 32 #[.pointer (some ⟨x.wb, 0, none⟩)] w (APost (insL cs) w0 w x K) := by
  have hlc : (insL cs).length = x.n := by rw [insL_length, hl]
  have H := Lib.hid h
  have HC := Lib.hid hcode
  have HO := Lib.hid hok
  have HR := Lib.hid hr
  have HL := Lib.hid hl
  have HLC := Lib.hid hlc
  clear h hcode hok hr hl hlc
  go_enter Try.func32, Try.ntmps32
  go_wp2_with fail
  refine (meet_st H.out hn (by omega) _ 0 rfl (by omega) _ (by omega)).mono ?_
  rintro e w1 hM
  rw [meetS_new (by simpa using hn0) (by rw [dAt_rep _ _ hn0]; omega)] at hM
  obtain ⟨rfl, t1, s1⟩ := hM
  have T1 := Lib.hid t1
  have S1 := Lib.hid s1
  clear t1 s1
  go_wp2_with fail
  go_loopg [3, 4, 5, 6] x.n (fun k _ _ _ _ wr => ARel (insL cs) w0 w x K k wr)
  case atStart =>
    have S2 := S1.out
    refine ⟨d0S x.n, g0S x.n, 1, _, by unfold fitsS; rw [HLC.out], ?_, ?_, by rw [HLC.out]; exact Nat.le_refl _, by rw [HLC.out]; simp [g0S], S2, by rw [HLC.out]; omega, T1.out, fun j hj hlt => ?_⟩
    · unfold cntB; exact Nat.le_trans List.count_le_length (by simp [g0S])
    · intro i hi
      have hi' : i < x.n := by simpa [d0S] using hi
      rw [dAt_d0 _ _ hi', HLC.out]; split <;> omega
    · rcases hj with hj | hj
      · exact hj
      · omega
  case round =>
    obtain ⟨d, g, m, K', hgo, hcnt, hD, hk, hg, hS, hm, hT, hK⟩ := hrel
    have HGO := Lib.hid hgo
    have HG := Lib.hid hg
    have HD := Lib.hid hD
    have HS := Lib.hid hS
    have HT := Lib.hid hT
    have HK := Lib.hid hK
    rw [HLC.out] at hk hm
    obtain ⟨k0, k1, k2, dl, dcell, wlt, dlt⟩ := hS.cells
    have DL := Lib.hid dl
    clear hgo hg hD hS hT hK k0 k1 dcell dl
    by_cases hb : noneB d g = true
    · have E := Lib.hid (show fitsS (insL cs) = (d, -1) by rw [← HGO.out]; exact go_none hb)
      have HB := Lib.hid hb
      clear hb
      go_wp2_with fail
      refine (pop_st_none HS.out HB.out).mono ?_
      rintro e w2 ⟨rfl, rfl⟩
      go_wp2_with fail
      go_ret
      refine ⟨by rw [E.out]; rfl, HT.out, g, m, K', ?_⟩
      rw [E.out]
      exact HS.out
    · have HB := Lib.hid (show noneB d g = false by simpa using hb)
      clear hb
      go_wp2_with fail
      refine (pop_st_some HS.out hn (by omega) HB.out).mono ?_
      rintro e w2 ⟨p, num, rfl, hl, t2, s2⟩
      obtain ⟨hp, hpe, _⟩ := least_some.1 hl
      obtain ⟨hg0, h0⟩ := pend_gone hpe
      obtain ⟨hc1, hpg⟩ := cnt_set hg0
      obtain ⟨k', hk'⟩ : ∃ k', gk = k' + 1 := ⟨gk - 1, by omega⟩
      subst hk'
      have hpn : p < x.n := by have := DL.out; omega
      have hDp := HD.out p hp
      rw [HLC.out] at hDp
      have hrp : rightI (atI (insL cs) p) x.n = true := by have := HR.out p (by rw [HLC.out]; exact hpn); rwa [HLC.out] at this
      have E := Lib.hid (HGO.out.symm.trans (go_some (c := insL cs) (k := k') hl))
      obtain ⟨_, _, sp3⟩ := through_spec (insL cs) d p hp h0 hrp
      have SP := Lib.hid sp3
      have T2 := Lib.hid t2
      have S2 := Lib.hid s2
      have TL := Lib.hid (through_length (atI (insL cs) p) d p)
      have HC1 := Lib.hid hc1
      have HRP := Lib.hid hrp
      clear hl hpe hg0 t2 s2 sp3 hc1 hrp
      have wlt2 := S2.out.cells.2.2.2.2.2.1
      go_wp2_with fail
      refine (through_st S2.out HC.out HL.out HO.out hn (by omega) p hpn h0 (by omega) HRP.out).mono ?_
      rintro e w3 hM
      generalize throughS (atI (insL cs) p) d p = R at *
      obtain ⟨d1, b1⟩ := R
      obtain ⟨rfl, t3, s3⟩ := hM
      have T3 := Lib.hid t3
      have S3 := Lib.hid s3
      clear t3 s3
      have TT := Lib.hid ((HT.out.then (q := K') T2.out (fun j hj hq => HK.out j hq hj)).then (q := K') T3.out (fun j hj hq => HK.out j hq hj))
      cases b1
      · go_wp2_with fail
        go_ret
        have E' : fitsS (insL cs) = (d1, (p : Int)) := E.out.trans (if_neg (by simp))
        exact ⟨by rw [E']; rfl, TT.out, g.set p true, m + 1 + 2, newK K' w2 w3, by rw [E']; exact S3.out⟩
      · go_wp2_with fail
        go_roundg k'
        case measure => omega
        case rel =>
          have E' : fitsS (insL cs) = goS (insL cs) k' d1 (g.set p true) := E.out.trans (by simp)
          have hz := HT.out.size
          have hz2 := T2.out.size
          have TL' : d1.length = d.length := TL.out
          refine ⟨d1, g.set p true, _, _, E'.symm, by have := HC1.out; omega, ?_, by rw [HLC.out]; omega, by simpa using HG.out, S3.out, by rw [HLC.out]; omega, TT.out, fun j hj hlt => ?_⟩
          · rw [HLC.out]
            refine SP.out _ (by omega) (fun i hi => ?_)
            have := HD.out i hi
            rw [HLC.out] at this
            omega
          · rcases hj with hj | hj
            · exact HK.out j hj hlt
            · omega
end Go.Proofs.Ytefijgdbnjmifaa

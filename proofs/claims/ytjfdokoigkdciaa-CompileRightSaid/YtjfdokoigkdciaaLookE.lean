/- Going through a place, walked: all kinds; going through all places. Going through all places, walked. -/
import Derived.Test.YtjfdokoigkdciaaLookD
import Derived.Test.YtjfdokoigkdciaaRightD
namespace Go.Proofs.Ytjfdokoigkdciaa
open Go.RowKit Go.Maps

theorem lt_of_max {n : Int} {x : Ins} (h : rightI x n = true) (h3 : aK x.op = 3) : 0 ≤ x.a ∧ x.a ≤ 2048 := by
  have ha := rightI_a h
  have : topK x.op n = 2049 := by unfold topK; rw [h3]; rfl
  omega
theorem through_st {w0 w : World} {x : Fx} {d : List Int} {g : List Bool} {m : Nat} {K : Nat → Prop} {cs : List InsV} (h : St w0 w x d g m K) (hcode : CodeIn w0 x.A cs) (hl : cs.length = x.n) (hok : OkC cs) (hn : (x.n : Int) ≤ 8192) (hm : m ≤ 100000) (p : Nat) (hp : p < x.n) (h0 : 0 ≤ dAt d p) (hD : dAt d p ≤ 8192)
    (hr : rightI (atI (insL cs) p) x.n = true) :
    Calls Try.prog 38 #[.pointer (some ⟨x.wb, 0, none⟩), .int .i64 p, .int .i64 (dAt d p)] w (MPost (throughS (atI (insL cs) p) d p).2 w0 w x (throughS (atI (insL cs) p) d p).1 g (m + 2) K) := by
  obtain ⟨b, off, hA, hbl, hc⟩ := hcode (by omega)
  obtain ⟨q0, q1, q2, q3⟩ := hc p (by omega)
  have hop := (hok p (by omega)).1
  have hk := fun o => h.low.cell (p := ⟨b, o, none⟩) hbl
  rw [atI_ins] at hr ⊢
  generalize atV cs p = v at *
  obtain ⟨op, a, int, text⟩ := v
  simp only [InsV.ins] at hr hop q0 q1 q2 q3 ⊢
  have hI : InsAt w b off p op a int text := ⟨(hk _).trans q0, (hk _).trans q1, (hk _).trans q2, (hk _).trans q3⟩
  clear q0 q1 q2 q3 hc hk
  have hlv := leaveK_01 op
  by_cases he : endsK op = true
  · have h3 : aK op ≠ 3 := fun h3 => by rw [(many_takes op h3).2] at he; cases he
    refine thr_ends h hn b off p hp hA a int text op hop he (by simp [manyK, h3]) hI ?_
    rw [through_ends he]
    have : takesI (⟨op, a, int, text.data.toList⟩ : Ins) = takesK op := by unfold takesI; exact if_neg h3
    rw [this]
  · have he' : endsK op = false := by simpa using he
    by_cases h3 : aK op = 3
    · have hT : takesI (⟨op, a, int, text.data.toList⟩ : Ins) = a := by unfold takesI; exact if_pos h3
      have ha := lt_of_max hr h3
      have htk := (many_takes op h3).1
      have hmany : manyK op = true := by simp [manyK, h3]
      by_cases hlow : dAt d p < a
      · exact thr_low_m h hn b off p hp hA a int text op hop he' hmany htk hI ha.1 ha.2 hlow (through_low he (by rw [hT]; exact hlow))
      · refine thr_next_m h hn hm b off p hp hA a int text op hop he' hmany (by omega) htk hI hD h0 ha.1 ha.2 hlow ?_
        rw [through_next he (by rw [hT]; exact hlow) (by show aK op ≠ 1; omega)]
        unfold nextI
        rw [hT]
    · have hT : takesI (⟨op, a, int, text.data.toList⟩ : Ins) = takesK op := by unfold takesI; exact if_neg h3
      have hmany : manyK op = false := by simp [manyK, h3]
      by_cases hlow : dAt d p < takesK op
      · exact thr_low_p h hn b off p hp hA a int text op hop he' hmany hI hlow (through_low he (by rw [hT]; exact hlow))
      · by_cases h1 : aK op = 1
        · obtain ⟨ha0, ha1⟩ := target_lt hr h1
          have ha0' : 0 ≤ a := ha0
          have ha1' : a < (x.n : Int) := ha1
          obtain ⟨q, hq⟩ : ∃ q : Nat, a = (q : Int) := ⟨a.toNat, by omega⟩
          have hlow' : ¬ dAt d p < takesI (⟨op, a, int, text.data.toList⟩ : Ins) := by rw [hT]; exact hlow
          have hqt : a.toNat = q := by omega
          rcases target_ops op h1 with rfl | rfl | rfl | rfl | rfl
          · refine thr_1 h hn hm b off p hp hA a int text hI hD h0 q hq (by omega) ?_
            rw [through_jump hlow' rfl]
            show meetS d a.toNat (dAt d p - 0 + 0) = _
            rw [hqt]; congr 1; omega
          · refine thr_2 h hn hm b off p hp hA a int text hI hD h0 q hq (by omega) hlow ?_
            rw [through_both he hlow' h1 (by simp)]
            show (if (meetS d a.toNat (dAt d p - 1 + 0)).2 = true then meetS (meetS d a.toNat (dAt d p - 1 + 0)).1 (p + 1) (dAt d p - 1 + 0) else ((meetS d a.toNat (dAt d p - 1 + 0)).1, false)) = _
            rw [hqt, show dAt d p - 1 + 0 = dAt d p - 1 by omega]; rfl
          · refine thr_3 h hn hm b off p hp hA a int text hI hD h0 q hq (by omega) hlow ?_
            rw [through_both he hlow' h1 (by simp)]
            show (if (meetS d a.toNat (dAt d p)).2 = true then meetS (meetS d a.toNat (dAt d p)).1 (p + 1) (dAt d p - 1 + 0) else ((meetS d a.toNat (dAt d p)).1, false)) = _
            rw [hqt, show dAt d p - 1 + 0 = dAt d p - 1 by omega]; rfl
          · refine thr_4 h hn hm b off p hp hA a int text hI hD h0 q hq (by omega) hlow ?_
            rw [through_both he hlow' h1 (by simp)]
            show (if (meetS d a.toNat (dAt d p)).2 = true then meetS (meetS d a.toNat (dAt d p)).1 (p + 1) (dAt d p - 1 + 0) else ((meetS d a.toNat (dAt d p)).1, false)) = _
            rw [hqt, show dAt d p - 1 + 0 = dAt d p - 1 by omega]; rfl
          · refine thr_53 h hn hm b off p hp hA a int text hI hD h0 q hq (by omega) ?_
            rw [through_both he hlow' h1 (by simp)]
            show (if (meetS d a.toNat 0).2 = true then meetS (meetS d a.toNat 0).1 (p + 1) (dAt d p - 0 + 1) else ((meetS d a.toNat 0).1, false)) = _
            rw [hqt, show dAt d p - 0 + 1 = dAt d p + 1 by omega]; rfl
        · refine thr_next_p h hn hm b off p hp hA a int text op hop he' hmany h1 hI hD h0 hlow ?_
          rw [through_next he (by rw [hT]; exact hlow) h1]
          unfold nextI
          rw [hT]

/-- Popping, with all that is known of the walk's state. -/
def PopSome (w0 w : World) (x : Fx) (d : List Int) (g : List Bool) (m : Nat) (K : Nat → Prop) (e : Ending) (w' : World) : Prop :=
  ∃ (p : Nat) (num : Int), e = .returned (.tuple #[.int .i64 (p : Int), .int .i64 (dAt d p), .int .i64 num, .bool true]) ∧ leastB d g = some p ∧ Turn w w' K ∧ St w0 w' x d (g.set p true) (m + 1) K
/-- Is nothing more to be gone through? -/
def noneB (d : List Int) (g : List Bool) : Bool := (leastB d g).isNone
theorem pop_st_none {w0 w : World} {x : Fx} {d : List Int} {g : List Bool} {m : Nat} {K : Nat → Prop} (h : St w0 w x d g m K) (hb : noneB d g = true) :
    Calls Try.prog 37 #[.pointer (some ⟨x.sb, 0, none⟩)] w (Ret (.tuple #[.int .i64 0, .int .i64 0, .int .i64 0, .bool false]) w) := by
  obtain ⟨sl, nx, L, c, h1, h2, h3, h4, h5, h6, h7, h8⟩ := h
  cases L with
  | nil => exact pop_none h1.hp
  | cons t L =>
    obtain ⟨p, hp, hpe⟩ := h4.key t (List.mem_cons_self ..)
    unfold noneB at hb
    rw [Option.isNone_iff_eq_none, least_none] at hb
    rw [hb p hp] at hpe
    cases hpe.2.1
theorem pop_st_some {w0 w : World} {x : Fx} {d : List Int} {g : List Bool} {m : Nat} {K : Nat → Prop} (h : St w0 w x d g m K) (hn : (x.n : Int) ≤ 8192) (hm : m ≤ 1000000) (hb : noneB d g = false) :
    Calls Try.prog 37 #[.pointer (some ⟨x.sb, 0, none⟩)] w (PopSome w0 w x d g m K) := by
  obtain ⟨sl, nx, L, c, h1, h2, h3, h4, h5, h6, ⟨a1, a2, a3, a4⟩, h8⟩ := h
  have hL : 0 < L.length := by
    cases L with
    | nil => unfold noneB at hb; rw [sync_none h4] at hb; cases hb
    | cons t L => simp
  have hbd := h4.bound
  have hdl := h1.dl
  refine (pop_some h1.hp hL h2 h3 (by omega) (by unfold maxLen; omega)).mono ?_
  rintro e w' ⟨rfl, L', sl', p', ih', hp', ho, t'⟩
  obtain ⟨p, s1, s2, s3, s4⟩ := sync_pop h4 hL h2 p'
  have tK : Turn w w' K := t'.weaken (fun j hj => by
    rcases hj with rfl | rfl | hj
    · exact a2
    · exact a3
    · exact a4 _ hj)
  have hlen := p'.length_eq
  simp at hlen
  refine ⟨p, (atL L 0).num, by rw [s2, s3], s1, tK, sl', nx, L', _, h1.turn t' hp' (fun g e => .inl (by rw [← ho]; exact e)), ih', ?_, s4, by omega, ?_, ⟨a1, a2, a3, fun g e => a4 g (by rw [← ho]; exact e)⟩, fun k hk => ⟨(h8 k hk).1, Nat.lt_of_lt_of_le (h8 k hk).2 tK.size⟩⟩
  · exact fun t ht => h3 t (p'.mem_iff.1 (List.mem_cons_of_mem _ ht))
  · exact h6.trans ⟨tK.1, tK.2.1, tK.2.2.1, tK.size, fun k hk => tK.block (Nat.lt_of_lt_of_le hk h6.size) (fun hKk => by have := (h8 k hKk).1; omega)⟩
end Go.Proofs.Ytjfdokoigkdciaa
namespace Go.Proofs.Ytjfdokoigkdciaa
open Go.RowKit Go.Maps

/-- In the midst of going through all: k places at most are still to come. -/
def ARel (c : List Ins) (w0 w : World) (x : Fx) (K : Nat → Prop) (k : Nat) (wr : World) : Prop :=
  ∃ (d : List Int) (g : List Bool) (m : Nat) (K' : Nat → Prop), goS c k d g = fitsS c ∧ cntB g ≤ k ∧ Dom d (c.length - k) ∧ k ≤ c.length ∧ g.length = c.length ∧ St w0 wr x d g m K' ∧ m + 3 * k ≤ 3 * c.length + 10 ∧ Turn w wr K ∧ ∀ j, K' j → j < w.heap.size → K j
def APost (c : List Ins) (w0 w : World) (x : Fx) (K : Nat → Prop) (e : Ending) (w' : World) : Prop :=
  e = .returned (.int .i64 (fitsS c).2) ∧ Turn w w' K ∧ ∃ (g : List Bool) (m : Nat) (K' : Nat → Prop), St w0 w' x (fitsS c).1 g m K'
theorem go_none {c : List Ins} {k : Nat} {d : List Int} {g : List Bool} (h : noneB d g = true) : goS c k d g = (d, -1) := by
  unfold noneB at h
  rw [Option.isNone_iff_eq_none] at h
  cases k with
  | zero => rfl
  | succ k => simp only [goS, h]
theorem go_some {c : List Ins} {k : Nat} {d : List Int} {g : List Bool} {p : Nat} (h : leastB d g = some p) :
    goS c (k + 1) d g = if (throughS (atI c p) d p).2 = true then goS c k (throughS (atI c p) d p).1 (g.set p true) else ((throughS (atI c p) d p).1, (p : Int)) := by
  simp only [goS, h]
set_option maxRecDepth 100000 in
set_option maxHeartbeats 2000000 in
theorem all_st {w0 w : World} {x : Fx} {K : Nat → Prop} {cs : List InsV} (h : St w0 w x (List.replicate x.n (-1)) (g0S x.n) 0 K) (hcode : CodeIn w0 x.A cs) (hl : cs.length = x.n) (hok : OkC cs) (hn : (x.n : Int) ≤ 8192) (hn0 : 0 < x.n) (hr : AllR (insL cs)) :
    Calls Try.prog 27 #[.pointer (some ⟨x.wb, 0, none⟩)] w (APost (insL cs) w0 w x K) := by
  have hlc : (insL cs).length = x.n := by rw [insL_length, hl]
  have H := Lib.hid h
  have HC := Lib.hid hcode
  have HO := Lib.hid hok
  have HR := Lib.hid hr
  have HL := Lib.hid hl
  have HLC := Lib.hid hlc
  clear h hcode hok hr hl hlc
  go_enter Try.func27, Try.ntmps27
  go_wp2_with fail
  refine (meet_st H.out hn (by omega) _ 0 rfl (by omega) _ (by omega)).mono ?_
  rintro e w1 hM
  rw [meetS_new (by simpa using hn0) (by rw [dAt_rep _ _ hn0]; omega)] at hM
  obtain ⟨rfl, t1, s1⟩ := hM
  have T1 := Lib.hid t1
  have S1 := Lib.hid s1
  clear t1 s1
  go_wp2_with fail
  go_loopg [3, 4, 5, 6] x.n (fun k _ _ _ _ wr => ARel (insL cs) w0 w x K k wr)
  case atStart =>
    have S2 := S1.out
    refine ⟨d0S x.n, g0S x.n, 1, _, by unfold fitsS; rw [HLC.out], ?_, ?_, by rw [HLC.out]; exact Nat.le_refl _, by rw [HLC.out]; simp [g0S], S2, by rw [HLC.out]; omega, T1.out, fun j hj hlt => ?_⟩
    · unfold cntB; exact Nat.le_trans List.count_le_length (by simp [g0S])
    · intro i hi
      have hi' : i < x.n := by simpa [d0S] using hi
      rw [dAt_d0 _ _ hi', HLC.out]; split <;> omega
    · rcases hj with hj | hj
      · exact hj
      · omega
  case round =>
    obtain ⟨d, g, m, K', hgo, hcnt, hD, hk, hg, hS, hm, hT, hK⟩ := hrel
    have HGO := Lib.hid hgo
    have HG := Lib.hid hg
    have HD := Lib.hid hD
    have HS := Lib.hid hS
    have HT := Lib.hid hT
    have HK := Lib.hid hK
    rw [HLC.out] at hk hm
    obtain ⟨k0, k1, k2, dl, dcell, wlt, dlt⟩ := hS.cells
    have DL := Lib.hid dl
    clear hgo hg hD hS hT hK k0 k1 dcell dl
    by_cases hb : noneB d g = true
    · have E := Lib.hid (show fitsS (insL cs) = (d, -1) by rw [← HGO.out]; exact go_none hb)
      have HB := Lib.hid hb
      clear hb
      go_wp2_with fail
      refine (pop_st_none HS.out HB.out).mono ?_
      rintro e w2 ⟨rfl, rfl⟩
      go_wp2_with fail
      go_ret
      refine ⟨by rw [E.out]; rfl, HT.out, g, m, K', ?_⟩
      rw [E.out]
      exact HS.out
    · have HB := Lib.hid (show noneB d g = false by simpa using hb)
      clear hb
      go_wp2_with fail
      refine (pop_st_some HS.out hn (by omega) HB.out).mono ?_
      rintro e w2 ⟨p, num, rfl, hl, t2, s2⟩
      obtain ⟨hp, hpe, _⟩ := least_some.1 hl
      obtain ⟨hg0, h0⟩ := pend_gone hpe
      obtain ⟨hc1, hpg⟩ := cnt_set hg0
      obtain ⟨k', hk'⟩ : ∃ k', gk = k' + 1 := ⟨gk - 1, by omega⟩
      subst hk'
      have hpn : p < x.n := by have := DL.out; omega
      have hDp := HD.out p hp
      rw [HLC.out] at hDp
      have hrp : rightI (atI (insL cs) p) x.n = true := by have := HR.out p (by rw [HLC.out]; exact hpn); rwa [HLC.out] at this
      have E := Lib.hid (HGO.out.symm.trans (go_some (c := insL cs) (k := k') hl))
      obtain ⟨_, _, sp3⟩ := through_spec (insL cs) d p hp h0 hrp
      have SP := Lib.hid sp3
      have T2 := Lib.hid t2
      have S2 := Lib.hid s2
      have TL := Lib.hid (through_length (atI (insL cs) p) d p)
      have HC1 := Lib.hid hc1
      have HRP := Lib.hid hrp
      clear hl hpe hg0 t2 s2 sp3 hc1 hrp
      have wlt2 := S2.out.cells.2.2.2.2.2.1
      go_wp2_with fail
      refine (through_st S2.out HC.out HL.out HO.out hn (by omega) p hpn h0 (by omega) HRP.out).mono ?_
      rintro e w3 hM
      generalize throughS (atI (insL cs) p) d p = R at *
      obtain ⟨d1, b1⟩ := R
      obtain ⟨rfl, t3, s3⟩ := hM
      have T3 := Lib.hid t3
      have S3 := Lib.hid s3
      clear t3 s3
      have TT := Lib.hid ((HT.out.then (q := K') T2.out (fun j hj hq => HK.out j hq hj)).then (q := K') T3.out (fun j hj hq => HK.out j hq hj))
      cases b1
      · go_wp2_with fail
        go_ret
        have E' : fitsS (insL cs) = (d1, (p : Int)) := E.out.trans (if_neg (by simp))
        exact ⟨by rw [E']; rfl, TT.out, g.set p true, m + 1 + 2, newK K' w2 w3, by rw [E']; exact S3.out⟩
      · go_wp2_with fail
        go_roundg k'
        case measure => omega
        case rel =>
          have E' : fitsS (insL cs) = goS (insL cs) k' d1 (g.set p true) := E.out.trans (by simp)
          have hz := HT.out.size
          have hz2 := T2.out.size
          have TL' : d1.length = d.length := TL.out
          refine ⟨d1, g.set p true, _, _, E'.symm, by have := HC1.out; omega, ?_, by rw [HLC.out]; omega, by simpa using HG.out, S3.out, by rw [HLC.out]; omega, TT.out, fun j hj hlt => ?_⟩
          · rw [HLC.out]
            refine SP.out _ (by omega) (fun i hi => ?_)
            have := HD.out i hi
            rw [HLC.out] at this
            omega
          · rcases hj with hj | hj
            · exact HK.out j hj hlt
            · omega
end Go.Proofs.Ytjfdokoigkdciaa

/- Going through a place, walked: all kinds; going through all places. -/
import Derived.Test.YtefijgdbnjmifaaLookD
import Derived.Test.YtefijgdbnjmifaaRightD
namespace Go.Proofs.Ytefijgdbnjmifaa
open Go.RowKit Go.Maps

theorem lt_of_max {n : Int} {x : Ins} (h : rightI x n = true) (h3 : aK x.op = 3) : 0 ≤ x.a ∧ x.a ≤ 2048 := by
  have ha := rightI_a h
  have : topK x.op n = 2049 := by unfold topK; rw [h3]; rfl
  omega
theorem through_st {w0 w : World} {x : Fx} {d : List Int} {g : List Bool} {m : Nat} {K : Nat → Prop} {cs : List InsV} (h : St w0 w x d g m K) (hcode : CodeIn w0 x.A cs) (hl : cs.length = x.n) (hok : OkC cs) (hn : (x.n : Int) ≤ 8192) (hm : m ≤ 100000) (p : Nat) (hp : p < x.n) (h0 : 0 ≤ dAt d p) (hD : dAt d p ≤ 8192)
    (hr : rightI (atI (insL cs) p) x.n = true) :
    Calls Try.prog 48 #[.pointer (some ⟨x.wb, 0, none⟩), .int .i64 p, .int .i64 (dAt d p)] w (MPost (throughS (atI (insL cs) p) d p).2 w0 w x (throughS (atI (insL cs) p) d p).1 g (m + 2) K) := by
  obtain ⟨b, off, hA, hbl, hc⟩ := hcode (by omega)
  obtain ⟨q0, q1, q2, q3⟩ := hc p (by omega)
  have hop := (hok p (by omega)).1
  have hk := fun o => h.low.cell (p := ⟨b, o, none⟩) hbl
  rw [atI_ins] at hr ⊢
  generalize atV cs p = v at *
  obtain ⟨op, a, int, text⟩ := v
  simp only [InsV.ins] at hr hop q0 q1 q2 q3 ⊢
  have hI : InsAt w b off p op a int text := ⟨(hk _).trans q0, (hk _).trans q1, (hk _).trans q2, (hk _).trans q3⟩
  clear q0 q1 q2 q3 hc hk
  have hlv := leaveK_01 op
  by_cases he : endsK op = true
  · have h3 : aK op ≠ 3 := fun h3 => by rw [(many_takes op h3).2] at he; cases he
    refine thr_ends h hn b off p hp hA a int text op hop he (by simp [manyK, h3]) hI ?_
    rw [through_ends he]
    have : takesI (⟨op, a, int, text.data.toList⟩ : Ins) = takesK op := by unfold takesI; exact if_neg h3
    rw [this]
  · have he' : endsK op = false := by simpa using he
    by_cases h3 : aK op = 3
    · have hT : takesI (⟨op, a, int, text.data.toList⟩ : Ins) = a := by unfold takesI; exact if_pos h3
      have ha := lt_of_max hr h3
      have htk := (many_takes op h3).1
      have hmany : manyK op = true := by simp [manyK, h3]
      by_cases hlow : dAt d p < a
      · exact thr_low_m h hn b off p hp hA a int text op hop he' hmany htk hI ha.1 ha.2 hlow (through_low he (by rw [hT]; exact hlow))
      · refine thr_next_m h hn hm b off p hp hA a int text op hop he' hmany (by omega) htk hI hD h0 ha.1 ha.2 hlow ?_
        rw [through_next he (by rw [hT]; exact hlow) (by show aK op ≠ 1; omega)]
        unfold nextI
        rw [hT]
    · have hT : takesI (⟨op, a, int, text.data.toList⟩ : Ins) = takesK op := by unfold takesI; exact if_neg h3
      have hmany : manyK op = false := by simp [manyK, h3]
      by_cases hlow : dAt d p < takesK op
      · exact thr_low_p h hn b off p hp hA a int text op hop he' hmany hI hlow (through_low he (by rw [hT]; exact hlow))
      · by_cases h1 : aK op = 1
        · obtain ⟨ha0, ha1⟩ := target_lt hr h1
          have ha0' : 0 ≤ a := ha0
          have ha1' : a < (x.n : Int) := ha1
          obtain ⟨q, hq⟩ : ∃ q : Nat, a = (q : Int) := ⟨a.toNat, by omega⟩
          have hlow' : ¬ dAt d p < takesI (⟨op, a, int, text.data.toList⟩ : Ins) := by rw [hT]; exact hlow
          have hqt : a.toNat = q := by omega
          rcases target_ops op h1 with rfl | rfl | rfl | rfl | rfl
          · refine thr_1 h hn hm b off p hp hA a int text hI hD h0 q hq (by omega) ?_
            rw [through_jump hlow' rfl]
            show meetS d a.toNat (dAt d p - 0 + 0) = _
            rw [hqt]; congr 1; omega
          · refine thr_2 h hn hm b off p hp hA a int text hI hD h0 q hq (by omega) hlow ?_
            rw [through_both he hlow' h1 (by simp)]
            show (if (meetS d a.toNat (dAt d p - 1 + 0)).2 = true then meetS (meetS d a.toNat (dAt d p - 1 + 0)).1 (p + 1) (dAt d p - 1 + 0) else ((meetS d a.toNat (dAt d p - 1 + 0)).1, false)) = _
            rw [hqt, show dAt d p - 1 + 0 = dAt d p - 1 by omega]; rfl
          · refine thr_3 h hn hm b off p hp hA a int text hI hD h0 q hq (by omega) hlow ?_
            rw [through_both he hlow' h1 (by simp)]
            show (if (meetS d a.toNat (dAt d p)).2 = true then meetS (meetS d a.toNat (dAt d p)).1 (p + 1) (dAt d p - 1 + 0) else ((meetS d a.toNat (dAt d p)).1, false)) = _
            rw [hqt, show dAt d p - 1 + 0 = dAt d p - 1 by omega]; rfl
          · refine thr_4 h hn hm b off p hp hA a int text hI hD h0 q hq (by omega) hlow ?_
            rw [through_both he hlow' h1 (by simp)]
            show (if (meetS d a.toNat (dAt d p)).2 = true then meetS (meetS d a.toNat (dAt d p)).1 (p + 1) (dAt d p - 1 + 0) else ((meetS d a.toNat (dAt d p)).1, false)) = _
            rw [hqt, show dAt d p - 1 + 0 = dAt d p - 1 by omega]; rfl
          · refine thr_53 h hn hm b off p hp hA a int text hI hD h0 q hq (by omega) ?_
            rw [through_both he hlow' h1 (by simp)]
            show (if (meetS d a.toNat 0).2 = true then meetS (meetS d a.toNat 0).1 (p + 1) (dAt d p - 0 + 1) else ((meetS d a.toNat 0).1, false)) = _
            rw [hqt, show dAt d p - 0 + 1 = dAt d p + 1 by omega]; rfl
        · refine thr_next_p h hn hm b off p hp hA a int text op hop he' hmany h1 hI hD h0 hlow ?_
          rw [through_next he (by rw [hT]; exact hlow) h1]
          unfold nextI
          rw [hT]

/-- Popping, with all that is known of the walk's state. -/
def PopSome (w0 w : World) (x : Fx) (d : List Int) (g : List Bool) (m : Nat) (K : Nat → Prop) (e : Ending) (w' : World) : Prop :=
  ∃ (p : Nat) (num : Int), e = .returned (.tuple #[.int .i64 (p : Int), .int .i64 (dAt d p), .int .i64 num, .bool true]) ∧ leastB d g = some p ∧ Turn w w' K ∧ St w0 w' x d (g.set p true) (m + 1) K
/-- Is nothing more to be gone through? -/
def noneB (d : List Int) (g : List Bool) : Bool := (leastB d g).isNone
theorem pop_st_none {w0 w : World} {x : Fx} {d : List Int} {g : List Bool} {m : Nat} {K : Nat → Prop} (h : St w0 w x d g m K) (hb : noneB d g = true) :
    Calls Try.prog 47 #[.pointer (some ⟨x.sb, 0, none⟩)] w (Ret (.tuple #[.int .i64 0, .int .i64 0, .int .i64 0, .bool false]) w) := by
  obtain ⟨sl, nx, L, c, h1, h2, h3, h4, h5, h6, h7, h8⟩ := h
  cases L with
  | nil => exact pop_none h1.hp
  | cons t L =>
    obtain ⟨p, hp, hpe⟩ := h4.key t (List.mem_cons_self ..)
    unfold noneB at hb
    rw [Option.isNone_iff_eq_none, least_none] at hb
    rw [hb p hp] at hpe
    cases hpe.2.1
theorem pop_st_some {w0 w : World} {x : Fx} {d : List Int} {g : List Bool} {m : Nat} {K : Nat → Prop} (h : St w0 w x d g m K) (hn : (x.n : Int) ≤ 8192) (hm : m ≤ 1000000) (hb : noneB d g = false) :
    Calls Try.prog 47 #[.pointer (some ⟨x.sb, 0, none⟩)] w (PopSome w0 w x d g m K) := by
  obtain ⟨sl, nx, L, c, h1, h2, h3, h4, h5, h6, ⟨a1, a2, a3, a4⟩, h8⟩ := h
  have hL : 0 < L.length := by
    cases L with
    | nil => unfold noneB at hb; rw [sync_none h4] at hb; cases hb
    | cons t L => simp
  have hbd := h4.bound
  have hdl := h1.dl
  refine (pop_some h1.hp hL h2 h3 (by omega) (by unfold maxLen; omega)).mono ?_
  rintro e w' ⟨rfl, L', sl', p', ih', hp', ho, t'⟩
  obtain ⟨p, s1, s2, s3, s4⟩ := sync_pop h4 hL h2 p'
  have tK : Turn w w' K := t'.weaken (fun j hj => by
    rcases hj with rfl | rfl | hj
    · exact a2
    · exact a3
    · exact a4 _ hj)
  have hlen := p'.length_eq
  simp at hlen
  refine ⟨p, (atL L 0).num, by rw [s2, s3], s1, tK, sl', nx, L', _, h1.turn t' hp' (fun g e => .inl (by rw [← ho]; exact e)), ih', ?_, s4, by omega, ?_, ⟨a1, a2, a3, fun g e => a4 g (by rw [← ho]; exact e)⟩, fun k hk => ⟨(h8 k hk).1, Nat.lt_of_lt_of_le (h8 k hk).2 tK.size⟩⟩
  · exact fun t ht => h3 t (p'.mem_iff.1 (List.mem_cons_of_mem _ ht))
  · exact h6.trans ⟨tK.1, tK.2.1, tK.2.2.1, tK.size, fun k hk => tK.block (Nat.lt_of_lt_of_le hk h6.size) (fun hKk => by have := (h8 k hKk).1; omega)⟩
end Go.Proofs.Ytefijgdbnjmifaa

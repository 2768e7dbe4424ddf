/- Check and Depths, walked. -/
import Derived.Test.YtefijgdbnjmifaaLookG
namespace Go.Proofs.Ytefijgdbnjmifaa
open Go.RowKit Go.Maps

theorem lookS_arg {c : List Ins} {p : Int} (h : p < 0 ∨ 100 < p) : lookS c p = ⟨0, 0, 0, [], 1⟩ := if_pos h
theorem lookS_long {c : List Ins} {p : Int} (h : ¬ (p < 0 ∨ 100 < p)) (h2 : 8192 < c.length) : lookS c p = ⟨0, 0, 0, [], 2⟩ := (if_neg h).trans (if_pos h2)
theorem lookS_empty {c : List Ins} {p : Int} (h : ¬ (p < 0 ∨ 100 < p)) (h2 : c.length = 0) : lookS c p = ⟨0, 0, 0, [], 3⟩ := (if_neg h).trans ((if_neg (by omega)).trans (if_pos h2))
theorem look_any {w : World} {A : Option Addr} {n cc : Nat} {cs : List InsV} (hcode : CodeIn w A cs) (hl : cs.length = n) (hok : OkC cs) (hn : n ≤ 9223372036854775807) (p : Int) :
    Calls Try.prog 19 #[.slice A n cc, .int .i64 p] w (LPost (insL cs) p w A n cc) := by
  have hlc : (insL cs).length = n := by rw [insL_length, hl]
  by_cases hp : p < 0 ∨ 100 < p
  · refine (look_arg A n cc p hp w).mono ?_
    rintro e w' ⟨rfl, rfl⟩
    refine .inl ?_
    rw [lookS_arg hp]
    exact ⟨by simp, rfl, rfl, rfl, rfl, Below.refl _ _⟩
  · by_cases h8 : 8192 < n
    · refine (look_long A n cc p hn h8 (by omega) (by omega) w).mono ?_
      rintro e w' ⟨rfl, rfl⟩
      refine .inl ?_
      rw [lookS_long hp (by omega)]
      exact ⟨by simp, rfl, rfl, rfl, rfl, Below.refl _ _⟩
    · by_cases h0 : n = 0
      · subst h0
        refine (look_empty A cc p (by omega) (by omega) w).mono ?_
        rintro e w' ⟨rfl, rfl⟩
        refine .inl ?_
        rw [lookS_empty hp hlc]
        exact ⟨by simp, rfl, rfl, rfl, rfl, Below.refl _ _⟩
      · exact look_more hcode hl hok (by omega) (by omega) p (by omega) (by omega)
def CPost (S : Said) (w : World) (e : Ending) (w' : World) : Prop :=
  e = .returned (.tuple #[.int .i64 S.slots, .int .i64 S.stack, .int .i64 S.wrong, .int .i64 S.e]) ∧ Below w.heap.size w w'
theorem slots_two {c : List Ins} {p : Int} {k : Nat} (h : aK (atI c k).op = 2) : slotsTo c p (k + 1) = max (slotsTo c p k) ((atI c k).a + 1) := if_pos h
theorem slots_no {c : List Ins} {p : Int} {k : Nat} (h : aK (atI c k).op ≠ 2) : slotsTo c p (k + 1) = slotsTo c p k := if_neg h
theorem slots_bd {c : List Ins} {p : Int} (hr : AllR c) (h0 : 0 ≤ p) (h1 : p ≤ 100) : ∀ k, k ≤ c.length → 0 ≤ slotsTo c p k ∧ slotsTo c p k ≤ 100 := by
  intro k
  induction k with
  | zero => intro _; exact ⟨h0, h1⟩
  | succ k ih =>
    intro hk
    have := ih (by omega)
    by_cases h : aK (atI c k).op = 2
    · rw [slots_two h]
      have ha := rightI_a (hr k (by omega))
      have : topK (atI c k).op c.length = 100 := by unfold topK; rw [h]; rfl
      omega
    · rw [slots_no h]; exact this
theorem two_B (op : Nat) (h : aK op = 2) : (aB op == 115) = true := by unfold aB; rw [h]; rfl
theorem not_two_B (op : Nat) (h : aK op ≠ 2) : (aB op == 115) = false := by
  unfold aB
  by_cases h1 : aK op = 1
  · rw [if_pos h1]; rfl
  · rw [if_neg h1, if_neg h]; split <;> rfl
theorem lpost_p {c : List Ins} {p : Int} (h : lookS c p = ⟨slotsTo c p c.length, stackTo (fitsS c).1 c.length, 0, (fitsS c).1, 0⟩) : 0 ≤ p ∧ p ≤ 100 ∧ 0 < c.length ∧ c.length ≤ 8192 := by
  have he : (lookS c p).e = 0 := by rw [h]
  by_cases hp : p < 0 ∨ 100 < p
  · rw [lookS_arg hp] at he; cases he
  · by_cases h8 : 8192 < c.length
    · rw [lookS_long hp h8] at he; cases he
    · by_cases h0 : c.length = 0
      · rw [lookS_empty hp h0] at he; cases he
      · omega
set_option maxRecDepth 100000 in
set_option maxHeartbeats 4000000 in
theorem check_any {w : World} {A : Option Addr} {n cc : Nat} {cs : List InsV} (hcode : CodeIn w A cs) (hl : cs.length = n) (hok : OkC cs) (hn : n ≤ 9223372036854775807) (p : Int) :
    Calls Try.prog 8 #[.slice A n cc, .int .i64 p] w (CPost (lookS (insL cs) p) w) := by
  have HC := Lib.hid hcode
  have HL := Lib.hid hl
  have HO := Lib.hid hok
  have HLC := Lib.hid (show (insL cs).length = n by rw [insL_length, hl])
  clear hcode hl hok
  go_enter Try.func8, Try.ntmps8
  go_wp2_with fail
  refine (look_any HC.out HL.out HO.out hn p).mono ?_
  rintro e w1 (⟨h1, h2, h3, h4, rfl, hb⟩ | ⟨hS, hR, hW, x, g, m, K, rfl, s1, ha, hnn, hcc, hdc⟩)
  · have E := Lib.hid (show lookS (insL cs) p = ⟨0, 0, (lookS (insL cs) p).wrong, [], (lookS (insL cs) p).e⟩ by
      generalize lookS (insL cs) p = S at *
      obtain ⟨a, b, c, d, e⟩ := S
      simp only at h2 h3 h4
      subst h2 h3 h4
      rfl)
    generalize (lookS (insL cs) p).e = ee at *
    generalize (lookS (insL cs) p).wrong = ww at *
    have hne : (ee != 0) = true := by simpa using h1
    clear h1 h2 h3 h4
    go_wp2_with fail
    refine bodyPost_ret (v := .tuple #[.int .i64 0, .int .i64 0, .int .i64 ww, .int .i64 ee]) (by simp [results, Try.results8, go_sem]) rfl ?_
    rw [E.out]
    exact ⟨rfl, hb⟩
  · subst hnn
    obtain ⟨hp0, hp1, hn0, hn8⟩ := lpost_p hS
    have SB := Lib.hid (slots_bd hR hp0 hp1)
    have hS2 := s1
    obtain ⟨k0, k1, k2, dl, dcell, wlt, dlt⟩ := s1.cells
    have HD := Lib.hid dcell
    have HS := Lib.hid hS
    have HRR := Lib.hid hR
    have S1 := Lib.hid s1
    have hn8' : x.n ≤ 8192 := by have := HLC.out; omega
    have DM := Lib.hid (fits_spec hR hn0).2.2.1
    have DL := Lib.hid dl
    clear hS hR hW s1 hS2 dcell dl k0 k2 hn0 hn8
    subst ha hcc
    go_wp2_with fail
    go_loopw [25, 9, 10, 4, 5] (fun i _ _ s t wr => ∃ k : Nat, k ≤ x.n ∧ i = .int .i64 k ∧ s = .int .i64 (slotsTo (insL cs) p k) ∧ t = .int .i64 (stackTo (fitsS (insL cs)).1 k) ∧ Below w1.heap.size w1 wr) (fun i _ _ _ _ _ => x.n - (intOf i).toNat)
    case atStart => exact ⟨0, Nat.zero_le _, rfl, rfl, rfl, Below.refl _ _⟩
    case round =>
      obtain ⟨k, hk, rfl, rfl, rfl, hb⟩ := hrel
      have HB := Lib.hid hb
      by_cases hlt : k < x.n
      · have dk := (hb.cell (p := ⟨x.db, k, none⟩) dlt).trans (HD.out k hlt)
        have k1' := (hb.cell (p := ⟨x.wb, 1, none⟩) wlt).trans k1
        obtain ⟨b, off, hA, hbl, hcell⟩ := HC.out (by have := HL.out; omega)
        obtain ⟨q0, q1, q2, q3⟩ := hcell k (by have := HL.out; omega)
        have hkk := fun o => (hb.cell (p := ⟨b, o, none⟩) (Nat.lt_of_lt_of_le hbl S1.out.low.size)).trans (S1.out.low.cell (p := ⟨b, o, none⟩) hbl)
        have q0 := (hkk _).trans q0
        have q1 := (hkk _).trans q1
        have q2 := (hkk _).trans q2
        have q3 := (hkk _).trans q3
        obtain ⟨ok1, ok2⟩ := HO.out k (by have := HL.out; omega)
        have EI := Lib.hid (atI_ins cs k)
        rw [hA]
        have hwl := hb.size
        have sb := SB.out k (by have := HLC.out; omega)
        have ra := rightI_a (HRR.out k (by have := HLC.out; omega))
        rw [atI_ins] at ra
        generalize atV cs k = v at *
        obtain ⟨op, a, int, text⟩ := v
        simp only [InsV.ins] at q0 q1 q2 q3 ok1 ra
        have KA := Lib.hid (fun w => kind_any op ok1 w)
        have dm := DM.out k (by have := DL.out; omega)
        have ST := Lib.hid (show stackTo (fitsS (insL cs)).1 (k + 1) = max (stackTo (fitsS (insL cs)).1 k) (dAt (fitsS (insL cs)).1 k) from rfl)
        generalize stackTo (fitsS (insL cs)).1 k = st at *
        generalize dAt (fitsS (insL cs)).1 k = dd at *
        have hfl : ∀ w, (Instr.field 55 (kindV op) 1).run Try.prog w = .ok (.int .u8 (aB op)) w := fun _ => by kernel_rfl
        clear hkk hcell ok2 hb
        by_cases h2 : aK op = 2
        · have hB := two_B op h2
          have htop : topK op (insL cs).length = 100 := by unfold topK; rw [h2]; rfl
          rw [htop] at ra
          have SL := Lib.hid (slots_two (c := insL cs) (p := p) (k := k) (by rw [EI.out]; exact h2))
          have SL2 := Lib.hid (show slotsTo (insL cs) p (k + 1) = max (slotsTo (insL cs) p k) (a + 1) by rw [SL.out, EI.out]; rfl)
          generalize slotsTo (insL cs) p k = sl at *
          clear h2 htop
          go_wp2_with fail
          refine (KA.out _).mono ?_
          rintro e w2 ⟨rfl, h2⟩
          have c2 := (bcell h2).1
          have hX2 : Below wr.heap.size wr w2 := bthen ((Below.refl _ wr).alloc (Nat.le_refl _) _) h2
          have HX := Lib.hid (bthen' HB.out hX2 (Nat.le_refl _))
          have k1'' := (hX2.cell (p := ⟨x.wb, 1, none⟩) (show x.wb < wr.heap.size by omega)).trans k1'
          have dk'' := (hX2.cell (p := ⟨x.db, k, none⟩) (show x.db < wr.heap.size by omega)).trans dk
          clear hX2
          go_wp2_with fail
          all_goals
            go_roundw
            case rel => exact ⟨k + 1, by omega, by go_num, int_eq (by rw [SL2.out]; first | done | omega), int_eq (by rw [ST.out]; first | done | omega), HX.out⟩
            case measure => simp [intOf]; omega
        · have hB := not_two_B op h2
          have SL := Lib.hid (slots_no (c := insL cs) (p := p) (k := k) (by rw [EI.out]; exact h2))
          generalize slotsTo (insL cs) p k = sl at *
          clear h2
          go_wp2_with fail
          refine (KA.out _).mono ?_
          rintro e w2 ⟨rfl, h2⟩
          have c2 := (bcell h2).1
          have hX2 : Below wr.heap.size wr w2 := bthen ((Below.refl _ wr).alloc (Nat.le_refl _) _) h2
          have HX := Lib.hid (bthen' HB.out hX2 (Nat.le_refl _))
          have k1'' := (hX2.cell (p := ⟨x.wb, 1, none⟩) (show x.wb < wr.heap.size by omega)).trans k1'
          have dk'' := (hX2.cell (p := ⟨x.db, k, none⟩) (show x.db < wr.heap.size by omega)).trans dk
          clear hX2
          go_wp2_with fail
          all_goals
            go_roundw
            case rel => exact ⟨k + 1, by omega, by go_num, int_eq (by rw [SL.out]; first | done | omega), int_eq (by rw [ST.out]; first | done | omega), HX.out⟩
            case measure => simp [intOf]; omega
      · have E := Lib.hid (HS.out)
        have hkn : k = (insL cs).length := by have := HLC.out; omega
        have F := Lib.hid (show lookS (insL cs) p = ⟨slotsTo (insL cs) p k, stackTo (fitsS (insL cs)).1 k, 0, (fitsS (insL cs)).1, 0⟩ by rw [HS.out, hkn])
        generalize slotsTo (insL cs) p k = sl at *
        generalize stackTo (fitsS (insL cs)).1 k = st at *
        clear hkn
        go_wp2_with fail
        refine bodyPost_ret (v := .tuple #[.int .i64 sl, .int .i64 st, .int .i64 0, .int .i64 0]) (by simp [results, Try.results8, go_sem]) rfl ?_
        rw [F.out]
        exact ⟨rfl, bthen' S1.out.low HB.out (by exact Nat.le_refl _)⟩
/-- The depths, handed back. -/
def DPost (c : List Ins) (S : Said) (w : World) (n : Nat) (e : Ending) (w' : World) : Prop :=
  (S.e ≠ 0 ∧ S.d = [] ∧ e = .returned (.tuple #[.slice none 0 0, .int .i64 S.e]) ∧ Below w.heap.size w w') ∨
  (S.e = 0 ∧ S.d = (fitsS c).1 ∧ AllR c ∧ ¬ 0 ≤ wrongS c ∧ 0 < c.length ∧ ∃ db dc : Nat, e = .returned (.tuple #[.slice (some ⟨db, 0, none⟩) n dc, .int .i64 0]) ∧ w.heap.size ≤ db ∧ db < w'.heap.size ∧ (∀ j, j < n → w'.cell? ⟨db, j, none⟩ = some (.int .i64 (dAt (fitsS c).1 j))) ∧ Below w.heap.size w w')
set_option maxRecDepth 100000 in
theorem depths_any {w : World} {A : Option Addr} {n cc : Nat} {cs : List InsV} (hcode : CodeIn w A cs) (hl : cs.length = n) (hok : OkC cs) (hn : n ≤ 9223372036854775807) (p : Int) :
    Calls Try.prog 10 #[.slice A n cc, .int .i64 p] w (DPost (insL cs) (lookS (insL cs) p) w n) := by
  have HC := Lib.hid hcode
  have HL := Lib.hid hl
  have HO := Lib.hid hok
  clear hcode hl hok
  go_enter Try.func10, Try.ntmps10
  go_wp2_with fail
  refine (look_any HC.out HL.out HO.out hn p).mono ?_
  rintro e w1 (⟨h1, h2, h3, h4, rfl, hb⟩ | ⟨hS, hR, hW, x, g, m, K, rfl, s1, ha, hnn, hcc, hdc⟩)
  · have H1 := Lib.hid h1
    have H2 := Lib.hid h2
    generalize hee : (lookS (insL cs) p).e = ee at *
    generalize (lookS (insL cs) p).wrong = ww at *
    have hne : (ee != 0) = true := by simpa using h1
    have HEE := Lib.hid hee
    clear h1 h2 h3 h4 hee
    go_wp2_with fail
    go_ret2
    refine .inl ⟨?_, H2.out, by rw [HEE.out]; rfl, hb⟩
    rw [HEE.out]; exact H1.out
  · obtain ⟨k0, k1, k2, dl, dcell, wlt, dlt⟩ := s1.cells
    have HD := Lib.hid dcell
    have HS := Lib.hid hS
    have HRR := Lib.hid hR
    have HW := Lib.hid hW
    have S1 := Lib.hid s1
    have HP := Lib.hid (lpost_p hS).2.2.1
    subst hnn
    clear hS hR hW s1 dcell dl k0 k2 ha hcc hdc
    go_wp2_with fail
    go_ret2
    refine .inr ?_
    rw [HS.out]
    obtain ⟨sl, nx, L, c, _, _, _, _, _, hlow, ⟨hKd, _⟩, hKb⟩ := S1.out
    exact ⟨rfl, rfl, HRR.out, (by have := HW.out; omega), HP.out, x.db, x.dc, rfl, (hKb _ hKd).1, (hKb _ hKd).2, HD.out, hlow⟩
end Go.Proofs.Ytefijgdbnjmifaa

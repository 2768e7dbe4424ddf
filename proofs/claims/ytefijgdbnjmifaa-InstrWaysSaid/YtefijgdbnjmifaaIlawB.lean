/- The statement InstrWays, walked. Printed by a program. -/
import Derived.Test.YtefijgdbnjmifaaIlawA
import Derived.Test.YtefijgdbnjmifaaWaysP
import Derived.Test.YtefijgdbnjmifaaSlices
namespace Go.Proofs.Ytefijgdbnjmifaa
open Go.RowKit Go.Maps

/-- In the midst of going. -/
def WRel (c : List Ins) (d : List Int) (n2 : Nat) (w4 : World) (i a dp f fr : Value) (wr : World) : Prop :=
  ∃ (k p fork free : Nat), k ≤ n2 ∧ i = .int .i64 k ∧ a = .int .i64 p ∧ dp = .int .i64 (dAt d p) ∧ f = .int .i64 fork ∧ fr = .int .i64 free ∧ Way c d p fork free ∧ Below w4.heap.size w4 wr
set_option maxRecDepth 100000 in
set_option maxHeartbeats 16000000 in
theorem ways_law (cs : List InsV) (A : Option Addr) (n cc : Nat) (p0 : Int) (B : Nat → Bool) (A2 : Option Addr) (n2 c2 : Nat) (w : World) (hn : n ≤ 9223372036854775807) (hl : cs.length = n) (hcode : CodeIn w A cs) (hok : OkC cs) (hn2 : n2 ≤ 9223372036854775807) (ht : Sl w 1 A2 n2 (fun j => .bool (B j))) :
    Calls Try.prog 4 #[.slice A n cc, .int .i64 p0, .slice A2 n2 c2] w (RetB (.bool true) w) := by
  have HC := Lib.hid hcode
  have HL := Lib.hid hl
  have HO := Lib.hid hok
  have HN := Lib.hid hn
  have HT := Lib.hid ht
  have HLC := Lib.hid (show (insL cs).length = n by rw [insL_length, hl])
  clear hcode hl hok ht
  by_cases h4 : 400 < n
  · have hb : decide ((400 : Int) < (n : Int)) = true := decide_eq_true (by omega)
    go_enter Try.func4, Try.ntmps4
    go_wp2_with fail
    refine (awake_any _).mono ?_
    rintro e w1 ⟨rfl, h1⟩
    go_wp2_with fail
    go_ret
    exact ⟨rfl, h1⟩
  have hb : decide ((400 : Int) < (n : Int)) = false := decide_eq_false (by omega)
  by_cases h3 : 300 < n2
  · have hb2 : decide ((300 : Int) < (n2 : Int)) = true := decide_eq_true (by omega)
    go_enter Try.func4, Try.ntmps4
    go_wp2_with fail
    refine (awake_any _).mono ?_
    rintro e w1 ⟨rfl, h1⟩
    go_wp2_with fail
    go_ret
    exact ⟨rfl, h1⟩
  have hb2 : decide ((300 : Int) < (n2 : Int)) = false := decide_eq_false (by omega)
  go_enter Try.func4, Try.ntmps4
  go_wp2_with fail
  refine (awake_any _).mono ?_
  rintro e w1 ⟨rfl, h1⟩
  have HC1 := Lib.hid (HC.out.keep h1)
  go_wp2_with fail
  refine (depths_any HC1.out HL.out HO.out HN.out p0).mono ?_
  rintro e w4 (⟨h5, _, rfl, h4'⟩ | ⟨he, hd, hR, hW, hn0, db, dc, rfl, hlo, hdlt, hcell, h4'⟩)
  · generalize (lookS (insL cs) p0).e = se at *
    have hne : (se != 0) = true := by simpa using h5
    clear h5
    go_wp2_with fail
    go_ret
    exact ⟨rfl, bthen h1 h4'⟩
  · have FIT := Lib.hid (fit_of hR hn0 hW)
    have HB1 := Lib.hid (bthen h1 h4')
    have HC4 := Lib.hid (HC1.out.keep h4')
    have HT4 := Lib.hid (HT.out.below HB1.out (Nat.le_refl _))
    have hn0' : 0 < n := by have := HLC.out; omega
    have START := Lib.hid (way_start FIT.out hn0)
    have HCE := Lib.hid hcell
    have hn400 : n ≤ 400 := by omega
    obtain ⟨b, off, hA, hbl, hcc⟩ := HC4.out (by have := HL.out; omega)
    subst hA
    have CE := Lib.hid hcc
    have DL := Lib.hid FIT.out.zero
    clear he hd hR hW hn0 hcell h4' h1 h4 h3 hcc
    generalize (fitsS (insL cs)).1 = d at *
    go_wp2_with fail
    go_loopw [13, 9, 10, 11, 12, 14, 15, 16, 17, 18] (fun i a dp f fr _ _ _ _ _ wr => WRel (insL cs) d n2 w4 i a dp f fr wr) (fun i _ _ _ _ _ _ _ _ _ _ => n2 - (intOf i).toNat)
    case atStart => exact ⟨0, 0, 0, 0, Nat.zero_le _, rfl, rfl, by rw [DL.out], rfl, rfl, START.out, Below.refl _ _⟩
    case round =>
      obtain ⟨k, p, fork, free, hk, rfl, rfl, rfl, rfl, rfl, hway, hbr⟩ := hrel
      have WY := Lib.hid hway
      have HB := Lib.hid hbr
      have hpl := hway.lt
      rw [HLC.out] at hpl
      clear hway
      by_cases hlt : k < n2
      · obtain ⟨bt, ot, hA2, hbt4, htc⟩ := HT4.out (by omega)
        subst hA2
        have hszr := hbr.size
        have tw : wr.cell? ⟨bt, ot + k, none⟩ = some (.bool (B k)) := (hbr.cell (p := ⟨bt, ot + k, none⟩) hbt4).trans (htc k (by omega))
        have dp := (hbr.cell (p := ⟨db, p, none⟩) hdlt).trans (HCE.out p hpl)
        obtain ⟨q0, q1, q2, q3⟩ := CE.out p (by have := HL.out; omega)
        have hkk := fun o => hbr.cell (p := ⟨b, o, none⟩) hbl
        have q0 := (hkk _).trans q0
        have q1 := (hkk _).trans q1
        have q2 := (hkk _).trans q2
        have q3 := (hkk _).trans q3
        obtain ⟨ok1, _⟩ := HO.out p (by have := HL.out; omega)
        have EI := Lib.hid (atI_ins cs p)
        have WF := Lib.hid (way_free FIT.out WY.out)
        have WT := Lib.hid (way_takes FIT.out WY.out)
        have HP := FIT.out.right p (by have := HLC.out; omega)
        have dmm := FIT.out.dom p (by have := FIT.out.len; have := HLC.out; omega)
        have dnn := WY.out.nn
        have WA := Lib.hid (fun q hq => way_again FIT.out WY.out (q := q) hq)
        have WN := Lib.hid (fun he h1 => way_next FIT.out WY.out he h1)
        have WJ := Lib.hid (fun he h1 h2 => way_jump FIT.out WY.out he h1 h2)
        rw [EI.out] at WF WT HP WN WJ
        rw [HLC.out] at WF dmm
        generalize atV cs p = v at *
        obtain ⟨op, a, int, text⟩ := v
        simp only [InsV.ins] at q0 q1 q2 q3 ok1 WF WT HP WN WJ
        have tn := takesI_nn HP
        have WT1 := WT.out.1
        have TGT := Lib.hid (fun h => target_lt HP h)
        have TK := Lib.hid (fun w => rtakes_any op a int text ok1 w)
        have BE := Lib.hid (fun w => rbehind_any op a int text ok1 (dAt d p) dnn (by omega) WT1 tn.1 w)
        have RO : Hid (∀ w, Calls Try.prog 14 #[.int .u8 (op : Int)] w (RetB (.agg #[.string (wordK op), .int .i64 (aK op), .bool (numK op), .bool (decide (textK op = 1)), .bool (decide (textK op = 2)), .int .i64 (takesK op), .int .i64 (leaveK op)]) w)) := Lib.hid (fun w => row_any op ok1 w)
        have hfl : ∀ w, (Instr.field 42 (.agg #[.string (wordK op), .int .i64 (aK op), .bool (numK op), .bool (decide (textK op = 1)), .bool (decide (textK op = 2)), .int .i64 (takesK op), .int .i64 (leaveK op)]) 1).run Try.prog w = .ok (.int .i64 (aK op)) w := fun _ => by kernel_rfl
        have EN0 := Lib.hid (fun w => rends_any op ok1 w)
        have hge : decide (n ≤ p) = false := decide_eq_false (by omega)
        have hge2 : decide ((n : Int) ≤ (p : Int)) = false := decide_eq_false (by omega)
        have hfl0 := way_le FIT.out WY.out
        rw [HLC.out] at hfl0
        clear hkk htc hbr
        cases hen : endsK op with
        | true =>
          have EN : Hid (∀ w, Calls Try.prog 12 #[.int .u8 (op : Int)] w (Ret (.bool true) w)) := Lib.hid (fun w => by have := EN0.out w; rwa [hen] at this)
          have HEQ := WT.out.2 hen
          have h8 := ends_ops op hen
          have EQ := Lib.hid HEQ
          have t1 : ((op : Int) == 1) = false := beq_eq_false_iff_ne.2 (by omega)
          have n1 : ((op : Int) != 1) = true := by rw [bne_iff_ne]; omega
          have n5 : ((op : Int) != 5) = true := by rw [bne_iff_ne]; omega
          clear hen WT WN WJ BE EN0 h8
          rw [← HEQ] at TK
          have AG := Lib.hid (fun q hq => WA.out q hq)
          clear HEQ WT1
          generalize dAt d p = dd at *
          cases htb : B k with
          | true =>
            rw [htb] at tw
            clear htb
            go_wp2_with fail
            refine (TK.out _).mono ?_
            rintro e w2 ⟨rfl, h2⟩
            have hX2 : Below wr.heap.size wr w2 := bthen ((Below.refl _ wr).alloc (Nat.le_refl _) _) h2
            have c2 := (bcell h2).1
            have s2 : wr.heap.size < w2.heap.size := szlt h2 (by simp)
            have tw2 := (hX2.cell (p := ⟨bt, ot + k, none⟩) (show bt < wr.heap.size by omega)).trans tw
            have HX2 := Lib.hid hX2
            clear hX2
            go_wp2_with fail
            refine (EN.out _).mono ?_
            rintro e w3 ⟨rfl, rfl⟩
            go_wp2_with fail
            go_roundw
            case rel =>
              obtain ⟨y1, y2⟩ := AG.out fork (.inr rfl)
              exact ⟨k + 1, fork, fork, 0, by omega, by go_num, rfl, by rw [y2], rfl, rfl, y1, bthen' HB.out HX2.out (Nat.le_refl _)⟩
            case measure => simp [intOf]; omega
          | false =>
            rw [htb] at tw
            clear htb
            go_wp2_with fail
            refine (TK.out _).mono ?_
            rintro e w2 ⟨rfl, h2⟩
            have hX2 : Below wr.heap.size wr w2 := bthen ((Below.refl _ wr).alloc (Nat.le_refl _) _) h2
            have c2 := (bcell h2).1
            have s2 : wr.heap.size < w2.heap.size := szlt h2 (by simp)
            have tw2 := (hX2.cell (p := ⟨bt, ot + k, none⟩) (show bt < wr.heap.size by omega)).trans tw
            have HX2 := Lib.hid hX2
            clear hX2
            go_wp2_with fail
            refine (EN.out _).mono ?_
            rintro e w3 ⟨rfl, rfl⟩
            go_wp2_with fail
            go_roundw
            case rel =>
              obtain ⟨y1, y2⟩ := AG.out 0 (.inl rfl)
              exact ⟨k + 1, 0, fork, 0, by omega, by go_num, rfl, by rw [y2], rfl, rfl, y1, bthen' HB.out HX2.out (Nat.le_refl _)⟩
            case measure => simp [intOf]; omega
        | false =>
          have EN : Hid (∀ w, Calls Try.prog 12 #[.int .u8 (op : Int)] w (Ret (.bool false) w)) := Lib.hid (fun w => by have := EN0.out w; rwa [hen] at this)
          have NE := Lib.hid (show ¬ endsK op = true by rw [hen]; simp)
          clear hen EN0 WT WA
          have WA : True := trivial
          by_cases o1 : op = 1
          · have hA1 : aK op = 1 := by rw [o1]; rfl
            obtain ⟨z0, z1⟩ := TGT.out hA1
            have z0' : 0 ≤ a := z0
            obtain ⟨q, hq⟩ : ∃ q : Nat, a = (q : Int) := ⟨a.toNat, by omega⟩
            subst hq
            clear z0 z1 z0'
            cases htb : B k with
            | true =>
              have t1 : ((op : Int) == 1) = true := beq_iff_eq.2 (by omega)
              have n1 : ((op : Int) != 1) = false := by rw [bne_eq_false_iff_eq]; omega
              have n5 : ((op : Int) != 5) = true := by rw [bne_iff_ne]; omega
              have t53 : ((op : Int) == 53) = false := beq_eq_false_iff_ne.2 (by omega)
              have n53 : ((op : Int) != 53) = true := by rw [bne_iff_ne]; omega
              have FN : Hid (freeN (⟨op, (q : Int), int, text.data.toList⟩ : Ins) free = free + 1) := Lib.hid (by unfold freeN; exact if_pos (by show op = 1 ∨ op = 5; omega))
              have KN : Hid (forkN (⟨op, (q : Int), int, text.data.toList⟩ : Ins) fork = fork) := Lib.hid (by unfold forkN; exact if_neg (by show op ≠ 53; omega))
              have MV : Hid (Way (insL cs) d q (fork) (free + 1) ∧ dAt d q = thereI (⟨op, (q : Int), int, text.data.toList⟩ : Ins) (dAt d p)) := Lib.hid (by have := WJ.out NE.out hA1 ⟨by omega, by omega⟩; rw [FN.out, KN.out] at this; exact ⟨this.1, this.2.1⟩)
              have wfn : free + 1 ≤ n := by have := WF.out; rw [FN.out] at this; exact this
              clear o1 hA1
              rw [htb] at tw
              clear htb WA WN WJ TGT
              generalize thereI (⟨op, (q : Int), int, text.data.toList⟩ : Ins) (dAt d p) = th at *
              generalize nextI (⟨op, (q : Int), int, text.data.toList⟩ : Ins) (dAt d p) = nx at *
              generalize takesI (⟨op, (q : Int), int, text.data.toList⟩ : Ins) = tk at *
              generalize dAt d p = dd at *
              go_wp2_with fail
              refine (TK.out _).mono ?_
              rintro e w2 ⟨rfl, h2⟩
              have hX2 : Below wr.heap.size wr w2 := bthen ((Below.refl _ wr).alloc (Nat.le_refl _) _) h2
              have c2 := (bcell h2).1
              have s2 : wr.heap.size < w2.heap.size := szlt h2 (by simp)
              have tw2 := (hX2.cell (p := ⟨bt, ot + k, none⟩) (show bt < wr.heap.size by omega)).trans tw
              have HX2 := Lib.hid hX2
              clear hX2
              go_wp2_with fail
              refine (EN.out _).mono ?_
              rintro e w3 ⟨rfl, rfl⟩
              go_wp2_with fail
              refine (BE.out _).mono ?_
              rintro e w3 ⟨rfl, h3⟩
              have c3 := (bcell h3).1
              have tw3 := (h3.cell (p := ⟨bt, ot + k, none⟩) (show bt < w2.heap.size by omega)).trans tw2
              have HX3 := Lib.hid (bthen HX2.out h3)
              have s3 : wr.heap.size < w3.heap.size := szlt h3 s2
              go_wp2_with fail
              go_roundw
              case rel =>
                obtain ⟨y1, y2⟩ := MV.out
                exact ⟨k + 1, q, fork, free + 1, by omega, by go_num, rfl, by rw [y2], rfl, by go_num, y1, bthen' HB.out HX3.out (Nat.le_refl _)⟩
              case measure => simp [intOf]; omega
            | false =>
              have t1 : ((op : Int) == 1) = true := beq_iff_eq.2 (by omega)
              have n1 : ((op : Int) != 1) = false := by rw [bne_eq_false_iff_eq]; omega
              have n5 : ((op : Int) != 5) = true := by rw [bne_iff_ne]; omega
              have t53 : ((op : Int) == 53) = false := beq_eq_false_iff_ne.2 (by omega)
              have n53 : ((op : Int) != 53) = true := by rw [bne_iff_ne]; omega
              have FN : Hid (freeN (⟨op, (q : Int), int, text.data.toList⟩ : Ins) free = free + 1) := Lib.hid (by unfold freeN; exact if_pos (by show op = 1 ∨ op = 5; omega))
              have KN : Hid (forkN (⟨op, (q : Int), int, text.data.toList⟩ : Ins) fork = fork) := Lib.hid (by unfold forkN; exact if_neg (by show op ≠ 53; omega))
              have MV : Hid (Way (insL cs) d q (fork) (free + 1) ∧ dAt d q = thereI (⟨op, (q : Int), int, text.data.toList⟩ : Ins) (dAt d p)) := Lib.hid (by have := WJ.out NE.out hA1 ⟨by omega, by omega⟩; rw [FN.out, KN.out] at this; exact ⟨this.1, this.2.1⟩)
              have wfn : free + 1 ≤ n := by have := WF.out; rw [FN.out] at this; exact this
              clear o1 hA1
              rw [htb] at tw
              clear htb WA WN WJ TGT
              generalize thereI (⟨op, (q : Int), int, text.data.toList⟩ : Ins) (dAt d p) = th at *
              generalize nextI (⟨op, (q : Int), int, text.data.toList⟩ : Ins) (dAt d p) = nx at *
              generalize takesI (⟨op, (q : Int), int, text.data.toList⟩ : Ins) = tk at *
              generalize dAt d p = dd at *
              go_wp2_with fail
              refine (TK.out _).mono ?_
              rintro e w2 ⟨rfl, h2⟩
              have hX2 : Below wr.heap.size wr w2 := bthen ((Below.refl _ wr).alloc (Nat.le_refl _) _) h2
              have c2 := (bcell h2).1
              have s2 : wr.heap.size < w2.heap.size := szlt h2 (by simp)
              have tw2 := (hX2.cell (p := ⟨bt, ot + k, none⟩) (show bt < wr.heap.size by omega)).trans tw
              have HX2 := Lib.hid hX2
              clear hX2
              go_wp2_with fail
              refine (EN.out _).mono ?_
              rintro e w3 ⟨rfl, rfl⟩
              go_wp2_with fail
              refine (BE.out _).mono ?_
              rintro e w3 ⟨rfl, h3⟩
              have c3 := (bcell h3).1
              have tw3 := (h3.cell (p := ⟨bt, ot + k, none⟩) (show bt < w2.heap.size by omega)).trans tw2
              have HX3 := Lib.hid (bthen HX2.out h3)
              have s3 : wr.heap.size < w3.heap.size := szlt h3 s2
              go_wp2_with fail
              go_roundw
              case rel =>
                obtain ⟨y1, y2⟩ := MV.out
                exact ⟨k + 1, q, fork, free + 1, by omega, by go_num, rfl, by rw [y2], rfl, by go_num, y1, bthen' HB.out HX3.out (Nat.le_refl _)⟩
              case measure => simp [intOf]; omega
          · by_cases o53 : op = 53
            · have hA1 : aK op = 1 := by rw [o53]; rfl
              obtain ⟨z0, z1⟩ := TGT.out hA1
              have z0' : 0 ≤ a := z0
              obtain ⟨q, hq⟩ : ∃ q : Nat, a = (q : Int) := ⟨a.toNat, by omega⟩
              subst hq
              clear z0 z1 z0'
              cases htb : B k with
              | true =>
                have t1 : ((op : Int) == 1) = false := beq_eq_false_iff_ne.2 (by omega)
                have n1 : ((op : Int) != 1) = true := by rw [bne_iff_ne]; omega
                have n5 : ((op : Int) != 5) = true := by rw [bne_iff_ne]; omega
                have t53 : ((op : Int) == 53) = true := beq_iff_eq.2 (by omega)
                have n53 : ((op : Int) != 53) = false := by rw [bne_eq_false_iff_eq]; omega
                have FN : Hid (freeN (⟨op, (q : Int), int, text.data.toList⟩ : Ins) free = 0) := Lib.hid (by unfold freeN; exact if_neg (by show ¬ (op = 1 ∨ op = 5); omega))
                have KN : Hid (forkN (⟨op, (q : Int), int, text.data.toList⟩ : Ins) fork = q) := Lib.hid (by unfold forkN; exact if_pos (by show op = 53; omega))
                have MV : Hid (Way (insL cs) d (p + 1) (q) (0) ∧ dAt d (p + 1) = nextI (⟨op, (q : Int), int, text.data.toList⟩ : Ins) (dAt d p)) := Lib.hid (by have := WN.out NE.out (by omega); rw [FN.out, KN.out] at this; exact this)
                clear o1 o53 hA1
                rw [htb] at tw
                clear htb WA WN WJ TGT
                generalize thereI (⟨op, (q : Int), int, text.data.toList⟩ : Ins) (dAt d p) = th at *
                generalize nextI (⟨op, (q : Int), int, text.data.toList⟩ : Ins) (dAt d p) = nx at *
                generalize takesI (⟨op, (q : Int), int, text.data.toList⟩ : Ins) = tk at *
                generalize dAt d p = dd at *
                go_wp2_with fail
                refine (TK.out _).mono ?_
                rintro e w2 ⟨rfl, h2⟩
                have hX2 : Below wr.heap.size wr w2 := bthen ((Below.refl _ wr).alloc (Nat.le_refl _) _) h2
                have c2 := (bcell h2).1
                have s2 : wr.heap.size < w2.heap.size := szlt h2 (by simp)
                have tw2 := (hX2.cell (p := ⟨bt, ot + k, none⟩) (show bt < wr.heap.size by omega)).trans tw
                have HX2 := Lib.hid hX2
                clear hX2
                go_wp2_with fail
                refine (EN.out _).mono ?_
                rintro e w3 ⟨rfl, rfl⟩
                go_wp2_with fail
                refine (BE.out _).mono ?_
                rintro e w3 ⟨rfl, h3⟩
                have c3 := (bcell h3).1
                have tw3 := (h3.cell (p := ⟨bt, ot + k, none⟩) (show bt < w2.heap.size by omega)).trans tw2
                have HX3 := Lib.hid (bthen HX2.out h3)
                have s3 : wr.heap.size < w3.heap.size := szlt h3 s2
                go_wp2_with fail
                go_roundw
                case rel =>
                  obtain ⟨y1, y2⟩ := MV.out
                  exact ⟨k + 1, p + 1, q, 0, by omega, by go_num, by go_num, by rw [y2], rfl, rfl, y1, bthen' HB.out HX3.out (Nat.le_refl _)⟩
                case measure => simp [intOf]; omega
              | false =>
                have t1 : ((op : Int) == 1) = false := beq_eq_false_iff_ne.2 (by omega)
                have n1 : ((op : Int) != 1) = true := by rw [bne_iff_ne]; omega
                have n5 : ((op : Int) != 5) = true := by rw [bne_iff_ne]; omega
                have t53 : ((op : Int) == 53) = true := beq_iff_eq.2 (by omega)
                have n53 : ((op : Int) != 53) = false := by rw [bne_eq_false_iff_eq]; omega
                have FN : Hid (freeN (⟨op, (q : Int), int, text.data.toList⟩ : Ins) free = 0) := Lib.hid (by unfold freeN; exact if_neg (by show ¬ (op = 1 ∨ op = 5); omega))
                have KN : Hid (forkN (⟨op, (q : Int), int, text.data.toList⟩ : Ins) fork = q) := Lib.hid (by unfold forkN; exact if_pos (by show op = 53; omega))
                have MV : Hid (Way (insL cs) d (p + 1) (q) (0) ∧ dAt d (p + 1) = nextI (⟨op, (q : Int), int, text.data.toList⟩ : Ins) (dAt d p)) := Lib.hid (by have := WN.out NE.out (by omega); rw [FN.out, KN.out] at this; exact this)
                clear o1 o53 hA1
                rw [htb] at tw
                clear htb WA WN WJ TGT
                generalize thereI (⟨op, (q : Int), int, text.data.toList⟩ : Ins) (dAt d p) = th at *
                generalize nextI (⟨op, (q : Int), int, text.data.toList⟩ : Ins) (dAt d p) = nx at *
                generalize takesI (⟨op, (q : Int), int, text.data.toList⟩ : Ins) = tk at *
                generalize dAt d p = dd at *
                go_wp2_with fail
                refine (TK.out _).mono ?_
                rintro e w2 ⟨rfl, h2⟩
                have hX2 : Below wr.heap.size wr w2 := bthen ((Below.refl _ wr).alloc (Nat.le_refl _) _) h2
                have c2 := (bcell h2).1
                have s2 : wr.heap.size < w2.heap.size := szlt h2 (by simp)
                have tw2 := (hX2.cell (p := ⟨bt, ot + k, none⟩) (show bt < wr.heap.size by omega)).trans tw
                have HX2 := Lib.hid hX2
                clear hX2
                go_wp2_with fail
                refine (EN.out _).mono ?_
                rintro e w3 ⟨rfl, rfl⟩
                go_wp2_with fail
                refine (BE.out _).mono ?_
                rintro e w3 ⟨rfl, h3⟩
                have c3 := (bcell h3).1
                have tw3 := (h3.cell (p := ⟨bt, ot + k, none⟩) (show bt < w2.heap.size by omega)).trans tw2
                have HX3 := Lib.hid (bthen HX2.out h3)
                have s3 : wr.heap.size < w3.heap.size := szlt h3 s2
                go_wp2_with fail
                go_roundw
                case rel =>
                  obtain ⟨y1, y2⟩ := MV.out
                  exact ⟨k + 1, p + 1, q, 0, by omega, by go_num, by go_num, by rw [y2], rfl, rfl, y1, bthen' HB.out HX3.out (Nat.le_refl _)⟩
                case measure => simp [intOf]; omega
            · by_cases o5 : op = 5
              · have hA0 : ((aK op : Int) == 1) = false := by rw [o5]; rfl
                cases htb : B k with
                | true =>
                  have t1 : ((op : Int) == 1) = false := beq_eq_false_iff_ne.2 (by omega)
                  have n1 : ((op : Int) != 1) = true := by rw [bne_iff_ne]; omega
                  have n5 : ((op : Int) != 5) = false := by rw [bne_eq_false_iff_eq]; omega
                  have t53 : ((op : Int) == 53) = false := beq_eq_false_iff_ne.2 (by omega)
                  have n53 : ((op : Int) != 53) = true := by rw [bne_iff_ne]; omega
                  have FN : Hid (freeN (⟨op, a, int, text.data.toList⟩ : Ins) free = free + 1) := Lib.hid (by unfold freeN; exact if_pos (by show op = 1 ∨ op = 5; omega))
                  have KN : Hid (forkN (⟨op, a, int, text.data.toList⟩ : Ins) fork = fork) := Lib.hid (by unfold forkN; exact if_neg (by show op ≠ 53; omega))
                  have MV : Hid (Way (insL cs) d (p + 1) (fork) (free + 1) ∧ dAt d (p + 1) = nextI (⟨op, a, int, text.data.toList⟩ : Ins) (dAt d p)) := Lib.hid (by have := WN.out NE.out (by omega); rw [FN.out, KN.out] at this; exact this)
                  have wfn : free + 1 ≤ n := by have := WF.out; rw [FN.out] at this; exact this
                  clear o1 o53 o5
                  rw [htb] at tw
                  clear htb WA WN WJ TGT
                  generalize thereI (⟨op, a, int, text.data.toList⟩ : Ins) (dAt d p) = th at *
                  generalize nextI (⟨op, a, int, text.data.toList⟩ : Ins) (dAt d p) = nx at *
                  generalize takesI (⟨op, a, int, text.data.toList⟩ : Ins) = tk at *
                  generalize dAt d p = dd at *
                  go_wp2_with fail
                  refine (TK.out _).mono ?_
                  rintro e w2 ⟨rfl, h2⟩
                  have hX2 : Below wr.heap.size wr w2 := bthen ((Below.refl _ wr).alloc (Nat.le_refl _) _) h2
                  have c2 := (bcell h2).1
                  have s2 : wr.heap.size < w2.heap.size := szlt h2 (by simp)
                  have tw2 := (hX2.cell (p := ⟨bt, ot + k, none⟩) (show bt < wr.heap.size by omega)).trans tw
                  have HX2 := Lib.hid hX2
                  clear hX2
                  go_wp2_with fail
                  refine (EN.out _).mono ?_
                  rintro e w3 ⟨rfl, rfl⟩
                  go_wp2_with fail
                  refine (BE.out _).mono ?_
                  rintro e w3 ⟨rfl, h3⟩
                  have c3 := (bcell h3).1
                  have tw3 := (h3.cell (p := ⟨bt, ot + k, none⟩) (show bt < w2.heap.size by omega)).trans tw2
                  have HX3 := Lib.hid (bthen HX2.out h3)
                  have s3 : wr.heap.size < w3.heap.size := szlt h3 s2
                  go_wp2_with (go_at_call 14; refine (RO.out _).mono ?_; rintro e w5 ⟨rfl, h5⟩; have HX5 := Lib.hid (bthen' HX3.out h5 (Nat.le_refl _)); have c5 := (bcell h5).1)
                  go_roundw
                  case rel =>
                    obtain ⟨y1, y2⟩ := MV.out
                    exact ⟨k + 1, p + 1, fork, free + 1, by omega, by go_num, by go_num, by rw [y2], rfl, by go_num, y1, bthen' HB.out HX5.out (Nat.le_refl _)⟩
                  case measure => simp [intOf]; omega
                | false =>
                  have t1 : ((op : Int) == 1) = false := beq_eq_false_iff_ne.2 (by omega)
                  have n1 : ((op : Int) != 1) = true := by rw [bne_iff_ne]; omega
                  have n5 : ((op : Int) != 5) = false := by rw [bne_eq_false_iff_eq]; omega
                  have t53 : ((op : Int) == 53) = false := beq_eq_false_iff_ne.2 (by omega)
                  have n53 : ((op : Int) != 53) = true := by rw [bne_iff_ne]; omega
                  have FN : Hid (freeN (⟨op, a, int, text.data.toList⟩ : Ins) free = free + 1) := Lib.hid (by unfold freeN; exact if_pos (by show op = 1 ∨ op = 5; omega))
                  have KN : Hid (forkN (⟨op, a, int, text.data.toList⟩ : Ins) fork = fork) := Lib.hid (by unfold forkN; exact if_neg (by show op ≠ 53; omega))
                  have MV : Hid (Way (insL cs) d (p + 1) (fork) (free + 1) ∧ dAt d (p + 1) = nextI (⟨op, a, int, text.data.toList⟩ : Ins) (dAt d p)) := Lib.hid (by have := WN.out NE.out (by omega); rw [FN.out, KN.out] at this; exact this)
                  have wfn : free + 1 ≤ n := by have := WF.out; rw [FN.out] at this; exact this
                  clear o1 o53 o5
                  rw [htb] at tw
                  clear htb WA WN WJ TGT
                  generalize thereI (⟨op, a, int, text.data.toList⟩ : Ins) (dAt d p) = th at *
                  generalize nextI (⟨op, a, int, text.data.toList⟩ : Ins) (dAt d p) = nx at *
                  generalize takesI (⟨op, a, int, text.data.toList⟩ : Ins) = tk at *
                  generalize dAt d p = dd at *
                  go_wp2_with fail
                  refine (TK.out _).mono ?_
                  rintro e w2 ⟨rfl, h2⟩
                  have hX2 : Below wr.heap.size wr w2 := bthen ((Below.refl _ wr).alloc (Nat.le_refl _) _) h2
                  have c2 := (bcell h2).1
                  have s2 : wr.heap.size < w2.heap.size := szlt h2 (by simp)
                  have tw2 := (hX2.cell (p := ⟨bt, ot + k, none⟩) (show bt < wr.heap.size by omega)).trans tw
                  have HX2 := Lib.hid hX2
                  clear hX2
                  go_wp2_with fail
                  refine (EN.out _).mono ?_
                  rintro e w3 ⟨rfl, rfl⟩
                  go_wp2_with fail
                  refine (BE.out _).mono ?_
                  rintro e w3 ⟨rfl, h3⟩
                  have c3 := (bcell h3).1
                  have tw3 := (h3.cell (p := ⟨bt, ot + k, none⟩) (show bt < w2.heap.size by omega)).trans tw2
                  have HX3 := Lib.hid (bthen HX2.out h3)
                  have s3 : wr.heap.size < w3.heap.size := szlt h3 s2
                  go_wp2_with fail
                  go_roundw
                  case rel =>
                    obtain ⟨y1, y2⟩ := MV.out
                    exact ⟨k + 1, p + 1, fork, free + 1, by omega, by go_num, by go_num, by rw [y2], rfl, by go_num, y1, bthen' HB.out HX3.out (Nat.le_refl _)⟩
                  case measure => simp [intOf]; omega
              · cases htb : B k with
                | false =>
                  have t1 : ((op : Int) == 1) = false := beq_eq_false_iff_ne.2 (by omega)
                  have n1 : ((op : Int) != 1) = true := by rw [bne_iff_ne]; omega
                  have n5 : ((op : Int) != 5) = true := by rw [bne_iff_ne]; omega
                  have t53 : ((op : Int) == 53) = false := beq_eq_false_iff_ne.2 (by omega)
                  have n53 : ((op : Int) != 53) = true := by rw [bne_iff_ne]; omega
                  have FN : Hid (freeN (⟨op, a, int, text.data.toList⟩ : Ins) free = 0) := Lib.hid (by unfold freeN; exact if_neg (by show ¬ (op = 1 ∨ op = 5); omega))
                  have KN : Hid (forkN (⟨op, a, int, text.data.toList⟩ : Ins) fork = fork) := Lib.hid (by unfold forkN; exact if_neg (by show op ≠ 53; omega))
                  have MV : Hid (Way (insL cs) d (p + 1) (fork) (0) ∧ dAt d (p + 1) = nextI (⟨op, a, int, text.data.toList⟩ : Ins) (dAt d p)) := Lib.hid (by have := WN.out NE.out (by omega); rw [FN.out, KN.out] at this; exact this)
                  clear o1 o53 o5
                  rw [htb] at tw
                  clear htb WA WN WJ TGT
                  generalize thereI (⟨op, a, int, text.data.toList⟩ : Ins) (dAt d p) = th at *
                  generalize nextI (⟨op, a, int, text.data.toList⟩ : Ins) (dAt d p) = nx at *
                  generalize takesI (⟨op, a, int, text.data.toList⟩ : Ins) = tk at *
                  generalize dAt d p = dd at *
                  go_wp2_with fail
                  refine (TK.out _).mono ?_
                  rintro e w2 ⟨rfl, h2⟩
                  have hX2 : Below wr.heap.size wr w2 := bthen ((Below.refl _ wr).alloc (Nat.le_refl _) _) h2
                  have c2 := (bcell h2).1
                  have s2 : wr.heap.size < w2.heap.size := szlt h2 (by simp)
                  have tw2 := (hX2.cell (p := ⟨bt, ot + k, none⟩) (show bt < wr.heap.size by omega)).trans tw
                  have HX2 := Lib.hid hX2
                  clear hX2
                  go_wp2_with fail
                  refine (EN.out _).mono ?_
                  rintro e w3 ⟨rfl, rfl⟩
                  go_wp2_with fail
                  refine (BE.out _).mono ?_
                  rintro e w3 ⟨rfl, h3⟩
                  have c3 := (bcell h3).1
                  have tw3 := (h3.cell (p := ⟨bt, ot + k, none⟩) (show bt < w2.heap.size by omega)).trans tw2
                  have HX3 := Lib.hid (bthen HX2.out h3)
                  have s3 : wr.heap.size < w3.heap.size := szlt h3 s2
                  go_wp2_with fail
                  go_roundw
                  case rel =>
                    obtain ⟨y1, y2⟩ := MV.out
                    exact ⟨k + 1, p + 1, fork, 0, by omega, by go_num, by go_num, by rw [y2], rfl, rfl, y1, bthen' HB.out HX3.out (Nat.le_refl _)⟩
                  case measure => simp [intOf]; omega
                | true =>
                  by_cases hA1 : aK op = 1
                  · have hAb : ((aK op : Int) == 1) = true := by rw [hA1]; rfl
                    obtain ⟨z0, z1⟩ := TGT.out hA1
                    have z0' : 0 ≤ a := z0
                    obtain ⟨q, hq⟩ : ∃ q : Nat, a = (q : Int) := ⟨a.toNat, by omega⟩
                    subst hq
                    clear z0 z1 z0'
                    have t1 : ((op : Int) == 1) = false := beq_eq_false_iff_ne.2 (by omega)
                    have n1 : ((op : Int) != 1) = true := by rw [bne_iff_ne]; omega
                    have n5 : ((op : Int) != 5) = true := by rw [bne_iff_ne]; omega
                    have t53 : ((op : Int) == 53) = false := beq_eq_false_iff_ne.2 (by omega)
                    have n53 : ((op : Int) != 53) = true := by rw [bne_iff_ne]; omega
                    have FN : Hid (freeN (⟨op, (q : Int), int, text.data.toList⟩ : Ins) free = 0) := Lib.hid (by unfold freeN; exact if_neg (by show ¬ (op = 1 ∨ op = 5); omega))
                    have KN : Hid (forkN (⟨op, (q : Int), int, text.data.toList⟩ : Ins) fork = fork) := Lib.hid (by unfold forkN; exact if_neg (by show op ≠ 53; omega))
                    have MV : Hid (Way (insL cs) d q (fork) (0) ∧ dAt d q = thereI (⟨op, (q : Int), int, text.data.toList⟩ : Ins) (dAt d p)) := Lib.hid (by have := WJ.out NE.out hA1 ⟨by omega, by omega⟩; rw [FN.out, KN.out] at this; exact ⟨this.1, this.2.1⟩)
                    clear o1 o53 o5 hA1
                    rw [htb] at tw
                    clear htb WA WN WJ TGT
                    generalize thereI (⟨op, (q : Int), int, text.data.toList⟩ : Ins) (dAt d p) = th at *
                    generalize nextI (⟨op, (q : Int), int, text.data.toList⟩ : Ins) (dAt d p) = nx at *
                    generalize takesI (⟨op, (q : Int), int, text.data.toList⟩ : Ins) = tk at *
                    generalize dAt d p = dd at *
                    go_wp2_with fail
                    refine (TK.out _).mono ?_
                    rintro e w2 ⟨rfl, h2⟩
                    have hX2 : Below wr.heap.size wr w2 := bthen ((Below.refl _ wr).alloc (Nat.le_refl _) _) h2
                    have c2 := (bcell h2).1
                    have s2 : wr.heap.size < w2.heap.size := szlt h2 (by simp)
                    have tw2 := (hX2.cell (p := ⟨bt, ot + k, none⟩) (show bt < wr.heap.size by omega)).trans tw
                    have HX2 := Lib.hid hX2
                    clear hX2
                    go_wp2_with fail
                    refine (EN.out _).mono ?_
                    rintro e w3 ⟨rfl, rfl⟩
                    go_wp2_with fail
                    refine (BE.out _).mono ?_
                    rintro e w3 ⟨rfl, h3⟩
                    have c3 := (bcell h3).1
                    have tw3 := (h3.cell (p := ⟨bt, ot + k, none⟩) (show bt < w2.heap.size by omega)).trans tw2
                    have HX3 := Lib.hid (bthen HX2.out h3)
                    have s3 : wr.heap.size < w3.heap.size := szlt h3 s2
                    go_wp2_with (go_at_call 14; refine (RO.out _).mono ?_; rintro e w5 ⟨rfl, h5⟩; have HX5 := Lib.hid (bthen' HX3.out h5 (Nat.le_refl _)); have c5 := (bcell h5).1)
                    go_roundw
                    case rel =>
                      obtain ⟨y1, y2⟩ := MV.out
                      exact ⟨k + 1, q, fork, 0, by omega, by go_num, rfl, by rw [y2], rfl, rfl, y1, bthen' HB.out HX5.out (Nat.le_refl _)⟩
                    case measure => simp [intOf]; omega
                  · have hAb : ((aK op : Int) == 1) = false := beq_eq_false_iff_ne.2 (by omega)
                    have t1 : ((op : Int) == 1) = false := beq_eq_false_iff_ne.2 (by omega)
                    have n1 : ((op : Int) != 1) = true := by rw [bne_iff_ne]; omega
                    have n5 : ((op : Int) != 5) = true := by rw [bne_iff_ne]; omega
                    have t53 : ((op : Int) == 53) = false := beq_eq_false_iff_ne.2 (by omega)
                    have n53 : ((op : Int) != 53) = true := by rw [bne_iff_ne]; omega
                    have FN : Hid (freeN (⟨op, a, int, text.data.toList⟩ : Ins) free = 0) := Lib.hid (by unfold freeN; exact if_neg (by show ¬ (op = 1 ∨ op = 5); omega))
                    have KN : Hid (forkN (⟨op, a, int, text.data.toList⟩ : Ins) fork = fork) := Lib.hid (by unfold forkN; exact if_neg (by show op ≠ 53; omega))
                    have MV : Hid (Way (insL cs) d (p + 1) (fork) (0) ∧ dAt d (p + 1) = nextI (⟨op, a, int, text.data.toList⟩ : Ins) (dAt d p)) := Lib.hid (by have := WN.out NE.out (by omega); rw [FN.out, KN.out] at this; exact this)
                    clear o1 o53 o5 hA1
                    rw [htb] at tw
                    clear htb WA WN WJ TGT
                    generalize thereI (⟨op, a, int, text.data.toList⟩ : Ins) (dAt d p) = th at *
                    generalize nextI (⟨op, a, int, text.data.toList⟩ : Ins) (dAt d p) = nx at *
                    generalize takesI (⟨op, a, int, text.data.toList⟩ : Ins) = tk at *
                    generalize dAt d p = dd at *
                    go_wp2_with fail
                    refine (TK.out _).mono ?_
                    rintro e w2 ⟨rfl, h2⟩
                    have hX2 : Below wr.heap.size wr w2 := bthen ((Below.refl _ wr).alloc (Nat.le_refl _) _) h2
                    have c2 := (bcell h2).1
                    have s2 : wr.heap.size < w2.heap.size := szlt h2 (by simp)
                    have tw2 := (hX2.cell (p := ⟨bt, ot + k, none⟩) (show bt < wr.heap.size by omega)).trans tw
                    have HX2 := Lib.hid hX2
                    clear hX2
                    go_wp2_with fail
                    refine (EN.out _).mono ?_
                    rintro e w3 ⟨rfl, rfl⟩
                    go_wp2_with fail
                    refine (BE.out _).mono ?_
                    rintro e w3 ⟨rfl, h3⟩
                    have c3 := (bcell h3).1
                    have tw3 := (h3.cell (p := ⟨bt, ot + k, none⟩) (show bt < w2.heap.size by omega)).trans tw2
                    have HX3 := Lib.hid (bthen HX2.out h3)
                    have s3 : wr.heap.size < w3.heap.size := szlt h3 s2
                    go_wp2_with (go_at_call 14; refine (RO.out _).mono ?_; rintro e w5 ⟨rfl, h5⟩; have HX5 := Lib.hid (bthen' HX3.out h5 (Nat.le_refl _)); have c5 := (bcell h5).1)
                    go_roundw
                    case rel =>
                      obtain ⟨y1, y2⟩ := MV.out
                      exact ⟨k + 1, p + 1, fork, 0, by omega, by go_num, by go_num, by rw [y2], rfl, rfl, y1, bthen' HB.out HX5.out (Nat.le_refl _)⟩
                    case measure => simp [intOf]; omega
      · go_wp2_with fail
        go_ret
        exact ⟨rfl, bthen HB1.out HB.out⟩
end Go.Proofs.Ytefijgdbnjmifaa

/- The statement InstrChecks, walked. -/
import Derived.Test.YtefijgdbnjmifaaRLook
import Derived.Deep.QuietTactic
import Derived.BigQuiet
namespace Go.Proofs.Ytefijgdbnjmifaa
open Go.RowKit Go.Maps

def e0 : ByteArray := ⟨#[]⟩
def addsV : List InsV := [⟨26, 0, 0, e0⟩, ⟨23, 0, 1, e0⟩, ⟨36, 0, 0, e0⟩, ⟨8, 0, 0, e0⟩, ⟨28, 0, 0, e0⟩]
theorem adds_ok : OkC addsV := fun k hk => by
  have hk' : k < 5 := hk
  match k, hk' with
  | 0, _ => exact ⟨by decide, by decide⟩
  | 1, _ => exact ⟨by decide, by decide⟩
  | 2, _ => exact ⟨by decide, by decide⟩
  | 3, _ => exact ⟨by decide, by decide⟩
  | 4, _ => exact ⟨by decide, by decide⟩
def AdPost (w : World) (e : Ending) (w' : World) : Prop := ∃ b : Nat, e = .returned (.slice (some ⟨b, 0, none⟩) 5 5) ∧ CodeIn w' (some ⟨b, 0, none⟩) addsV ∧ Below w.heap.size w w'
theorem adds_any (w : World) : Calls Try.prog 18 #[] w (AdPost w) := by
  go_enter Try.func18, Try.ntmps18
  go_wp2
  go_ret
  refine ⟨w.heap.size, rfl, fun _ => ⟨w.heap.size, 0, rfl, by simp, fun k hk => ?_⟩, by go_grown⟩
  have hk' : k < 5 := hk
  simp only [World.cell?_alloc_new]
  match k, hk' with
  | 0, _ => exact ⟨rfl, rfl, rfl, rfl⟩
  | 1, _ => exact ⟨rfl, rfl, rfl, rfl⟩
  | 2, _ => exact ⟨rfl, rfl, rfl, rfl⟩
  | 3, _ => exact ⟨rfl, rfl, rfl, rfl⟩
  | 4, _ => exact ⟨rfl, rfl, rfl, rfl⟩
theorem adds_look : (lookS (insL addsV) 1).slots = 1 ∧ (lookS (insL addsV) 1).stack = 2 ∧ (lookS (insL addsV) 1).wrong = 0 ∧ (lookS (insL addsV) 1).e = 0 := by decide +kernel
theorem awake_any (w : World) : Calls Try.prog 6 #[] w (RetB (.bool true) w) := by
  go_enter Try.func6, Try.ntmps6
  go_wp2_with fail
  refine (adds_any _).mono ?_
  rintro e w1 ⟨b, rfl, hc, h1⟩
  have HC := Lib.hid hc
  clear hc
  go_wp2_with fail
  refine (check_any HC.out (n := 5) rfl adds_ok (by omega) 1).mono ?_
  rintro e w2 ⟨rfl, h2⟩
  obtain ⟨a1, a2, a3, a4⟩ := adds_look
  rw [a1, a2, a3, a4]
  clear a1 a2 a3 a4
  go_wp2_with fail
  go_ret
  exact ⟨rfl, bthen h1 h2⟩
def longB (n : Nat) : Bool := decide (400 < n) && decide (n ≤ 8192)
theorem long_any (A : Option Addr) (n cc : Nat) (hn : n ≤ 9223372036854775807) (w : World) : Calls Try.prog 7 #[.slice A n cc] w (Ret (.bool (longB n)) w) := by
  by_cases h1 : 400 < n
  · have hb : decide ((400 : Int) < (n : Int)) = true := decide_eq_true (by omega)
    by_cases h2 : n ≤ 8192
    · have hb2 : decide ((n : Int) ≤ 8192) = true := decide_eq_true (by omega)
      have E := Lib.hid (show true = longB n by unfold longB; rw [decide_eq_true h1, decide_eq_true h2]; rfl)
      go_enter Try.func7, Try.ntmps7
      go_wp2_with fail
      go_ret
      exact ⟨ret_bool E.out, rfl⟩
    · have hb2 : decide ((n : Int) ≤ 8192) = false := decide_eq_false (by omega)
      have E := Lib.hid (show false = longB n by unfold longB; rw [decide_eq_false h2]; simp)
      go_enter Try.func7, Try.ntmps7
      go_wp2_with fail
      go_ret
      exact ⟨ret_bool E.out, rfl⟩
  · have hb : decide ((400 : Int) < (n : Int)) = false := decide_eq_false (by omega)
    have E := Lib.hid (show false = longB n by unfold longB; rw [decide_eq_false h1]; rfl)
    go_enter Try.func7, Try.ntmps7
    go_wp2_with fail
    go_ret
    exact ⟨ret_bool E.out, rfl⟩
set_option maxRecDepth 100000 in
set_option maxHeartbeats 4000000 in
theorem checks_law (cs : List InsV) (A : Option Addr) (n cc : Nat) (p : Int) (w : World) (hn : n ≤ 9223372036854775807) (hl : cs.length = n) (hcode : CodeIn w A cs) (hok : OkC cs) :
    Calls Try.prog 3 #[.slice A n cc, .int .i64 p] w (RetB (.bool true) w) := by
  have HC := Lib.hid hcode
  have HL := Lib.hid hl
  have HO := Lib.hid hok
  have HN := Lib.hid hn
  clear hcode hl hok
  go_enter Try.func3, Try.ntmps3
  go_wp2_with fail
  refine (awake_any _).mono ?_
  rintro e w1 ⟨rfl, h1⟩
  go_wp2_with fail
  refine (long_any A n cc HN.out _).mono ?_
  rintro e w2 ⟨rfl, rfl⟩
  cases hlong : longB n with
  | true =>
    clear hlong
    go_wp2_with fail
    go_ret
    exact ⟨rfl, h1⟩
  | false =>
    clear hlong
    have HC1 := Lib.hid (HC.out.keep h1)
    go_wp2_with fail
    refine (check_any HC1.out HL.out HO.out HN.out p).mono ?_
    rintro e w2 ⟨rfl, h2⟩
    have HC2 := Lib.hid (HC1.out.keep h2)
    go_wp2_with fail
    refine (rlook_any HC2.out HL.out HO.out HN.out p).mono ?_
    rintro e w3 ⟨v, rfl, h3, hv1, hv2⟩
    have HC3 := Lib.hid (HC2.out.keep h3)
    have H123 := Lib.hid (bthen h1 (bthen' h2 h3 (by exact Nat.le_refl _)))
    by_cases he : (lookS (insL cs) p).e = 0
    · obtain ⟨db, rfl, hlo, hdlt, hcell⟩ := hv2 he
      have HCE := Lib.hid hcell
      have HE := Lib.hid he
      clear hv1 hv2 hcell he
      generalize (lookS (insL cs) p).slots = ss at *
      generalize (lookS (insL cs) p).stack = st at *
      generalize (lookS (insL cs) p).wrong = sw at *
      go_wp2_with fail
      refine (depths_any HC3.out HL.out HO.out HN.out p).mono ?_
      rintro e w4 (⟨h5, _⟩ | ⟨_, hd, hR, hW, hn0, db2, dc2, rfl, hlo2, hdlt2, hcell2, h4⟩)
      · exact absurd HE.out h5
      · have HCE2 := Lib.hid hcell2
        have HB := Lib.hid (bthen H123.out h4)
        have HD := Lib.hid (fun j (hj : j < n) => (h4.cell (p := ⟨db, j, none⟩) hdlt).trans (HCE.out j hj))
        have HZ := Lib.hid HE.out
        clear hd hR hW hn0 hcell2 h4 h1 h2 h3
        rw [HE.out]
        go_wp2_with fail
        go_loopw [15] (fun i wr => ∃ k : Nat, k ≤ n ∧ i = .int .i64 k ∧ ∃ q : Nat, wr = w4.drewN q) (fun i _ => n - (intOf i).toNat)
        case atStart => exact ⟨0, Nat.zero_le _, rfl, 0, rfl⟩
        case round =>
          obtain ⟨k, hk, rfl, q, rfl⟩ := hrel
          by_cases hlt : k < n
          · have c1 := HCE2.out k hlt
            have c2 := HD.out k hlt
            generalize dAt (fitsS (insL cs)).1 k = dd at *
            go_wp2_with fail
            go_quiet (fail)
            go_wp2_with fail
            go_roundw
            case rel => exact ⟨k + 1, by omega, by go_num, _, rfl⟩
            case measure => simp [intOf]; omega
          · go_wp2_with fail
            go_ret
            exact ⟨rfl, below_drewN HB.out q⟩
    · have hv := hv1 he
      subst hv
      have HE := Lib.hid he
      clear hv1 hv2 he
      generalize (lookS (insL cs) p).slots = ss at *
      generalize (lookS (insL cs) p).stack = st at *
      generalize (lookS (insL cs) p).wrong = sw at *
      go_wp2_with fail
      refine (depths_any HC3.out HL.out HO.out HN.out p).mono ?_
      rintro e w4 (⟨_, _, rfl, h4⟩ | ⟨h5, _⟩)
      · generalize (lookS (insL cs) p).e = se at *
        go_wp2_with fail
        refine wp_loop_rounds 1 ?_
        rw [rounds_succ]
        go_wp2_with fail
        go_ret
        exact ⟨rfl, bthen H123.out h4⟩
      · exact absurd h5 HE.out
end Go.Proofs.Ytefijgdbnjmifaa

/- JudgePrefixes: the law, walked. -/
import Derived.Test.YtfjippjkikcpfaaGreatDoorPfxB
import Derived.Test.YtfjippjkikcpfaaGreatDoorAwk
namespace Go.Proofs.YtfjippjkikcpfaaGreatDoor
open Go.RowKit

theorem end_symm (a b : List EntV) : endE' b a = endE' a b := by
  unfold endE'
  rw [com_symm b a, Bool.or_comm]
set_option maxRecDepth 100000 in
set_option maxHeartbeats 2000000 in
theorem prefixes_law {A B : Option Addr} {n m ca cb : Nat} {a b : List EntV} (w : World) (ha : EntIn w A a) (hb : EntIn w B b) (hl : a.length = n) (hm : b.length = m) (hn : n ≤ 9223372036854775807) (hm' : m ≤ 9223372036854775807) :
    Calls Tryz.prog 3 #[.slice A n ca, .slice B m cb] w (RetB (.bool true) w) := by
  have HA := Lib.hid ha
  have HB := Lib.hid hb
  have HL := Lib.hid hl
  have HM := Lib.hid hm
  clear ha hb hl hm
  go_enter Tryz.func3, Tryz.ntmps3
  go_wp2_with fail
  refine (awake_any w).mono ?_
  rintro e w1 ⟨rfl, h1⟩
  have H1 := Lib.hid h1
  clear h1
  by_cases c1 : (3000 : Int) < (n : Int)
  · go_wp2_with fail
    go_ret
    exact ⟨rfl, H1.out⟩
  · by_cases c2 : (3000 : Int) < (m : Int)
    · go_wp2_with fail
      go_ret
      exact ⟨rfl, H1.out⟩
    · have d1 : n ≤ 3000 := by omega
      have d2 : m ≤ 3000 := by omega
      have e1 : decide ((3000 : Int) < (n : Int)) = false := by simp; omega
      have e2 : decide ((3000 : Int) < (m : Int)) = false := by simp; omega
      go_wp2_with fail
      refine (prefix_any (HA.out.below H1.out) (HB.out.below H1.out) HL.out HM.out hn hm').mono ?_
      rintro e w2 ⟨rfl, h2⟩
      have H2 := Lib.hid (bthen H1.out h2)
      clear h2
      go_wp2_with fail
      refine (prefix_any (HB.out.below H2.out) (HA.out.below H2.out) HM.out HL.out hm' hn).mono ?_
      rintro e w3 ⟨rfl, h3⟩
      have H3 := Lib.hid (bthen H2.out h3)
      clear h3
      rw [end_symm, com_symm b a]
      go_wp2_with fail
      refine (refPrefix_any (HA.out.below H3.out) (HB.out.below H3.out) HL.out HM.out hn hm').mono ?_
      rintro e w4 ⟨rfl, h4⟩
      have H4 := Lib.hid (bthen H3.out h4)
      clear h4
      generalize com a b = k
      generalize endE' a b = t
      have e1 : ((k : Int) == (k : Int)) = true := by simp
      have e2 : (t == t) = true := by simp
      go_wp2_with fail
      go_ret
      exact ⟨rfl, H4.out⟩
theorem prefixes_row {A B : Option Addr} {n m ca cb : Nat} {a b : List EntV} (w : World) (ha : EntIn w A a) (hl : a.length = n) (hn : n ≤ 9223372036854775807) (hb : EntIn w B b) (hm : b.length = m) (hm' : m ≤ 9223372036854775807) :
    Calls Tryz.prog 3 #[.slice A n ca, .slice B m cb] w (RetB (.bool true) w) := prefixes_law w ha hb hl hm hn hm'
end Go.Proofs.YtfjippjkikcpfaaGreatDoor

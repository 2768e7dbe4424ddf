/- How far two logs are the same: judge.Prefix, walked; the law. -/
import Derived.Test.YtfjippjkikcpfaaGreatDoorPfxA
namespace Go.Proofs.YtfjippjkikcpfaaGreatDoor
open Go.RowKit

set_option maxRecDepth 100000 in
set_option maxHeartbeats 4000000 in
theorem prefix_any {w : World} {A B : Option Addr} {n m ca cb : Nat} {a b : List EntV} (ha : EntIn w A a) (hb : EntIn w B b) (hl : a.length = n) (hm : b.length = m) (hn : n ≤ 9223372036854775807) (hm' : m ≤ 9223372036854775807) :
    Calls Tryz.prog 5 #[.slice A n ca, .slice B m cb] w (RetB (.tuple #[.int .i64 (com a b), .bool (endE' a b)]) w) := by
  have HA := Lib.hid ha
  have HB := Lib.hid hb
  have HL := Lib.hid hl
  have HM := Lib.hid hm
  have HS := Lib.hid ent_eq
  clear ha hb hl hm
  go_enter Tryz.func5, Tryz.ntmps5
  go_wp2_with fail
  go_loopw [4] (fun i wr => ∃ (k q : Nat), i = .int .i64 k ∧ k ≤ n ∧ k ≤ m ∧ Hid (∀ r, r < k → sameE (atE a r) (atE b r) = true) ∧ wr = w.drewN q) (fun i _ => n - (intOf i).toNat)
  case atStart => exact ⟨0, 0, rfl, Nat.zero_le _, Nat.zero_le _, Lib.hid (fun r h => absurd h (by omega)), rfl⟩
  case round =>
    obtain ⟨k, q, rfl, hk, hk', HE, rfl⟩ := hrel
    have HF := Lib.hid (show ∀ (h : com a b = k), endE' a b = (((k : Int) == (n : Int)) || ((k : Int) == (m : Int))) from fun h => by
      rw [end_is h, HL.out, HM.out, Bool.eq_iff_iff]
      simp)
    by_cases hlt : k < n
    · by_cases hlt' : k < m
      · obtain ⟨b1, o1, rfl, hb1, hc1⟩ := HA.out (by rw [HL.out]; omega)
        obtain ⟨b2, o2, rfl, hb2, hc2⟩ := HB.out (by rw [HM.out]; omega)
        obtain ⟨c0, c1⟩ := hc1 k (by rw [HL.out]; exact hlt)
        obtain ⟨d0, d1⟩ := hc2 k (by rw [HM.out]; exact hlt')
        have hS := fun w => HS.out w (atE a k) (atE b k)
        clear hc1 hc2
        have p0 : (0 : Int) ≤ (k : Int) := by omega
        have p1 : (k : Int) < (n : Int) := by omega
        have p2 : (k : Int) < (m : Int) := by omega
        cases hsame : sameE (atE a k) (atE b k) with
        | true =>
          have HK := Lib.hid (show ∀ r, r < k + 1 → sameE (atE a r) (atE b r) = true from fun r hr => by
            by_cases e : r = k
            · rw [e]; exact hsame
            · exact HE.out r (by omega))
          rw [hsame] at hS
          generalize atE a k = x at *
          generalize atE b k = y at *
          go_wp2_with fail
          go_quiet (fail)
          go_wp2_with fail
          go_roundw
          case rel => exact ⟨k + 1, _, by go_num, by omega, by omega, HK, rfl⟩
          case measure => simp [intOf]; omega
        | false =>
          have hcom := com_is a b k (by rw [HL.out]; omega) (by rw [HM.out]; omega) HE.out (.inr (.inr hsame))
          have HC := Lib.hid hcom
          have HD := Lib.hid (HF.out hcom)
          rw [hsame] at hS
          clear hcom
          generalize atE a k = x at *
          generalize atE b k = y at *
          go_wp2_with fail
          go_quiet (fail)
          go_wp2_with fail
          have e1 : ((k : Int) == (n : Int)) = false := by simp; omega
          have e2 : ((k : Int) == (m : Int)) = false := by simp; omega
          go_wp2_with fail
          go_ret2
          rw [HC.out, HD.out, e1, e2]
          exact ⟨rfl, ⟨rfl, rfl, rfl, Nat.le_refl _, fun _ _ => rfl⟩⟩
      · have hcom := com_is a b k (by rw [HL.out]; omega) (by rw [HM.out]; omega) HE.out (.inr (.inl (by rw [HM.out]; omega)))
        have HC := Lib.hid hcom
        have HD := Lib.hid (HF.out hcom)
        clear hcom
        have p1 : (k : Int) < (n : Int) := by omega
        have p2 : ¬ (k : Int) < (m : Int) := by omega
        go_wp2_with fail
        go_quiet (fail)
        go_wp2_with fail
        have e1 : ((k : Int) == (n : Int)) = false := by simp; omega
        have e2 : ((k : Int) == (m : Int)) = true := by simp; omega
        go_wp2_with fail
        go_ret2
        rw [HC.out, HD.out, e1, e2]
        exact ⟨rfl, ⟨rfl, rfl, rfl, Nat.le_refl _, fun _ _ => rfl⟩⟩
    · have hcom := com_is a b k (by rw [HL.out]; omega) (by rw [HM.out]; omega) HE.out (.inl (by rw [HL.out]; omega))
      have HC := Lib.hid hcom
      have HD := Lib.hid (HF.out hcom)
      clear hcom
      have hkn : n = k := by omega
      subst hkn
      have p1 : ¬ (n : Int) < (n : Int) := by omega
      have e1 : ((n : Int) == (n : Int)) = true := by simp
      go_wp2_with fail
      go_quiet (fail)
      go_wp2_with fail
      go_ret2
      rw [HC.out, HD.out, e1]
      exact ⟨rfl, ⟨rfl, rfl, rfl, Nat.le_refl _, fun _ _ => rfl⟩⟩
end Go.Proofs.YtfjippjkikcpfaaGreatDoor

/- How far two logs are the same: judge.Prefix and the document's, walked. -/
import Derived.Test.YtfjippjkikcpfaaGreatDoorEntA
namespace Go.Proofs.YtfjippjkikcpfaaGreatDoor
open Go.RowKit

theorem end_is {a b : List EntV} {k : Nat} (h : com a b = k) : endE' a b = (decide ((k : Int) = (a.length : Int)) || decide ((k : Int) = (b.length : Int))) := by
  unfold endE'
  rw [h]
  congr 1 <;> (rw [decide_eq_decide]; omega)
set_option maxRecDepth 100000 in
set_option maxHeartbeats 2000000 in
theorem refPrefix_any {w : World} {A B : Option Addr} {n m ca cb : Nat} {a b : List EntV} (ha : EntIn w A a) (hb : EntIn w B b) (hl : a.length = n) (hm : b.length = m) (hn : n ≤ 9223372036854775807) (hm' : m ≤ 9223372036854775807) :
    Calls Tryz.prog 6 #[.slice A n ca, .slice B m cb] w (RetB (.tuple #[.int .i64 (com a b), .bool (endE' a b)]) w) := by
  have HA := Lib.hid ha
  have HB := Lib.hid hb
  have HL := Lib.hid hl
  have HM := Lib.hid hm
  have HS := Lib.hid ent_ne
  clear ha hb hl hm
  go_enter Tryz.func6, Tryz.ntmps6
  go_wp2_with fail
  go_loopw [6, 7] (fun i j wr => ∃ (k q : Nat), i = .int .i64 k ∧ j = .int .i64 k ∧ k ≤ n ∧ k ≤ m ∧ Hid (∀ r, r < k → sameE (atE a r) (atE b r) = true) ∧ wr = w.drewN q) (fun i _ _ => n - (intOf i).toNat)
  case atStart => exact ⟨0, 0, rfl, rfl, Nat.zero_le _, Nat.zero_le _, Lib.hid (fun r h => absurd h (by omega)), rfl⟩
  case round =>
    obtain ⟨k, q, rfl, rfl, hk, hk', HE, rfl⟩ := hrel
    by_cases hlt : k < n
    · by_cases hlt' : k < m
      · obtain ⟨b1, o1, rfl, hb1, hc1⟩ := HA.out (by rw [HL.out]; omega)
        obtain ⟨b2, o2, rfl, hb2, hc2⟩ := HB.out (by rw [HM.out]; omega)
        obtain ⟨c0, c1⟩ := hc1 k (by rw [HL.out]; exact hlt)
        obtain ⟨d0, d1⟩ := hc2 k (by rw [HM.out]; exact hlt')
        have hS := fun w => HS.out w (atE a k) (atE b k)
        clear hc1 hc2
        cases hsame : sameE (atE a k) (atE b k) with
        | true =>
          have HK := Lib.hid (show ∀ r, r < k + 1 → sameE (atE a r) (atE b r) = true from fun r hr => by
            by_cases e : r = k
            · rw [e]; exact hsame
            · exact HE.out r (by omega))
          rw [hsame] at hS
          generalize atE a k = x at *
          generalize atE b k = y at *
          have p0 : (0 : Int) ≤ (k : Int) := by omega
          have p1 : (k : Int) < (n : Int) := by omega
          have p2 : (k : Int) < (m : Int) := by omega
          go_wp2_with fail
          go_quiet (fail)
          go_wp2_with fail
          go_roundw
          case rel => exact ⟨k + 1, _, by go_num, by go_num, by omega, by omega, HK, rfl⟩
          case measure => simp [intOf]; omega
        | false =>
          have hcom := com_is a b k (by rw [HL.out]; omega) (by rw [HM.out]; omega) HE.out (.inr (.inr hsame))
          have hend : endE' a b = false := by
            rw [end_is hcom, HL.out, HM.out]
            simp; omega
          have HC := Lib.hid hcom
          have HD := Lib.hid hend
          rw [hsame] at hS
          clear hcom hend
          generalize atE a k = x at *
          generalize atE b k = y at *
          have p0 : (0 : Int) ≤ (k : Int) := by omega
          have p1 : (k : Int) < (n : Int) := by omega
          have p2 : (k : Int) < (m : Int) := by omega
          go_wp2_with fail
          go_quiet (fail)
          go_wp2_with fail
          go_ret2
          rw [HC.out, HD.out]
          exact ⟨rfl, ⟨rfl, rfl, rfl, Nat.le_refl _, fun _ _ => rfl⟩⟩
      · have hcom := com_is a b k (by rw [HL.out]; omega) (by rw [HM.out]; omega) HE.out (.inr (.inl (by rw [HM.out]; omega)))
        have hend : endE' a b = true := by
          rw [end_is hcom, HL.out, HM.out]
          simp; omega
        have HC := Lib.hid hcom
        have HD := Lib.hid hend
        clear hcom hend
        go_wp2_with fail
        go_ret2
        rw [HC.out, HD.out]
        exact ⟨rfl, ⟨rfl, rfl, rfl, Nat.le_refl _, fun _ _ => rfl⟩⟩
    · have hcom := com_is a b k (by rw [HL.out]; omega) (by rw [HM.out]; omega) HE.out (.inl (by rw [HL.out]; omega))
      have hend : endE' a b = true := by
        rw [end_is hcom, HL.out, HM.out]
        simp; omega
      have HC := Lib.hid hcom
      have HD := Lib.hid hend
      clear hcom hend
      go_wp2_with fail
      go_ret2
      rw [HC.out, HD.out]
      exact ⟨rfl, ⟨rfl, rfl, rfl, Nat.le_refl _, fun _ _ => rfl⟩⟩
end Go.Proofs.YtfjippjkikcpfaaGreatDoor

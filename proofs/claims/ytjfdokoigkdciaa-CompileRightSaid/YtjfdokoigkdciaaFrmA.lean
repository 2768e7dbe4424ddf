/- The table of forms, walked. Printed by a program. -/
import Derived.Test.YtjfdokoigkdciaaFrmP
namespace Go.Proofs.Ytjfdokoigkdciaa
open Go.RowKit

def firstF (j : Nat) : Bool := j == 1 || j == 2 || j == 3 || j == 6 || j == 7 || j == 24 || j == 25 || j == 53 || j == 23
def onK (k j : Nat) : Bool := firstF j || isO j && decide (j < k)
theorem MapF.congr {w : World} {b : Nat} {on on' : Nat → Bool} (h : MapF w b on) (he : on = on') : MapF w b on' := he ▸ h
theorem firstF_is : ∀ j, j < 58 → firstF j = true → isO j = true := by decide
theorem firstF_lt {j : Nat} (h : firstF j = true) : j < 58 := by simp [firstF] at h; omega
theorem isO_lt {j : Nat} (h : isO j = true) : 0 < j ∧ j < 58 := by
  by_cases hj : j < 58
  · refine ⟨?_, hj⟩
    rcases Nat.eq_zero_or_pos j with h0 | h0
    · subst h0; exact absurd h (by decide)
    · exact h0
  · exfalso
    unfold isO formN at h
    repeat rw [if_neg (by omega)] at h
    exact absurd h (by decide)
theorem onK_all : onK 58 = isO := by
  funext j
  unfold onK
  cases h : isO j with
  | true => have := isO_lt h; simp [this.2]
  | false =>
    cases h2 : firstF j with
    | true => rw [firstF_is j (firstF_lt h2) h2] at h; cases h
    | false => rfl
theorem onK_put {k : Nat} (hi : isO k = true) : (fun j => decide (j = k) || onK k j) = onK (k + 1) := by
  funext j
  unfold onK
  by_cases e : j = k
  · subst e; simp [hi]
  · simp [e, show (j < k + 1) ↔ (j < k) by omega]
theorem onK_skip {k : Nat} (hi : isO k = false ∨ firstF k = true) : onK k = onK (k + 1) := by
  funext j
  unfold onK
  by_cases e : j = k
  · subst e
    rcases hi with h | h
    · simp [h]
    · simp [h]
  · simp [show (j < k + 1) ↔ (j < k) by omega]

set_option maxRecDepth 100000 in
set_option maxHeartbeats 16000000 in
theorem forms_any (w : World) : Calls Try.prog 30 #[] w (fun e w' => ∃ b, e = .returned (.map (some b)) ∧ MapF w' b isO ∧ Below w.heap.size w w' ∧ w.heap.size ≤ b) := by
  have hmm := @run_makeMap Try.prog
  have m0 := MapF.new w
  have Z0 := Lib.hid (show Below w.heap.size w (w.alloc (.map #[] 0)) from (Below.refl _ w).alloc (Nat.le_refl _) _)

  have hsf : ∀ (a : Addr) (f : Fn) (c1 c2 : Array Value) (m : Mode) (w : World), (store a (.func f c1 c2) m).run Try.prog w = stored Try.prog w a (.func f c1 c2) m := fun a f c1 c2 m w => run_store _ w a _ m rfl
  have hsn : ∀ (a : Addr) (m : Mode) (w : World), (store a .nilFunc m).run Try.prog w = stored Try.prog w a .nilFunc m := fun a m w => run_store _ w a _ m rfl
  obtain ⟨w1, p1, m1, y, _⟩ := m0.put 1 (by rfl)
  replace p1 : (Instr.mapUpdate 72 (.map (some w.heap.size)) (.int .u8 1) (.agg #[.func (.func 39) #[] #[], .int .i64 1, .int .i64 2048, .func (.func 40) #[] #[]])).run Try.prog (w.alloc (.map #[] 0)) = .ok () w1 := p1
  have Z1 := Lib.hid (Z0.out.trans (y.mono (by omega)))
  clear y Z0 m0
  obtain ⟨w2, p2, m2, y, _⟩ := m1.put 2 (by rfl)
  replace p2 : (Instr.mapUpdate 72 (.map (some w.heap.size)) (.int .u8 2) (.agg #[.func (.func 39) #[] #[], .int .i64 0, .int .i64 0, .func (.func 41) #[] #[]])).run Try.prog w1 = .ok () w2 := p2
  have Z2 := Lib.hid (Z1.out.trans (y.mono (by omega)))
  clear y Z1 m1
  obtain ⟨w3, p3, m3, y, _⟩ := m2.put 3 (by rfl)
  replace p3 : (Instr.mapUpdate 72 (.map (some w.heap.size)) (.int .u8 3) (.agg #[.func (.func 42) #[] #[], .int .i64 0, .int .i64 2048, .func (.func 43) #[] #[]])).run Try.prog w2 = .ok () w3 := p3
  have Z3 := Lib.hid (Z2.out.trans (y.mono (by omega)))
  clear y Z2 m2
  obtain ⟨w4, p4, m4, y, _⟩ := m3.put 6 (by rfl)
  replace p4 : (Instr.mapUpdate 72 (.map (some w.heap.size)) (.int .u8 6) (.agg #[.func (.func 42) #[] #[], .int .i64 2, .int .i64 3, .func (.func 44) #[] #[]])).run Try.prog w3 = .ok () w4 := p4
  have Z4 := Lib.hid (Z3.out.trans (y.mono (by omega)))
  clear y Z3 m3
  obtain ⟨w5, p5, m5, y, _⟩ := m4.put 7 (by rfl)
  replace p5 : (Instr.mapUpdate 72 (.map (some w.heap.size)) (.int .u8 7) (.agg #[.func (.func 42) #[] #[], .int .i64 2, .int .i64 2, .func (.func 44) #[] #[]])).run Try.prog w4 = .ok () w5 := p5
  have Z5 := Lib.hid (Z4.out.trans (y.mono (by omega)))
  clear y Z4 m4
  obtain ⟨w6, p6, m6, y, _⟩ := m5.put 24 (by rfl)
  replace p6 : (Instr.mapUpdate 72 (.map (some w.heap.size)) (.int .u8 24) (.agg #[.func (.func 45) #[] #[], .int .i64 0, .int .i64 0, .func (.func 41) #[] #[]])).run Try.prog w5 = .ok () w6 := p6
  have Z6 := Lib.hid (Z5.out.trans (y.mono (by omega)))
  clear y Z5 m5
  obtain ⟨w7, p7, m7, y, _⟩ := m6.put 25 (by rfl)
  replace p7 : (Instr.mapUpdate 72 (.map (some w.heap.size)) (.int .u8 25) (.agg #[.func (.func 42) #[] #[], .int .i64 0, .int .i64 2048, .func (.func 46) #[] #[]])).run Try.prog w6 = .ok () w7 := p7
  have Z7 := Lib.hid (Z6.out.trans (y.mono (by omega)))
  clear y Z6 m6
  obtain ⟨w8, p8, m8, y, _⟩ := m7.put 53 (by rfl)
  replace p8 : (Instr.mapUpdate 72 (.map (some w.heap.size)) (.int .u8 53) (.agg #[.func (.func 42) #[] #[], .int .i64 1, .int .i64 1, .func (.func 47) #[] #[]])).run Try.prog w7 = .ok () w8 := p8
  have Z8 := Lib.hid (Z7.out.trans (y.mono (by omega)))
  clear y Z7 m7
  obtain ⟨w9, p9, m9, y, _⟩ := m8.put 23 (by rfl)
  replace p9 : (Instr.mapUpdate 72 (.map (some w.heap.size)) (.int .u8 23) (.agg #[.func (.func 42) #[] #[], .int .i64 0, .int .i64 0, .func (.func 41) #[] #[]])).run Try.prog w8 = .ok () w9 := p9
  have Z9 := Lib.hid (Z8.out.trans (y.mono (by omega)))
  clear y Z8 m8
  have M9 := Lib.hid (m9.congr (show _ = onK 1 from by
    funext j
    rw [Bool.eq_iff_iff]
    simp only [onK, firstF, Bool.or_eq_true, decide_eq_true_eq, beq_iff_eq, Bool.and_eq_true, Bool.or_false]
    constructor
    · intro h; left; omega
    · rintro (h | ⟨h1, h2⟩)
      · omega
      · have := isO_lt h1; omega))
  clear m9
  go_enter Try.func30, Try.ntmps30
  go_wp2_with fail
  clear p1 p2 p3 p4 p5 p6 p7 p8 p9 hmm
  go_loopw [2, 3, 4] (fun o _ _ wr => ∃ k : Nat, o = .int .u8 (k : Int) ∧ 1 ≤ k ∧ k ≤ 58 ∧ MapF wr w.heap.size (onK k) ∧ Below w.heap.size w wr) (fun o _ _ _ => 58 - (intOf o).toNat)
  case atStart => exact ⟨1, rfl, by omega, by omega, M9.out, Z9.out⟩
  case round =>
    obtain ⟨k, rfl, h1, h58, hm, hb⟩ := hrel
    have HB := Lib.hid hb
    have HM := Lib.hid hm
    clear hb hm M9 Z9
    rcases (show k = 1 ∨ k = 2 ∨ k = 3 ∨ k = 4 ∨ k = 5 ∨ k = 6 ∨ k = 7 ∨ k = 8 ∨ k = 9 ∨ k = 10 ∨ k = 11 ∨ k = 12 ∨ k = 13 ∨ k = 14 ∨ k = 15 ∨ k = 16 ∨ k = 17 ∨ k = 18 ∨ k = 19 ∨ k = 20 ∨ k = 21 ∨ k = 22 ∨ k = 23 ∨ k = 24 ∨ k = 25 ∨ k = 26 ∨ k = 27 ∨ k = 28 ∨ k = 29 ∨ k = 30 ∨ k = 31 ∨ k = 32 ∨ k = 33 ∨ k = 34 ∨ k = 35 ∨ k = 36 ∨ k = 37 ∨ k = 38 ∨ k = 39 ∨ k = 40 ∨ k = 41 ∨ k = 42 ∨ k = 43 ∨ k = 44 ∨ k = 45 ∨ k = 46 ∨ k = 47 ∨ k = 48 ∨ k = 49 ∨ k = 50 ∨ k = 51 ∨ k = 52 ∨ k = 53 ∨ k = 54 ∨ k = 55 ∨ k = 56 ∨ k = 57 ∨ k = 58 by omega) with rfl | rfl | rfl | rfl | rfl | rfl | rfl | rfl | rfl | rfl | rfl | rfl | rfl | rfl | rfl | rfl | rfl | rfl | rfl | rfl | rfl | rfl | rfl | rfl | rfl | rfl | rfl | rfl | rfl | rfl | rfl | rfl | rfl | rfl | rfl | rfl | rfl | rfl | rfl | rfl | rfl | rfl | rfl | rfl | rfl | rfl | rfl | rfl | rfl | rfl | rfl | rfl | rfl | rfl | rfl | rfl | rfl | rfl
    · have hl : (Instr.lookup 72 (.map (some w.heap.size)) (.int .u8 1) true).run Try.prog wr = .ok (.tuple #[.agg #[.func (.func 39) #[] #[], .int .i64 1, .int .i64 2048, .func (.func 40) #[] #[]], .bool true]) wr := HM.out.look (k := 1) (by rfl)
      go_wp2_with fail
      go_roundw
      case rel => exact ⟨2, by go_num, by omega, by omega, (HM.out.below ((Below.refl _ wr).alloc (Nat.le_refl _) _) HM.out.lt).congr (onK_skip (.inr (by rfl))), bthen HB.out ((Below.refl _ wr).alloc (Nat.le_refl _) _)⟩
      case measure => simp [intOf]
    · have hl : (Instr.lookup 72 (.map (some w.heap.size)) (.int .u8 2) true).run Try.prog wr = .ok (.tuple #[.agg #[.func (.func 39) #[] #[], .int .i64 0, .int .i64 0, .func (.func 41) #[] #[]], .bool true]) wr := HM.out.look (k := 2) (by rfl)
      go_wp2_with fail
      go_roundw
      case rel => exact ⟨3, by go_num, by omega, by omega, (HM.out.below ((Below.refl _ wr).alloc (Nat.le_refl _) _) HM.out.lt).congr (onK_skip (.inr (by rfl))), bthen HB.out ((Below.refl _ wr).alloc (Nat.le_refl _) _)⟩
      case measure => simp [intOf]
    · have hl : (Instr.lookup 72 (.map (some w.heap.size)) (.int .u8 3) true).run Try.prog wr = .ok (.tuple #[.agg #[.func (.func 42) #[] #[], .int .i64 0, .int .i64 2048, .func (.func 43) #[] #[]], .bool true]) wr := HM.out.look (k := 3) (by rfl)
      go_wp2_with fail
      go_roundw
      case rel => exact ⟨4, by go_num, by omega, by omega, (HM.out.below ((Below.refl _ wr).alloc (Nat.le_refl _) _) HM.out.lt).congr (onK_skip (.inr (by rfl))), bthen HB.out ((Below.refl _ wr).alloc (Nat.le_refl _) _)⟩
      case measure => simp [intOf]
    · have hl : (Instr.lookup 72 (.map (some w.heap.size)) (.int .u8 4) true).run Try.prog wr = .ok (.tuple #[.agg #[.nilFunc, .int .i64 0, .int .i64 0, .nilFunc], .bool false]) wr := HM.out.miss (k := 4) (by rfl)
      obtain ⟨wq, pq, mq, yq, sq⟩ := (HM.out.below ((Below.refl _ wr).alloc (Nat.le_refl _) (.cells #[.nilFunc, .int .i64 0, .int .i64 0, .nilFunc] 78)) HM.out.lt).put 4 (by rfl)
      replace pq : (Instr.mapUpdate 72 (.map (some w.heap.size)) (.int .u8 4) (.agg #[.func (.func 39) #[] #[], .int .i64 1, .int .i64 1, .func (.func 46) #[] #[]])).run Try.prog (wr.alloc (.cells #[.nilFunc, .int .i64 0, .int .i64 0, .nilFunc] 78)) = .ok () wq := pq
      have MQ := Lib.hid (mq.congr (onK_put (by rfl)))
      have YQ := Lib.hid ((bthen HB.out ((Below.refl _ wr).alloc (Nat.le_refl _) _)).trans yq)
      clear mq yq sq
      go_wp2_with fail
      go_roundw
      case rel => exact ⟨5, by go_num, by omega, by omega, MQ.out, YQ.out⟩
      case measure => simp [intOf]
    · have hl : (Instr.lookup 72 (.map (some w.heap.size)) (.int .u8 5) true).run Try.prog wr = .ok (.tuple #[.agg #[.nilFunc, .int .i64 0, .int .i64 0, .nilFunc], .bool false]) wr := HM.out.miss (k := 5) (by rfl)
      obtain ⟨wq, pq, mq, yq, sq⟩ := (HM.out.below ((Below.refl _ wr).alloc (Nat.le_refl _) (.cells #[.nilFunc, .int .i64 0, .int .i64 0, .nilFunc] 78)) HM.out.lt).put 5 (by rfl)
      replace pq : (Instr.mapUpdate 72 (.map (some w.heap.size)) (.int .u8 5) (.agg #[.func (.func 39) #[] #[], .int .i64 1, .int .i64 1, .func (.func 46) #[] #[]])).run Try.prog (wr.alloc (.cells #[.nilFunc, .int .i64 0, .int .i64 0, .nilFunc] 78)) = .ok () wq := pq
      have MQ := Lib.hid (mq.congr (onK_put (by rfl)))
      have YQ := Lib.hid ((bthen HB.out ((Below.refl _ wr).alloc (Nat.le_refl _) _)).trans yq)
      clear mq yq sq
      go_wp2_with fail
      go_roundw
      case rel => exact ⟨6, by go_num, by omega, by omega, MQ.out, YQ.out⟩
      case measure => simp [intOf]
    · have hl : (Instr.lookup 72 (.map (some w.heap.size)) (.int .u8 6) true).run Try.prog wr = .ok (.tuple #[.agg #[.func (.func 42) #[] #[], .int .i64 2, .int .i64 3, .func (.func 44) #[] #[]], .bool true]) wr := HM.out.look (k := 6) (by rfl)
      go_wp2_with fail
      go_roundw
      case rel => exact ⟨7, by go_num, by omega, by omega, (HM.out.below ((Below.refl _ wr).alloc (Nat.le_refl _) _) HM.out.lt).congr (onK_skip (.inr (by rfl))), bthen HB.out ((Below.refl _ wr).alloc (Nat.le_refl _) _)⟩
      case measure => simp [intOf]
    · have hl : (Instr.lookup 72 (.map (some w.heap.size)) (.int .u8 7) true).run Try.prog wr = .ok (.tuple #[.agg #[.func (.func 42) #[] #[], .int .i64 2, .int .i64 2, .func (.func 44) #[] #[]], .bool true]) wr := HM.out.look (k := 7) (by rfl)
      go_wp2_with fail
      go_roundw
      case rel => exact ⟨8, by go_num, by omega, by omega, (HM.out.below ((Below.refl _ wr).alloc (Nat.le_refl _) _) HM.out.lt).congr (onK_skip (.inr (by rfl))), bthen HB.out ((Below.refl _ wr).alloc (Nat.le_refl _) _)⟩
      case measure => simp [intOf]
    · have hl : (Instr.lookup 72 (.map (some w.heap.size)) (.int .u8 8) true).run Try.prog wr = .ok (.tuple #[.agg #[.nilFunc, .int .i64 0, .int .i64 0, .nilFunc], .bool false]) wr := HM.out.miss (k := 8) (by rfl)
      obtain ⟨wq, pq, mq, yq, sq⟩ := (HM.out.below ((Below.refl _ wr).alloc (Nat.le_refl _) (.cells #[.nilFunc, .int .i64 0, .int .i64 0, .nilFunc] 78)) HM.out.lt).put 8 (by rfl)
      replace pq : (Instr.mapUpdate 72 (.map (some w.heap.size)) (.int .u8 8) (.agg #[.func (.func 42) #[] #[], .int .i64 1, .int .i64 1, .func (.func 46) #[] #[]])).run Try.prog (wr.alloc (.cells #[.nilFunc, .int .i64 0, .int .i64 0, .nilFunc] 78)) = .ok () wq := pq
      have MQ := Lib.hid (mq.congr (onK_put (by rfl)))
      have YQ := Lib.hid ((bthen HB.out ((Below.refl _ wr).alloc (Nat.le_refl _) _)).trans yq)
      clear mq yq sq
      go_wp2_with fail
      go_roundw
      case rel => exact ⟨9, by go_num, by omega, by omega, MQ.out, YQ.out⟩
      case measure => simp [intOf]
    · have hl : (Instr.lookup 72 (.map (some w.heap.size)) (.int .u8 9) true).run Try.prog wr = .ok (.tuple #[.agg #[.nilFunc, .int .i64 0, .int .i64 0, .nilFunc], .bool false]) wr := HM.out.miss (k := 9) (by rfl)
      obtain ⟨wq, pq, mq, yq, sq⟩ := (HM.out.below ((Below.refl _ wr).alloc (Nat.le_refl _) (.cells #[.nilFunc, .int .i64 0, .int .i64 0, .nilFunc] 78)) HM.out.lt).put 9 (by rfl)
      replace pq : (Instr.mapUpdate 72 (.map (some w.heap.size)) (.int .u8 9) (.agg #[.func (.func 42) #[] #[], .int .i64 1, .int .i64 1, .func (.func 46) #[] #[]])).run Try.prog (wr.alloc (.cells #[.nilFunc, .int .i64 0, .int .i64 0, .nilFunc] 78)) = .ok () wq := pq
      have MQ := Lib.hid (mq.congr (onK_put (by rfl)))
      have YQ := Lib.hid ((bthen HB.out ((Below.refl _ wr).alloc (Nat.le_refl _) _)).trans yq)
      clear mq yq sq
      go_wp2_with fail
      go_roundw
      case rel => exact ⟨10, by go_num, by omega, by omega, MQ.out, YQ.out⟩
      case measure => simp [intOf]
    · have hl : (Instr.lookup 72 (.map (some w.heap.size)) (.int .u8 10) true).run Try.prog wr = .ok (.tuple #[.agg #[.nilFunc, .int .i64 0, .int .i64 0, .nilFunc], .bool false]) wr := HM.out.miss (k := 10) (by rfl)
      obtain ⟨wq, pq, mq, yq, sq⟩ := (HM.out.below ((Below.refl _ wr).alloc (Nat.le_refl _) (.cells #[.nilFunc, .int .i64 0, .int .i64 0, .nilFunc] 78)) HM.out.lt).put 10 (by rfl)
      replace pq : (Instr.mapUpdate 72 (.map (some w.heap.size)) (.int .u8 10) (.agg #[.func (.func 42) #[] #[], .int .i64 1, .int .i64 1, .func (.func 46) #[] #[]])).run Try.prog (wr.alloc (.cells #[.nilFunc, .int .i64 0, .int .i64 0, .nilFunc] 78)) = .ok () wq := pq
      have MQ := Lib.hid (mq.congr (onK_put (by rfl)))
      have YQ := Lib.hid ((bthen HB.out ((Below.refl _ wr).alloc (Nat.le_refl _) _)).trans yq)
      clear mq yq sq
      go_wp2_with fail
      go_roundw
      case rel => exact ⟨11, by go_num, by omega, by omega, MQ.out, YQ.out⟩
      case measure => simp [intOf]
    · have hl : (Instr.lookup 72 (.map (some w.heap.size)) (.int .u8 11) true).run Try.prog wr = .ok (.tuple #[.agg #[.nilFunc, .int .i64 0, .int .i64 0, .nilFunc], .bool false]) wr := HM.out.miss (k := 11) (by rfl)
      obtain ⟨wq, pq, mq, yq, sq⟩ := (HM.out.below ((Below.refl _ wr).alloc (Nat.le_refl _) (.cells #[.nilFunc, .int .i64 0, .int .i64 0, .nilFunc] 78)) HM.out.lt).put 11 (by rfl)
      replace pq : (Instr.mapUpdate 72 (.map (some w.heap.size)) (.int .u8 11) (.agg #[.func (.func 42) #[] #[], .int .i64 1, .int .i64 1, .func (.func 46) #[] #[]])).run Try.prog (wr.alloc (.cells #[.nilFunc, .int .i64 0, .int .i64 0, .nilFunc] 78)) = .ok () wq := pq
      have MQ := Lib.hid (mq.congr (onK_put (by rfl)))
      have YQ := Lib.hid ((bthen HB.out ((Below.refl _ wr).alloc (Nat.le_refl _) _)).trans yq)
      clear mq yq sq
      go_wp2_with fail
      go_roundw
      case rel => exact ⟨12, by go_num, by omega, by omega, MQ.out, YQ.out⟩
      case measure => simp [intOf]
    · have hl : (Instr.lookup 72 (.map (some w.heap.size)) (.int .u8 12) true).run Try.prog wr = .ok (.tuple #[.agg #[.nilFunc, .int .i64 0, .int .i64 0, .nilFunc], .bool false]) wr := HM.out.miss (k := 12) (by rfl)
      go_wp2_with fail
      go_roundw
      case rel => exact ⟨13, by go_num, by omega, by omega, (HM.out.below ((Below.refl _ wr).alloc (Nat.le_refl _) _) HM.out.lt).congr (onK_skip (.inl (by rfl))), bthen HB.out ((Below.refl _ wr).alloc (Nat.le_refl _) _)⟩
      case measure => simp [intOf]
    · have hl : (Instr.lookup 72 (.map (some w.heap.size)) (.int .u8 13) true).run Try.prog wr = .ok (.tuple #[.agg #[.nilFunc, .int .i64 0, .int .i64 0, .nilFunc], .bool false]) wr := HM.out.miss (k := 13) (by rfl)
      go_wp2_with fail
      go_roundw
      case rel => exact ⟨14, by go_num, by omega, by omega, (HM.out.below ((Below.refl _ wr).alloc (Nat.le_refl _) _) HM.out.lt).congr (onK_skip (.inl (by rfl))), bthen HB.out ((Below.refl _ wr).alloc (Nat.le_refl _) _)⟩
      case measure => simp [intOf]
    · have hl : (Instr.lookup 72 (.map (some w.heap.size)) (.int .u8 14) true).run Try.prog wr = .ok (.tuple #[.agg #[.nilFunc, .int .i64 0, .int .i64 0, .nilFunc], .bool false]) wr := HM.out.miss (k := 14) (by rfl)
      go_wp2_with fail
      go_roundw
      case rel => exact ⟨15, by go_num, by omega, by omega, (HM.out.below ((Below.refl _ wr).alloc (Nat.le_refl _) _) HM.out.lt).congr (onK_skip (.inl (by rfl))), bthen HB.out ((Below.refl _ wr).alloc (Nat.le_refl _) _)⟩
      case measure => simp [intOf]
    · have hl : (Instr.lookup 72 (.map (some w.heap.size)) (.int .u8 15) true).run Try.prog wr = .ok (.tuple #[.agg #[.nilFunc, .int .i64 0, .int .i64 0, .nilFunc], .bool false]) wr := HM.out.miss (k := 15) (by rfl)
      go_wp2_with fail
      go_roundw
      case rel => exact ⟨16, by go_num, by omega, by omega, (HM.out.below ((Below.refl _ wr).alloc (Nat.le_refl _) _) HM.out.lt).congr (onK_skip (.inl (by rfl))), bthen HB.out ((Below.refl _ wr).alloc (Nat.le_refl _) _)⟩
      case measure => simp [intOf]
    · have hl : (Instr.lookup 72 (.map (some w.heap.size)) (.int .u8 16) true).run Try.prog wr = .ok (.tuple #[.agg #[.nilFunc, .int .i64 0, .int .i64 0, .nilFunc], .bool false]) wr := HM.out.miss (k := 16) (by rfl)
      go_wp2_with fail
      go_roundw
      case rel => exact ⟨17, by go_num, by omega, by omega, (HM.out.below ((Below.refl _ wr).alloc (Nat.le_refl _) _) HM.out.lt).congr (onK_skip (.inl (by rfl))), bthen HB.out ((Below.refl _ wr).alloc (Nat.le_refl _) _)⟩
      case measure => simp [intOf]
    · have hl : (Instr.lookup 72 (.map (some w.heap.size)) (.int .u8 17) true).run Try.prog wr = .ok (.tuple #[.agg #[.nilFunc, .int .i64 0, .int .i64 0, .nilFunc], .bool false]) wr := HM.out.miss (k := 17) (by rfl)
      go_wp2_with fail
      go_roundw
      case rel => exact ⟨18, by go_num, by omega, by omega, (HM.out.below ((Below.refl _ wr).alloc (Nat.le_refl _) _) HM.out.lt).congr (onK_skip (.inl (by rfl))), bthen HB.out ((Below.refl _ wr).alloc (Nat.le_refl _) _)⟩
      case measure => simp [intOf]
    · have hl : (Instr.lookup 72 (.map (some w.heap.size)) (.int .u8 18) true).run Try.prog wr = .ok (.tuple #[.agg #[.nilFunc, .int .i64 0, .int .i64 0, .nilFunc], .bool false]) wr := HM.out.miss (k := 18) (by rfl)
      go_wp2_with fail
      go_roundw
      case rel => exact ⟨19, by go_num, by omega, by omega, (HM.out.below ((Below.refl _ wr).alloc (Nat.le_refl _) _) HM.out.lt).congr (onK_skip (.inl (by rfl))), bthen HB.out ((Below.refl _ wr).alloc (Nat.le_refl _) _)⟩
      case measure => simp [intOf]
    · have hl : (Instr.lookup 72 (.map (some w.heap.size)) (.int .u8 19) true).run Try.prog wr = .ok (.tuple #[.agg #[.nilFunc, .int .i64 0, .int .i64 0, .nilFunc], .bool false]) wr := HM.out.miss (k := 19) (by rfl)
      go_wp2_with fail
      go_roundw
      case rel => exact ⟨20, by go_num, by omega, by omega, (HM.out.below ((Below.refl _ wr).alloc (Nat.le_refl _) _) HM.out.lt).congr (onK_skip (.inl (by rfl))), bthen HB.out ((Below.refl _ wr).alloc (Nat.le_refl _) _)⟩
      case measure => simp [intOf]
    · have hl : (Instr.lookup 72 (.map (some w.heap.size)) (.int .u8 20) true).run Try.prog wr = .ok (.tuple #[.agg #[.nilFunc, .int .i64 0, .int .i64 0, .nilFunc], .bool false]) wr := HM.out.miss (k := 20) (by rfl)
      obtain ⟨wq, pq, mq, yq, sq⟩ := (HM.out.below ((Below.refl _ wr).alloc (Nat.le_refl _) (.cells #[.nilFunc, .int .i64 0, .int .i64 0, .nilFunc] 78)) HM.out.lt).put 20 (by rfl)
      replace pq : (Instr.mapUpdate 72 (.map (some w.heap.size)) (.int .u8 20) (.agg #[.func (.func 42) #[] #[], .int .i64 0, .int .i64 0, .func (.func 41) #[] #[]])).run Try.prog (wr.alloc (.cells #[.nilFunc, .int .i64 0, .int .i64 0, .nilFunc] 78)) = .ok () wq := pq
      have MQ := Lib.hid (mq.congr (onK_put (by rfl)))
      have YQ := Lib.hid ((bthen HB.out ((Below.refl _ wr).alloc (Nat.le_refl _) _)).trans yq)
      clear mq yq sq
      go_wp2_with fail
      go_roundw
      case rel => exact ⟨21, by go_num, by omega, by omega, MQ.out, YQ.out⟩
      case measure => simp [intOf]
    · have hl : (Instr.lookup 72 (.map (some w.heap.size)) (.int .u8 21) true).run Try.prog wr = .ok (.tuple #[.agg #[.nilFunc, .int .i64 0, .int .i64 0, .nilFunc], .bool false]) wr := HM.out.miss (k := 21) (by rfl)
      obtain ⟨wq, pq, mq, yq, sq⟩ := (HM.out.below ((Below.refl _ wr).alloc (Nat.le_refl _) (.cells #[.nilFunc, .int .i64 0, .int .i64 0, .nilFunc] 78)) HM.out.lt).put 21 (by rfl)
      replace pq : (Instr.mapUpdate 72 (.map (some w.heap.size)) (.int .u8 21) (.agg #[.func (.func 42) #[] #[], .int .i64 0, .int .i64 0, .func (.func 41) #[] #[]])).run Try.prog (wr.alloc (.cells #[.nilFunc, .int .i64 0, .int .i64 0, .nilFunc] 78)) = .ok () wq := pq
      have MQ := Lib.hid (mq.congr (onK_put (by rfl)))
      have YQ := Lib.hid ((bthen HB.out ((Below.refl _ wr).alloc (Nat.le_refl _) _)).trans yq)
      clear mq yq sq
      go_wp2_with fail
      go_roundw
      case rel => exact ⟨22, by go_num, by omega, by omega, MQ.out, YQ.out⟩
      case measure => simp [intOf]
    · have hl : (Instr.lookup 72 (.map (some w.heap.size)) (.int .u8 22) true).run Try.prog wr = .ok (.tuple #[.agg #[.nilFunc, .int .i64 0, .int .i64 0, .nilFunc], .bool false]) wr := HM.out.miss (k := 22) (by rfl)
      obtain ⟨wq, pq, mq, yq, sq⟩ := (HM.out.below ((Below.refl _ wr).alloc (Nat.le_refl _) (.cells #[.nilFunc, .int .i64 0, .int .i64 0, .nilFunc] 78)) HM.out.lt).put 22 (by rfl)
      replace pq : (Instr.mapUpdate 72 (.map (some w.heap.size)) (.int .u8 22) (.agg #[.func (.func 42) #[] #[], .int .i64 0, .int .i64 0, .func (.func 41) #[] #[]])).run Try.prog (wr.alloc (.cells #[.nilFunc, .int .i64 0, .int .i64 0, .nilFunc] 78)) = .ok () wq := pq
      have MQ := Lib.hid (mq.congr (onK_put (by rfl)))
      have YQ := Lib.hid ((bthen HB.out ((Below.refl _ wr).alloc (Nat.le_refl _) _)).trans yq)
      clear mq yq sq
      go_wp2_with fail
      go_roundw
      case rel => exact ⟨23, by go_num, by omega, by omega, MQ.out, YQ.out⟩
      case measure => simp [intOf]
    · have hl : (Instr.lookup 72 (.map (some w.heap.size)) (.int .u8 23) true).run Try.prog wr = .ok (.tuple #[.agg #[.func (.func 42) #[] #[], .int .i64 0, .int .i64 0, .func (.func 41) #[] #[]], .bool true]) wr := HM.out.look (k := 23) (by rfl)
      go_wp2_with fail
      go_roundw
      case rel => exact ⟨24, by go_num, by omega, by omega, (HM.out.below ((Below.refl _ wr).alloc (Nat.le_refl _) _) HM.out.lt).congr (onK_skip (.inr (by rfl))), bthen HB.out ((Below.refl _ wr).alloc (Nat.le_refl _) _)⟩
      case measure => simp [intOf]
    · have hl : (Instr.lookup 72 (.map (some w.heap.size)) (.int .u8 24) true).run Try.prog wr = .ok (.tuple #[.agg #[.func (.func 45) #[] #[], .int .i64 0, .int .i64 0, .func (.func 41) #[] #[]], .bool true]) wr := HM.out.look (k := 24) (by rfl)
      go_wp2_with fail
      go_roundw
      case rel => exact ⟨25, by go_num, by omega, by omega, (HM.out.below ((Below.refl _ wr).alloc (Nat.le_refl _) _) HM.out.lt).congr (onK_skip (.inr (by rfl))), bthen HB.out ((Below.refl _ wr).alloc (Nat.le_refl _) _)⟩
      case measure => simp [intOf]
    · have hl : (Instr.lookup 72 (.map (some w.heap.size)) (.int .u8 25) true).run Try.prog wr = .ok (.tuple #[.agg #[.func (.func 42) #[] #[], .int .i64 0, .int .i64 2048, .func (.func 46) #[] #[]], .bool true]) wr := HM.out.look (k := 25) (by rfl)
      go_wp2_with fail
      go_roundw
      case rel => exact ⟨26, by go_num, by omega, by omega, (HM.out.below ((Below.refl _ wr).alloc (Nat.le_refl _) _) HM.out.lt).congr (onK_skip (.inr (by rfl))), bthen HB.out ((Below.refl _ wr).alloc (Nat.le_refl _) _)⟩
      case measure => simp [intOf]
    · have hl : (Instr.lookup 72 (.map (some w.heap.size)) (.int .u8 26) true).run Try.prog wr = .ok (.tuple #[.agg #[.nilFunc, .int .i64 0, .int .i64 0, .nilFunc], .bool false]) wr := HM.out.miss (k := 26) (by rfl)
      obtain ⟨wq, pq, mq, yq, sq⟩ := (HM.out.below ((Below.refl _ wr).alloc (Nat.le_refl _) (.cells #[.nilFunc, .int .i64 0, .int .i64 0, .nilFunc] 78)) HM.out.lt).put 26 (by rfl)
      replace pq : (Instr.mapUpdate 72 (.map (some w.heap.size)) (.int .u8 26) (.agg #[.func (.func 39) #[] #[], .int .i64 0, .int .i64 0, .func (.func 41) #[] #[]])).run Try.prog (wr.alloc (.cells #[.nilFunc, .int .i64 0, .int .i64 0, .nilFunc] 78)) = .ok () wq := pq
      have MQ := Lib.hid (mq.congr (onK_put (by rfl)))
      have YQ := Lib.hid ((bthen HB.out ((Below.refl _ wr).alloc (Nat.le_refl _) _)).trans yq)
      clear mq yq sq
      go_wp2_with fail
      go_roundw
      case rel => exact ⟨27, by go_num, by omega, by omega, MQ.out, YQ.out⟩
      case measure => simp [intOf]
    · have hl : (Instr.lookup 72 (.map (some w.heap.size)) (.int .u8 27) true).run Try.prog wr = .ok (.tuple #[.agg #[.nilFunc, .int .i64 0, .int .i64 0, .nilFunc], .bool false]) wr := HM.out.miss (k := 27) (by rfl)
      go_wp2_with fail
      go_roundw
      case rel => exact ⟨28, by go_num, by omega, by omega, (HM.out.below ((Below.refl _ wr).alloc (Nat.le_refl _) _) HM.out.lt).congr (onK_skip (.inl (by rfl))), bthen HB.out ((Below.refl _ wr).alloc (Nat.le_refl _) _)⟩
      case measure => simp [intOf]
    · have hl : (Instr.lookup 72 (.map (some w.heap.size)) (.int .u8 28) true).run Try.prog wr = .ok (.tuple #[.agg #[.nilFunc, .int .i64 0, .int .i64 0, .nilFunc], .bool false]) wr := HM.out.miss (k := 28) (by rfl)
      go_wp2_with fail
      go_roundw
      case rel => exact ⟨29, by go_num, by omega, by omega, (HM.out.below ((Below.refl _ wr).alloc (Nat.le_refl _) _) HM.out.lt).congr (onK_skip (.inl (by rfl))), bthen HB.out ((Below.refl _ wr).alloc (Nat.le_refl _) _)⟩
      case measure => simp [intOf]
    · have hl : (Instr.lookup 72 (.map (some w.heap.size)) (.int .u8 29) true).run Try.prog wr = .ok (.tuple #[.agg #[.nilFunc, .int .i64 0, .int .i64 0, .nilFunc], .bool false]) wr := HM.out.miss (k := 29) (by rfl)
      go_wp2_with fail
      go_roundw
      case rel => exact ⟨30, by go_num, by omega, by omega, (HM.out.below ((Below.refl _ wr).alloc (Nat.le_refl _) _) HM.out.lt).congr (onK_skip (.inl (by rfl))), bthen HB.out ((Below.refl _ wr).alloc (Nat.le_refl _) _)⟩
      case measure => simp [intOf]
    · have hl : (Instr.lookup 72 (.map (some w.heap.size)) (.int .u8 30) true).run Try.prog wr = .ok (.tuple #[.agg #[.nilFunc, .int .i64 0, .int .i64 0, .nilFunc], .bool false]) wr := HM.out.miss (k := 30) (by rfl)
      obtain ⟨wq, pq, mq, yq, sq⟩ := (HM.out.below ((Below.refl _ wr).alloc (Nat.le_refl _) (.cells #[.nilFunc, .int .i64 0, .int .i64 0, .nilFunc] 78)) HM.out.lt).put 30 (by rfl)
      replace pq : (Instr.mapUpdate 72 (.map (some w.heap.size)) (.int .u8 30) (.agg #[.func (.func 42) #[] #[], .int .i64 2, .int .i64 2, .func (.func 46) #[] #[]])).run Try.prog (wr.alloc (.cells #[.nilFunc, .int .i64 0, .int .i64 0, .nilFunc] 78)) = .ok () wq := pq
      have MQ := Lib.hid (mq.congr (onK_put (by rfl)))
      have YQ := Lib.hid ((bthen HB.out ((Below.refl _ wr).alloc (Nat.le_refl _) _)).trans yq)
      clear mq yq sq
      go_wp2_with fail
      go_roundw
      case rel => exact ⟨31, by go_num, by omega, by omega, MQ.out, YQ.out⟩
      case measure => simp [intOf]
    · have hl : (Instr.lookup 72 (.map (some w.heap.size)) (.int .u8 31) true).run Try.prog wr = .ok (.tuple #[.agg #[.nilFunc, .int .i64 0, .int .i64 0, .nilFunc], .bool false]) wr := HM.out.miss (k := 31) (by rfl)
      obtain ⟨wq, pq, mq, yq, sq⟩ := (HM.out.below ((Below.refl _ wr).alloc (Nat.le_refl _) (.cells #[.nilFunc, .int .i64 0, .int .i64 0, .nilFunc] 78)) HM.out.lt).put 31 (by rfl)
      replace pq : (Instr.mapUpdate 72 (.map (some w.heap.size)) (.int .u8 31) (.agg #[.func (.func 42) #[] #[], .int .i64 2, .int .i64 2, .func (.func 46) #[] #[]])).run Try.prog (wr.alloc (.cells #[.nilFunc, .int .i64 0, .int .i64 0, .nilFunc] 78)) = .ok () wq := pq
      have MQ := Lib.hid (mq.congr (onK_put (by rfl)))
      have YQ := Lib.hid ((bthen HB.out ((Below.refl _ wr).alloc (Nat.le_refl _) _)).trans yq)
      clear mq yq sq
      go_wp2_with fail
      go_roundw
      case rel => exact ⟨32, by go_num, by omega, by omega, MQ.out, YQ.out⟩
      case measure => simp [intOf]
    · have hl : (Instr.lookup 72 (.map (some w.heap.size)) (.int .u8 32) true).run Try.prog wr = .ok (.tuple #[.agg #[.nilFunc, .int .i64 0, .int .i64 0, .nilFunc], .bool false]) wr := HM.out.miss (k := 32) (by rfl)
      obtain ⟨wq, pq, mq, yq, sq⟩ := (HM.out.below ((Below.refl _ wr).alloc (Nat.le_refl _) (.cells #[.nilFunc, .int .i64 0, .int .i64 0, .nilFunc] 78)) HM.out.lt).put 32 (by rfl)
      replace pq : (Instr.mapUpdate 72 (.map (some w.heap.size)) (.int .u8 32) (.agg #[.func (.func 42) #[] #[], .int .i64 2, .int .i64 2, .func (.func 46) #[] #[]])).run Try.prog (wr.alloc (.cells #[.nilFunc, .int .i64 0, .int .i64 0, .nilFunc] 78)) = .ok () wq := pq
      have MQ := Lib.hid (mq.congr (onK_put (by rfl)))
      have YQ := Lib.hid ((bthen HB.out ((Below.refl _ wr).alloc (Nat.le_refl _) _)).trans yq)
      clear mq yq sq
      go_wp2_with fail
      go_roundw
      case rel => exact ⟨33, by go_num, by omega, by omega, MQ.out, YQ.out⟩
      case measure => simp [intOf]
    · have hl : (Instr.lookup 72 (.map (some w.heap.size)) (.int .u8 33) true).run Try.prog wr = .ok (.tuple #[.agg #[.nilFunc, .int .i64 0, .int .i64 0, .nilFunc], .bool false]) wr := HM.out.miss (k := 33) (by rfl)
      obtain ⟨wq, pq, mq, yq, sq⟩ := (HM.out.below ((Below.refl _ wr).alloc (Nat.le_refl _) (.cells #[.nilFunc, .int .i64 0, .int .i64 0, .nilFunc] 78)) HM.out.lt).put 33 (by rfl)
      replace pq : (Instr.mapUpdate 72 (.map (some w.heap.size)) (.int .u8 33) (.agg #[.func (.func 42) #[] #[], .int .i64 2, .int .i64 2, .func (.func 46) #[] #[]])).run Try.prog (wr.alloc (.cells #[.nilFunc, .int .i64 0, .int .i64 0, .nilFunc] 78)) = .ok () wq := pq
      have MQ := Lib.hid (mq.congr (onK_put (by rfl)))
      have YQ := Lib.hid ((bthen HB.out ((Below.refl _ wr).alloc (Nat.le_refl _) _)).trans yq)
      clear mq yq sq
      go_wp2_with fail
      go_roundw
      case rel => exact ⟨34, by go_num, by omega, by omega, MQ.out, YQ.out⟩
      case measure => simp [intOf]
    · have hl : (Instr.lookup 72 (.map (some w.heap.size)) (.int .u8 34) true).run Try.prog wr = .ok (.tuple #[.agg #[.nilFunc, .int .i64 0, .int .i64 0, .nilFunc], .bool false]) wr := HM.out.miss (k := 34) (by rfl)
      obtain ⟨wq, pq, mq, yq, sq⟩ := (HM.out.below ((Below.refl _ wr).alloc (Nat.le_refl _) (.cells #[.nilFunc, .int .i64 0, .int .i64 0, .nilFunc] 78)) HM.out.lt).put 34 (by rfl)
      replace pq : (Instr.mapUpdate 72 (.map (some w.heap.size)) (.int .u8 34) (.agg #[.func (.func 42) #[] #[], .int .i64 2, .int .i64 2, .func (.func 46) #[] #[]])).run Try.prog (wr.alloc (.cells #[.nilFunc, .int .i64 0, .int .i64 0, .nilFunc] 78)) = .ok () wq := pq
      have MQ := Lib.hid (mq.congr (onK_put (by rfl)))
      have YQ := Lib.hid ((bthen HB.out ((Below.refl _ wr).alloc (Nat.le_refl _) _)).trans yq)
      clear mq yq sq
      go_wp2_with fail
      go_roundw
      case rel => exact ⟨35, by go_num, by omega, by omega, MQ.out, YQ.out⟩
      case measure => simp [intOf]
    · have hl : (Instr.lookup 72 (.map (some w.heap.size)) (.int .u8 35) true).run Try.prog wr = .ok (.tuple #[.agg #[.nilFunc, .int .i64 0, .int .i64 0, .nilFunc], .bool false]) wr := HM.out.miss (k := 35) (by rfl)
      obtain ⟨wq, pq, mq, yq, sq⟩ := (HM.out.below ((Below.refl _ wr).alloc (Nat.le_refl _) (.cells #[.nilFunc, .int .i64 0, .int .i64 0, .nilFunc] 78)) HM.out.lt).put 35 (by rfl)
      replace pq : (Instr.mapUpdate 72 (.map (some w.heap.size)) (.int .u8 35) (.agg #[.func (.func 42) #[] #[], .int .i64 2, .int .i64 2, .func (.func 46) #[] #[]])).run Try.prog (wr.alloc (.cells #[.nilFunc, .int .i64 0, .int .i64 0, .nilFunc] 78)) = .ok () wq := pq
      have MQ := Lib.hid (mq.congr (onK_put (by rfl)))
      have YQ := Lib.hid ((bthen HB.out ((Below.refl _ wr).alloc (Nat.le_refl _) _)).trans yq)
      clear mq yq sq
      go_wp2_with fail
      go_roundw
      case rel => exact ⟨36, by go_num, by omega, by omega, MQ.out, YQ.out⟩
      case measure => simp [intOf]
    · have hl : (Instr.lookup 72 (.map (some w.heap.size)) (.int .u8 36) true).run Try.prog wr = .ok (.tuple #[.agg #[.nilFunc, .int .i64 0, .int .i64 0, .nilFunc], .bool false]) wr := HM.out.miss (k := 36) (by rfl)
      obtain ⟨wq, pq, mq, yq, sq⟩ := (HM.out.below ((Below.refl _ wr).alloc (Nat.le_refl _) (.cells #[.nilFunc, .int .i64 0, .int .i64 0, .nilFunc] 78)) HM.out.lt).put 36 (by rfl)
      replace pq : (Instr.mapUpdate 72 (.map (some w.heap.size)) (.int .u8 36) (.agg #[.func (.func 42) #[] #[], .int .i64 2, .int .i64 2, .func (.func 46) #[] #[]])).run Try.prog (wr.alloc (.cells #[.nilFunc, .int .i64 0, .int .i64 0, .nilFunc] 78)) = .ok () wq := pq
      have MQ := Lib.hid (mq.congr (onK_put (by rfl)))
      have YQ := Lib.hid ((bthen HB.out ((Below.refl _ wr).alloc (Nat.le_refl _) _)).trans yq)
      clear mq yq sq
      go_wp2_with fail
      go_roundw
      case rel => exact ⟨37, by go_num, by omega, by omega, MQ.out, YQ.out⟩
      case measure => simp [intOf]
    · have hl : (Instr.lookup 72 (.map (some w.heap.size)) (.int .u8 37) true).run Try.prog wr = .ok (.tuple #[.agg #[.nilFunc, .int .i64 0, .int .i64 0, .nilFunc], .bool false]) wr := HM.out.miss (k := 37) (by rfl)
      obtain ⟨wq, pq, mq, yq, sq⟩ := (HM.out.below ((Below.refl _ wr).alloc (Nat.le_refl _) (.cells #[.nilFunc, .int .i64 0, .int .i64 0, .nilFunc] 78)) HM.out.lt).put 37 (by rfl)
      replace pq : (Instr.mapUpdate 72 (.map (some w.heap.size)) (.int .u8 37) (.agg #[.func (.func 42) #[] #[], .int .i64 2, .int .i64 2, .func (.func 46) #[] #[]])).run Try.prog (wr.alloc (.cells #[.nilFunc, .int .i64 0, .int .i64 0, .nilFunc] 78)) = .ok () wq := pq
      have MQ := Lib.hid (mq.congr (onK_put (by rfl)))
      have YQ := Lib.hid ((bthen HB.out ((Below.refl _ wr).alloc (Nat.le_refl _) _)).trans yq)
      clear mq yq sq
      go_wp2_with fail
      go_roundw
      case rel => exact ⟨38, by go_num, by omega, by omega, MQ.out, YQ.out⟩
      case measure => simp [intOf]
    · have hl : (Instr.lookup 72 (.map (some w.heap.size)) (.int .u8 38) true).run Try.prog wr = .ok (.tuple #[.agg #[.nilFunc, .int .i64 0, .int .i64 0, .nilFunc], .bool false]) wr := HM.out.miss (k := 38) (by rfl)
      obtain ⟨wq, pq, mq, yq, sq⟩ := (HM.out.below ((Below.refl _ wr).alloc (Nat.le_refl _) (.cells #[.nilFunc, .int .i64 0, .int .i64 0, .nilFunc] 78)) HM.out.lt).put 38 (by rfl)
      replace pq : (Instr.mapUpdate 72 (.map (some w.heap.size)) (.int .u8 38) (.agg #[.func (.func 42) #[] #[], .int .i64 2, .int .i64 2, .func (.func 46) #[] #[]])).run Try.prog (wr.alloc (.cells #[.nilFunc, .int .i64 0, .int .i64 0, .nilFunc] 78)) = .ok () wq := pq
      have MQ := Lib.hid (mq.congr (onK_put (by rfl)))
      have YQ := Lib.hid ((bthen HB.out ((Below.refl _ wr).alloc (Nat.le_refl _) _)).trans yq)
      clear mq yq sq
      go_wp2_with fail
      go_roundw
      case rel => exact ⟨39, by go_num, by omega, by omega, MQ.out, YQ.out⟩
      case measure => simp [intOf]
    · have hl : (Instr.lookup 72 (.map (some w.heap.size)) (.int .u8 39) true).run Try.prog wr = .ok (.tuple #[.agg #[.nilFunc, .int .i64 0, .int .i64 0, .nilFunc], .bool false]) wr := HM.out.miss (k := 39) (by rfl)
      obtain ⟨wq, pq, mq, yq, sq⟩ := (HM.out.below ((Below.refl _ wr).alloc (Nat.le_refl _) (.cells #[.nilFunc, .int .i64 0, .int .i64 0, .nilFunc] 78)) HM.out.lt).put 39 (by rfl)
      replace pq : (Instr.mapUpdate 72 (.map (some w.heap.size)) (.int .u8 39) (.agg #[.func (.func 42) #[] #[], .int .i64 2, .int .i64 2, .func (.func 46) #[] #[]])).run Try.prog (wr.alloc (.cells #[.nilFunc, .int .i64 0, .int .i64 0, .nilFunc] 78)) = .ok () wq := pq
      have MQ := Lib.hid (mq.congr (onK_put (by rfl)))
      have YQ := Lib.hid ((bthen HB.out ((Below.refl _ wr).alloc (Nat.le_refl _) _)).trans yq)
      clear mq yq sq
      go_wp2_with fail
      go_roundw
      case rel => exact ⟨40, by go_num, by omega, by omega, MQ.out, YQ.out⟩
      case measure => simp [intOf]
    · have hl : (Instr.lookup 72 (.map (some w.heap.size)) (.int .u8 40) true).run Try.prog wr = .ok (.tuple #[.agg #[.nilFunc, .int .i64 0, .int .i64 0, .nilFunc], .bool false]) wr := HM.out.miss (k := 40) (by rfl)
      obtain ⟨wq, pq, mq, yq, sq⟩ := (HM.out.below ((Below.refl _ wr).alloc (Nat.le_refl _) (.cells #[.nilFunc, .int .i64 0, .int .i64 0, .nilFunc] 78)) HM.out.lt).put 40 (by rfl)
      replace pq : (Instr.mapUpdate 72 (.map (some w.heap.size)) (.int .u8 40) (.agg #[.func (.func 42) #[] #[], .int .i64 2, .int .i64 2, .func (.func 46) #[] #[]])).run Try.prog (wr.alloc (.cells #[.nilFunc, .int .i64 0, .int .i64 0, .nilFunc] 78)) = .ok () wq := pq
      have MQ := Lib.hid (mq.congr (onK_put (by rfl)))
      have YQ := Lib.hid ((bthen HB.out ((Below.refl _ wr).alloc (Nat.le_refl _) _)).trans yq)
      clear mq yq sq
      go_wp2_with fail
      go_roundw
      case rel => exact ⟨41, by go_num, by omega, by omega, MQ.out, YQ.out⟩
      case measure => simp [intOf]
    · have hl : (Instr.lookup 72 (.map (some w.heap.size)) (.int .u8 41) true).run Try.prog wr = .ok (.tuple #[.agg #[.nilFunc, .int .i64 0, .int .i64 0, .nilFunc], .bool false]) wr := HM.out.miss (k := 41) (by rfl)
      obtain ⟨wq, pq, mq, yq, sq⟩ := (HM.out.below ((Below.refl _ wr).alloc (Nat.le_refl _) (.cells #[.nilFunc, .int .i64 0, .int .i64 0, .nilFunc] 78)) HM.out.lt).put 41 (by rfl)
      replace pq : (Instr.mapUpdate 72 (.map (some w.heap.size)) (.int .u8 41) (.agg #[.func (.func 42) #[] #[], .int .i64 2, .int .i64 2, .func (.func 46) #[] #[]])).run Try.prog (wr.alloc (.cells #[.nilFunc, .int .i64 0, .int .i64 0, .nilFunc] 78)) = .ok () wq := pq
      have MQ := Lib.hid (mq.congr (onK_put (by rfl)))
      have YQ := Lib.hid ((bthen HB.out ((Below.refl _ wr).alloc (Nat.le_refl _) _)).trans yq)
      clear mq yq sq
      go_wp2_with fail
      go_roundw
      case rel => exact ⟨42, by go_num, by omega, by omega, MQ.out, YQ.out⟩
      case measure => simp [intOf]
    · have hl : (Instr.lookup 72 (.map (some w.heap.size)) (.int .u8 42) true).run Try.prog wr = .ok (.tuple #[.agg #[.nilFunc, .int .i64 0, .int .i64 0, .nilFunc], .bool false]) wr := HM.out.miss (k := 42) (by rfl)
      obtain ⟨wq, pq, mq, yq, sq⟩ := (HM.out.below ((Below.refl _ wr).alloc (Nat.le_refl _) (.cells #[.nilFunc, .int .i64 0, .int .i64 0, .nilFunc] 78)) HM.out.lt).put 42 (by rfl)
      replace pq : (Instr.mapUpdate 72 (.map (some w.heap.size)) (.int .u8 42) (.agg #[.func (.func 42) #[] #[], .int .i64 2, .int .i64 2, .func (.func 46) #[] #[]])).run Try.prog (wr.alloc (.cells #[.nilFunc, .int .i64 0, .int .i64 0, .nilFunc] 78)) = .ok () wq := pq
      have MQ := Lib.hid (mq.congr (onK_put (by rfl)))
      have YQ := Lib.hid ((bthen HB.out ((Below.refl _ wr).alloc (Nat.le_refl _) _)).trans yq)
      clear mq yq sq
      go_wp2_with fail
      go_roundw
      case rel => exact ⟨43, by go_num, by omega, by omega, MQ.out, YQ.out⟩
      case measure => simp [intOf]
    · have hl : (Instr.lookup 72 (.map (some w.heap.size)) (.int .u8 43) true).run Try.prog wr = .ok (.tuple #[.agg #[.nilFunc, .int .i64 0, .int .i64 0, .nilFunc], .bool false]) wr := HM.out.miss (k := 43) (by rfl)
      obtain ⟨wq, pq, mq, yq, sq⟩ := (HM.out.below ((Below.refl _ wr).alloc (Nat.le_refl _) (.cells #[.nilFunc, .int .i64 0, .int .i64 0, .nilFunc] 78)) HM.out.lt).put 43 (by rfl)
      replace pq : (Instr.mapUpdate 72 (.map (some w.heap.size)) (.int .u8 43) (.agg #[.func (.func 42) #[] #[], .int .i64 1, .int .i64 1, .func (.func 46) #[] #[]])).run Try.prog (wr.alloc (.cells #[.nilFunc, .int .i64 0, .int .i64 0, .nilFunc] 78)) = .ok () wq := pq
      have MQ := Lib.hid (mq.congr (onK_put (by rfl)))
      have YQ := Lib.hid ((bthen HB.out ((Below.refl _ wr).alloc (Nat.le_refl _) _)).trans yq)
      clear mq yq sq
      go_wp2_with fail
      go_roundw
      case rel => exact ⟨44, by go_num, by omega, by omega, MQ.out, YQ.out⟩
      case measure => simp [intOf]
    · have hl : (Instr.lookup 72 (.map (some w.heap.size)) (.int .u8 44) true).run Try.prog wr = .ok (.tuple #[.agg #[.nilFunc, .int .i64 0, .int .i64 0, .nilFunc], .bool false]) wr := HM.out.miss (k := 44) (by rfl)
      obtain ⟨wq, pq, mq, yq, sq⟩ := (HM.out.below ((Below.refl _ wr).alloc (Nat.le_refl _) (.cells #[.nilFunc, .int .i64 0, .int .i64 0, .nilFunc] 78)) HM.out.lt).put 44 (by rfl)
      replace pq : (Instr.mapUpdate 72 (.map (some w.heap.size)) (.int .u8 44) (.agg #[.func (.func 42) #[] #[], .int .i64 1, .int .i64 1, .func (.func 46) #[] #[]])).run Try.prog (wr.alloc (.cells #[.nilFunc, .int .i64 0, .int .i64 0, .nilFunc] 78)) = .ok () wq := pq
      have MQ := Lib.hid (mq.congr (onK_put (by rfl)))
      have YQ := Lib.hid ((bthen HB.out ((Below.refl _ wr).alloc (Nat.le_refl _) _)).trans yq)
      clear mq yq sq
      go_wp2_with fail
      go_roundw
      case rel => exact ⟨45, by go_num, by omega, by omega, MQ.out, YQ.out⟩
      case measure => simp [intOf]
    · have hl : (Instr.lookup 72 (.map (some w.heap.size)) (.int .u8 45) true).run Try.prog wr = .ok (.tuple #[.agg #[.nilFunc, .int .i64 0, .int .i64 0, .nilFunc], .bool false]) wr := HM.out.miss (k := 45) (by rfl)
      obtain ⟨wq, pq, mq, yq, sq⟩ := (HM.out.below ((Below.refl _ wr).alloc (Nat.le_refl _) (.cells #[.nilFunc, .int .i64 0, .int .i64 0, .nilFunc] 78)) HM.out.lt).put 45 (by rfl)
      replace pq : (Instr.mapUpdate 72 (.map (some w.heap.size)) (.int .u8 45) (.agg #[.func (.func 42) #[] #[], .int .i64 1, .int .i64 1, .func (.func 46) #[] #[]])).run Try.prog (wr.alloc (.cells #[.nilFunc, .int .i64 0, .int .i64 0, .nilFunc] 78)) = .ok () wq := pq
      have MQ := Lib.hid (mq.congr (onK_put (by rfl)))
      have YQ := Lib.hid ((bthen HB.out ((Below.refl _ wr).alloc (Nat.le_refl _) _)).trans yq)
      clear mq yq sq
      go_wp2_with fail
      go_roundw
      case rel => exact ⟨46, by go_num, by omega, by omega, MQ.out, YQ.out⟩
      case measure => simp [intOf]
    · have hl : (Instr.lookup 72 (.map (some w.heap.size)) (.int .u8 46) true).run Try.prog wr = .ok (.tuple #[.agg #[.nilFunc, .int .i64 0, .int .i64 0, .nilFunc], .bool false]) wr := HM.out.miss (k := 46) (by rfl)
      obtain ⟨wq, pq, mq, yq, sq⟩ := (HM.out.below ((Below.refl _ wr).alloc (Nat.le_refl _) (.cells #[.nilFunc, .int .i64 0, .int .i64 0, .nilFunc] 78)) HM.out.lt).put 46 (by rfl)
      replace pq : (Instr.mapUpdate 72 (.map (some w.heap.size)) (.int .u8 46) (.agg #[.func (.func 42) #[] #[], .int .i64 1, .int .i64 1, .func (.func 46) #[] #[]])).run Try.prog (wr.alloc (.cells #[.nilFunc, .int .i64 0, .int .i64 0, .nilFunc] 78)) = .ok () wq := pq
      have MQ := Lib.hid (mq.congr (onK_put (by rfl)))
      have YQ := Lib.hid ((bthen HB.out ((Below.refl _ wr).alloc (Nat.le_refl _) _)).trans yq)
      clear mq yq sq
      go_wp2_with fail
      go_roundw
      case rel => exact ⟨47, by go_num, by omega, by omega, MQ.out, YQ.out⟩
      case measure => simp [intOf]
    · have hl : (Instr.lookup 72 (.map (some w.heap.size)) (.int .u8 47) true).run Try.prog wr = .ok (.tuple #[.agg #[.nilFunc, .int .i64 0, .int .i64 0, .nilFunc], .bool false]) wr := HM.out.miss (k := 47) (by rfl)
      obtain ⟨wq, pq, mq, yq, sq⟩ := (HM.out.below ((Below.refl _ wr).alloc (Nat.le_refl _) (.cells #[.nilFunc, .int .i64 0, .int .i64 0, .nilFunc] 78)) HM.out.lt).put 47 (by rfl)
      replace pq : (Instr.mapUpdate 72 (.map (some w.heap.size)) (.int .u8 47) (.agg #[.func (.func 42) #[] #[], .int .i64 1, .int .i64 1, .func (.func 46) #[] #[]])).run Try.prog (wr.alloc (.cells #[.nilFunc, .int .i64 0, .int .i64 0, .nilFunc] 78)) = .ok () wq := pq
      have MQ := Lib.hid (mq.congr (onK_put (by rfl)))
      have YQ := Lib.hid ((bthen HB.out ((Below.refl _ wr).alloc (Nat.le_refl _) _)).trans yq)
      clear mq yq sq
      go_wp2_with fail
      go_roundw
      case rel => exact ⟨48, by go_num, by omega, by omega, MQ.out, YQ.out⟩
      case measure => simp [intOf]
    · have hl : (Instr.lookup 72 (.map (some w.heap.size)) (.int .u8 48) true).run Try.prog wr = .ok (.tuple #[.agg #[.nilFunc, .int .i64 0, .int .i64 0, .nilFunc], .bool false]) wr := HM.out.miss (k := 48) (by rfl)
      obtain ⟨wq, pq, mq, yq, sq⟩ := (HM.out.below ((Below.refl _ wr).alloc (Nat.le_refl _) (.cells #[.nilFunc, .int .i64 0, .int .i64 0, .nilFunc] 78)) HM.out.lt).put 48 (by rfl)
      replace pq : (Instr.mapUpdate 72 (.map (some w.heap.size)) (.int .u8 48) (.agg #[.func (.func 42) #[] #[], .int .i64 1, .int .i64 1, .func (.func 46) #[] #[]])).run Try.prog (wr.alloc (.cells #[.nilFunc, .int .i64 0, .int .i64 0, .nilFunc] 78)) = .ok () wq := pq
      have MQ := Lib.hid (mq.congr (onK_put (by rfl)))
      have YQ := Lib.hid ((bthen HB.out ((Below.refl _ wr).alloc (Nat.le_refl _) _)).trans yq)
      clear mq yq sq
      go_wp2_with fail
      go_roundw
      case rel => exact ⟨49, by go_num, by omega, by omega, MQ.out, YQ.out⟩
      case measure => simp [intOf]
    · have hl : (Instr.lookup 72 (.map (some w.heap.size)) (.int .u8 49) true).run Try.prog wr = .ok (.tuple #[.agg #[.nilFunc, .int .i64 0, .int .i64 0, .nilFunc], .bool false]) wr := HM.out.miss (k := 49) (by rfl)
      go_wp2_with fail
      go_roundw
      case rel => exact ⟨50, by go_num, by omega, by omega, (HM.out.below ((Below.refl _ wr).alloc (Nat.le_refl _) _) HM.out.lt).congr (onK_skip (.inl (by rfl))), bthen HB.out ((Below.refl _ wr).alloc (Nat.le_refl _) _)⟩
      case measure => simp [intOf]
    · have hl : (Instr.lookup 72 (.map (some w.heap.size)) (.int .u8 50) true).run Try.prog wr = .ok (.tuple #[.agg #[.nilFunc, .int .i64 0, .int .i64 0, .nilFunc], .bool false]) wr := HM.out.miss (k := 50) (by rfl)
      obtain ⟨wq, pq, mq, yq, sq⟩ := (HM.out.below ((Below.refl _ wr).alloc (Nat.le_refl _) (.cells #[.nilFunc, .int .i64 0, .int .i64 0, .nilFunc] 78)) HM.out.lt).put 50 (by rfl)
      replace pq : (Instr.mapUpdate 72 (.map (some w.heap.size)) (.int .u8 50) (.agg #[.func (.func 39) #[] #[], .int .i64 0, .int .i64 2048, .func (.func 46) #[] #[]])).run Try.prog (wr.alloc (.cells #[.nilFunc, .int .i64 0, .int .i64 0, .nilFunc] 78)) = .ok () wq := pq
      have MQ := Lib.hid (mq.congr (onK_put (by rfl)))
      have YQ := Lib.hid ((bthen HB.out ((Below.refl _ wr).alloc (Nat.le_refl _) _)).trans yq)
      clear mq yq sq
      go_wp2_with fail
      go_roundw
      case rel => exact ⟨51, by go_num, by omega, by omega, MQ.out, YQ.out⟩
      case measure => simp [intOf]
    · have hl : (Instr.lookup 72 (.map (some w.heap.size)) (.int .u8 51) true).run Try.prog wr = .ok (.tuple #[.agg #[.nilFunc, .int .i64 0, .int .i64 0, .nilFunc], .bool false]) wr := HM.out.miss (k := 51) (by rfl)
      obtain ⟨wq, pq, mq, yq, sq⟩ := (HM.out.below ((Below.refl _ wr).alloc (Nat.le_refl _) (.cells #[.nilFunc, .int .i64 0, .int .i64 0, .nilFunc] 78)) HM.out.lt).put 51 (by rfl)
      replace pq : (Instr.mapUpdate 72 (.map (some w.heap.size)) (.int .u8 51) (.agg #[.func (.func 39) #[] #[], .int .i64 0, .int .i64 2048, .func (.func 46) #[] #[]])).run Try.prog (wr.alloc (.cells #[.nilFunc, .int .i64 0, .int .i64 0, .nilFunc] 78)) = .ok () wq := pq
      have MQ := Lib.hid (mq.congr (onK_put (by rfl)))
      have YQ := Lib.hid ((bthen HB.out ((Below.refl _ wr).alloc (Nat.le_refl _) _)).trans yq)
      clear mq yq sq
      go_wp2_with fail
      go_roundw
      case rel => exact ⟨52, by go_num, by omega, by omega, MQ.out, YQ.out⟩
      case measure => simp [intOf]
    · have hl : (Instr.lookup 72 (.map (some w.heap.size)) (.int .u8 52) true).run Try.prog wr = .ok (.tuple #[.agg #[.nilFunc, .int .i64 0, .int .i64 0, .nilFunc], .bool false]) wr := HM.out.miss (k := 52) (by rfl)
      obtain ⟨wq, pq, mq, yq, sq⟩ := (HM.out.below ((Below.refl _ wr).alloc (Nat.le_refl _) (.cells #[.nilFunc, .int .i64 0, .int .i64 0, .nilFunc] 78)) HM.out.lt).put 52 (by rfl)
      replace pq : (Instr.mapUpdate 72 (.map (some w.heap.size)) (.int .u8 52) (.agg #[.func (.func 42) #[] #[], .int .i64 1, .int .i64 1, .func (.func 46) #[] #[]])).run Try.prog (wr.alloc (.cells #[.nilFunc, .int .i64 0, .int .i64 0, .nilFunc] 78)) = .ok () wq := pq
      have MQ := Lib.hid (mq.congr (onK_put (by rfl)))
      have YQ := Lib.hid ((bthen HB.out ((Below.refl _ wr).alloc (Nat.le_refl _) _)).trans yq)
      clear mq yq sq
      go_wp2_with fail
      go_roundw
      case rel => exact ⟨53, by go_num, by omega, by omega, MQ.out, YQ.out⟩
      case measure => simp [intOf]
    · have hl : (Instr.lookup 72 (.map (some w.heap.size)) (.int .u8 53) true).run Try.prog wr = .ok (.tuple #[.agg #[.func (.func 42) #[] #[], .int .i64 1, .int .i64 1, .func (.func 47) #[] #[]], .bool true]) wr := HM.out.look (k := 53) (by rfl)
      go_wp2_with fail
      go_roundw
      case rel => exact ⟨54, by go_num, by omega, by omega, (HM.out.below ((Below.refl _ wr).alloc (Nat.le_refl _) _) HM.out.lt).congr (onK_skip (.inr (by rfl))), bthen HB.out ((Below.refl _ wr).alloc (Nat.le_refl _) _)⟩
      case measure => simp [intOf]
    · have hl : (Instr.lookup 72 (.map (some w.heap.size)) (.int .u8 54) true).run Try.prog wr = .ok (.tuple #[.agg #[.nilFunc, .int .i64 0, .int .i64 0, .nilFunc], .bool false]) wr := HM.out.miss (k := 54) (by rfl)
      obtain ⟨wq, pq, mq, yq, sq⟩ := (HM.out.below ((Below.refl _ wr).alloc (Nat.le_refl _) (.cells #[.nilFunc, .int .i64 0, .int .i64 0, .nilFunc] 78)) HM.out.lt).put 54 (by rfl)
      replace pq : (Instr.mapUpdate 72 (.map (some w.heap.size)) (.int .u8 54) (.agg #[.func (.func 42) #[] #[], .int .i64 1, .int .i64 1, .func (.func 46) #[] #[]])).run Try.prog (wr.alloc (.cells #[.nilFunc, .int .i64 0, .int .i64 0, .nilFunc] 78)) = .ok () wq := pq
      have MQ := Lib.hid (mq.congr (onK_put (by rfl)))
      have YQ := Lib.hid ((bthen HB.out ((Below.refl _ wr).alloc (Nat.le_refl _) _)).trans yq)
      clear mq yq sq
      go_wp2_with fail
      go_roundw
      case rel => exact ⟨55, by go_num, by omega, by omega, MQ.out, YQ.out⟩
      case measure => simp [intOf]
    · have hl : (Instr.lookup 72 (.map (some w.heap.size)) (.int .u8 55) true).run Try.prog wr = .ok (.tuple #[.agg #[.nilFunc, .int .i64 0, .int .i64 0, .nilFunc], .bool false]) wr := HM.out.miss (k := 55) (by rfl)
      obtain ⟨wq, pq, mq, yq, sq⟩ := (HM.out.below ((Below.refl _ wr).alloc (Nat.le_refl _) (.cells #[.nilFunc, .int .i64 0, .int .i64 0, .nilFunc] 78)) HM.out.lt).put 55 (by rfl)
      replace pq : (Instr.mapUpdate 72 (.map (some w.heap.size)) (.int .u8 55) (.agg #[.func (.func 42) #[] #[], .int .i64 1, .int .i64 1, .func (.func 46) #[] #[]])).run Try.prog (wr.alloc (.cells #[.nilFunc, .int .i64 0, .int .i64 0, .nilFunc] 78)) = .ok () wq := pq
      have MQ := Lib.hid (mq.congr (onK_put (by rfl)))
      have YQ := Lib.hid ((bthen HB.out ((Below.refl _ wr).alloc (Nat.le_refl _) _)).trans yq)
      clear mq yq sq
      go_wp2_with fail
      go_roundw
      case rel => exact ⟨56, by go_num, by omega, by omega, MQ.out, YQ.out⟩
      case measure => simp [intOf]
    · have hl : (Instr.lookup 72 (.map (some w.heap.size)) (.int .u8 56) true).run Try.prog wr = .ok (.tuple #[.agg #[.nilFunc, .int .i64 0, .int .i64 0, .nilFunc], .bool false]) wr := HM.out.miss (k := 56) (by rfl)
      obtain ⟨wq, pq, mq, yq, sq⟩ := (HM.out.below ((Below.refl _ wr).alloc (Nat.le_refl _) (.cells #[.nilFunc, .int .i64 0, .int .i64 0, .nilFunc] 78)) HM.out.lt).put 56 (by rfl)
      replace pq : (Instr.mapUpdate 72 (.map (some w.heap.size)) (.int .u8 56) (.agg #[.func (.func 39) #[] #[], .int .i64 0, .int .i64 0, .func (.func 41) #[] #[]])).run Try.prog (wr.alloc (.cells #[.nilFunc, .int .i64 0, .int .i64 0, .nilFunc] 78)) = .ok () wq := pq
      have MQ := Lib.hid (mq.congr (onK_put (by rfl)))
      have YQ := Lib.hid ((bthen HB.out ((Below.refl _ wr).alloc (Nat.le_refl _) _)).trans yq)
      clear mq yq sq
      go_wp2_with fail
      go_roundw
      case rel => exact ⟨57, by go_num, by omega, by omega, MQ.out, YQ.out⟩
      case measure => simp [intOf]
    · have hl : (Instr.lookup 72 (.map (some w.heap.size)) (.int .u8 57) true).run Try.prog wr = .ok (.tuple #[.agg #[.nilFunc, .int .i64 0, .int .i64 0, .nilFunc], .bool false]) wr := HM.out.miss (k := 57) (by rfl)
      obtain ⟨wq, pq, mq, yq, sq⟩ := (HM.out.below ((Below.refl _ wr).alloc (Nat.le_refl _) (.cells #[.nilFunc, .int .i64 0, .int .i64 0, .nilFunc] 78)) HM.out.lt).put 57 (by rfl)
      replace pq : (Instr.mapUpdate 72 (.map (some w.heap.size)) (.int .u8 57) (.agg #[.func (.func 42) #[] #[], .int .i64 0, .int .i64 0, .func (.func 41) #[] #[]])).run Try.prog (wr.alloc (.cells #[.nilFunc, .int .i64 0, .int .i64 0, .nilFunc] 78)) = .ok () wq := pq
      have MQ := Lib.hid (mq.congr (onK_put (by rfl)))
      have YQ := Lib.hid ((bthen HB.out ((Below.refl _ wr).alloc (Nat.le_refl _) _)).trans yq)
      clear mq yq sq
      go_wp2_with fail
      go_roundw
      case rel => exact ⟨58, by go_num, by omega, by omega, MQ.out, YQ.out⟩
      case measure => simp [intOf]
    · go_wp2_with fail
      go_ret
      exact ⟨w.heap.size, rfl, HM.out.congr onK_all, HB.out, Nat.le_refl _⟩
end Go.Proofs.Ytjfdokoigkdciaa

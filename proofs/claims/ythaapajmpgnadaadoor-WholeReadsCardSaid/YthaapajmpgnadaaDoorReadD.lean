/- Reading a number of a text by the reference, walked. -/
import Derived.Test.YthaapajmpgnadaaDoorReadC
namespace Go.Proofs.YthaapajmpgnadaaDoor
open Go.RowKit

/-- What the reference's loops go by: the body begins at o; the text is right if all its body's bytes are digits. -/
structure RB (s : ByteArray) (o : Nat) : Prop where
  len : (bodyOf s.data.toList).length + o = s.size
  get : ∀ (j : Nat) (h : o + j < s.size), (bodyOf s.data.toList)[j]? = some s[o + j]
  right : rightB s.data.toList = allDig (bodyOf s.data.toList)
section
variable {s : ByteArray} {o : Nat}
theorem RB.at_ (h : RB s o) {k : Nat} (ho : o ≤ k) (hk : k < s.size) : ∃ hl : k - o < (bodyOf s.data.toList).length, (bodyOf s.data.toList)[k - o] = s[k] := by
  have hl : k - o < (bodyOf s.data.toList).length := by have := h.len; omega
  refine ⟨hl, ?_⟩
  have := h.get (k - o) (by omega)
  rw [List.getElem?_eq_getElem hl] at this
  have e := Option.some.inj this
  rw [e]
  congr 1
  omega
theorem RB.no (h : RB s o) {k : Nat} (ho : o ≤ k) (hk : k < s.size) (hd : digB s[k] = false) : 0 = readVal s.data.toList ∧ 9 = readErr s.data.toList := by
  obtain ⟨hl, e⟩ := h.at_ ho hk
  have hr : rightB s.data.toList = false := by
    rw [h.right, allDig, List.all_eq_false]
    exact ⟨_, List.getElem_mem hl, by rw [e, hd]; simp⟩
  rw [readVal, readErr, hr]
  exact ⟨rfl, rfl⟩
theorem RB.step (h : RB s o) {k : Nat} (ho : o ≤ k) (hk : k < s.size) (hd : digB s[k] = true) (ha : allDig ((bodyOf s.data.toList).take (k - o)) = true) : allDig ((bodyOf s.data.toList).take (k + 1 - o)) = true := by
  obtain ⟨hl, e⟩ := h.at_ ho hk
  have e1 : k + 1 - o = k - o + 1 := by omega
  rw [e1, List.take_succ_eq_append_getElem hl, allDig, List.all_append, e]
  simp only [allDig] at ha
  simp [ha, hd]
theorem RB.all (h : RB s o) {k : Nat} (hk : s.size ≤ k) (ha : allDig ((bodyOf s.data.toList).take (k - o)) = true) : allDig (bodyOf s.data.toList) = true := by
  rwa [List.take_of_length_le (by have := h.len; omega)] at ha
theorem RB.dig (h : RB s o) {k : Nat} (ho : o ≤ k) (hk : k < s.size) (ha : allDig (bodyOf s.data.toList) = true) : 48 ≤ s[k].toNat ∧ s[k].toNat ≤ 57 := by
  obtain ⟨hl, e⟩ := h.at_ ho hk
  rw [← e]; exact allDig_at ha hl
/-- What the digits before place k say. -/
def valTo (s : ByteArray) (o k : Nat) : Int := (decVal 0 ((bodyOf s.data.toList).take (k - o)) : Int)
theorem RB.vstep (h : RB s o) {k : Nat} (ho : o ≤ k) (hk : k < s.size) (ha : allDig (bodyOf s.data.toList) = true) : valTo s o (k + 1) = 10 * valTo s o k + ((s[k].toNat : Int) - 48) := by
  obtain ⟨hl, e⟩ := h.at_ ho hk
  have hd := h.dig ho hk ha
  have e1 : k + 1 - o = k - o + 1 := by omega
  unfold valTo
  rw [e1, decVal_step _ _ hl, e]
  omega
theorem valTo_le (s : ByteArray) (o k : Nat) : 0 ≤ valTo s o k ∧ valTo s o k ≤ (readN s.data.toList : Int) := by
  have := decVal_take_le (bodyOf s.data.toList) (k - o)
  unfold valTo readN
  omega
theorem RB.vend (h : RB s o) {k : Nat} (hk : s.size ≤ k) : valTo s o k = (readN s.data.toList : Int) := by
  unfold valTo readN
  rw [List.take_of_length_le (by have := h.len; omega)]
theorem RB.over (h : RB s o) (ha : allDig (bodyOf s.data.toList) = true) (hb : (9223372036854775808 : Int) < readN s.data.toList) : 0 = readVal s.data.toList ∧ 2 = readErr s.data.toList := by
  have hr : rightB s.data.toList = true := by rw [h.right, ha]
  have ho : readOk s.data.toList = false := by
    unfold readOk
    cases negB s.data.toList <;> simp <;> omega
  rw [readVal, readErr, hr, ho]
  exact ⟨rfl, rfl⟩
theorem RB.over' (h : RB s o) (ha : allDig (bodyOf s.data.toList) = true) (hn : negB s.data.toList = false) (hb : (9223372036854775808 : Int) ≤ readN s.data.toList) : 0 = readVal s.data.toList ∧ 2 = readErr s.data.toList := by
  have hr : rightB s.data.toList = true := by rw [h.right, ha]
  have ho : readOk s.data.toList = false := by
    unfold readOk
    rw [hn]; simp; omega
  rw [readVal, readErr, hr, ho]
  exact ⟨rfl, rfl⟩
theorem RB.fin (h : RB s o) (ha : allDig (bodyOf s.data.toList) = true) (b : Bool) (hn : negB s.data.toList = b) (hb : (readN s.data.toList : Int) ≤ 9223372036854775808) (hb' : b = false → (readN s.data.toList : Int) < 9223372036854775808) :
    sat (wv b 0 (readN s.data.toList)) = readVal s.data.toList ∧ 0 = readErr s.data.toList := by
  have hr : rightB s.data.toList = true := by rw [h.right, ha]
  have ho : readOk s.data.toList = true := by
    unfold readOk
    rw [hn]
    cases b
    · have := hb' rfl; simp <;> omega
    · simp <;> omega
  rw [readVal, readErr, hr, ho, hn]
  refine ⟨?_, rfl⟩
  cases b
  · have := hb' rfl
    rw [sat_in (by simp [wv] <;> omega) (by simp [wv] <;> omega)]; simp [wv]
  · rw [sat_in (by simp [wv] <;> omega) (by simp [wv] <;> omega)]; simp [wv]
end
/-- What the answer is, as a value. -/
def readV (s : ByteArray) : Value := .tuple #[.int .i64 (readVal s.data.toList), .int .i64 (readErr s.data.toList)]
theorem readV_eq {s : ByteArray} {a b : Int} (h : a = readVal s.data.toList ∧ b = readErr s.data.toList) : Ending.returned (.tuple #[.int .i64 a, .int .i64 b]) = .returned (readV s) := by rw [h.1, h.2]; rfl

set_option maxRecDepth 100000 in
set_option maxHeartbeats 2000000 in
theorem rread_p1 (s : ByteArray) (w : World) (hs : s.size ≤ 140737488351232) (h0 : 0 < s.size) (hm : ((s[0].toNat : Int) == 45) = false) (hz : ((s[0].toNat : Int) == 48) = false) (hrb : RB s 0) (hn : negB s.data.toList = false) :
    Calls Tryd.prog 34 #[.string s] w (RetB (readV s) w) := by
  have HN := Lib.hid hn
  clear hn
  go_enter Tryd.func34, Tryd.ntmps34
  go_wp2_with fail
  go_loop [6] (fun i => ∃ k : Nat, 0 ≤ k ∧ k ≤ s.size ∧ i = .int .i64 k ∧ allDig ((bodyOf s.data.toList).take (k - 0)) = true) (fun i => s.size - (intOf i).toNat)
  case atStart => exact ⟨0, by omega, by omega, rfl, rfl⟩
  case round =>
    obtain ⟨k, hk1, hk, rfl, hd⟩ := hrel
    have HD := Lib.hid hd
    clear hd
    by_cases hlt : k < s.size
    · have NO := Lib.hid (fun h => hrb.no hk1 hlt h)
      have ST := Lib.hid (fun h => hrb.step hk1 hlt h HD.out)
      go_wp2
      · go_ret2
        exact ⟨readV_eq (NO.out (dig_low (by assumption))), Below.refl _ _⟩
      · go_ret2
        exact ⟨readV_eq (NO.out (dig_high (by assumption))), Below.refl _ _⟩
      · go_round
        case rel => exact ⟨k + 1, by omega, by omega, by go_num, ST.out (dig_yes (by omega) (by omega))⟩
        case measure => simp [intOf]; omega
    · have HA := Lib.hid (hrb.all (by omega) HD.out)
      have hkk : (s.size : Int) ≤ (k : Int) := by omega
      clear HD
      go_wp2_with fail
      go_loop [7, 8, 9] (fun n i _ => ∃ (q : Nat) (m : Int), 0 ≤ q ∧ q ≤ s.size ∧ 0 ≤ m ∧ m ≤ 9223372036854775808 ∧ n = .int .u64 m ∧ i = .int .i64 q ∧ Hid (m = valTo s 0 q)) (fun _ i _ => s.size - (intOf i).toNat)
      case atStart => exact ⟨0, 0, by omega, by omega, by omega, by omega, rfl, rfl, Lib.hid (by simp [valTo, decVal])⟩
      case round =>
        obtain ⟨q, m, hq1, hq, hm0, hm1, rfl, rfl, HM⟩ := hrel
        by_cases hlq : q < s.size
        · have hdig := hrb.dig hq1 hlq HA.out
          have VS := Lib.hid (hrb.vstep hq1 hlq HA.out)
          have VL := Lib.hid (valTo_le s 0 (q + 1)).2
          obtain ⟨d, hdd⟩ : ∃ d : Int, d = (s[q].toNat : Int) - 48 := ⟨_, rfl⟩
          have hd0 : 0 ≤ (s[q].toNat : Int) - 48 := by omega
          have hd9 : (s[q].toNat : Int) - 48 ≤ 9 := by omega
          by_cases hov : (9223372036854775808 - ((s[q].toNat : Int) - 48)) / 10 < m
          · have OV := Lib.hid (hrb.over HA.out (by have h1 := VS.out; have h2 := VL.out; rw [← HM.out] at h1; omega))
            go_wp2_with fail
            go_ret2
            exact ⟨readV_eq OV.out, Below.refl _ _⟩
          · have hnx : 10 * m + ((s[q].toNat : Int) - 48) ≤ 9223372036854775808 := by omega
            clear hdd
            go_wp2_with fail
            go_round
            case rel => exact ⟨q + 1, 10 * m + ((s[q].toNat : Int) - 48), by omega, by omega, by omega, hnx, rfl, by go_num, Lib.hid (by rw [VS.out, ← HM.out])⟩
            case measure => simp [intOf]; omega
        · clear hlt hk hkk
          have HV := Lib.hid (show m = (readN s.data.toList : Int) by rw [HM.out, hrb.vend (by omega)])
          by_cases hlast : m < 9223372036854775808
          · have FI := Lib.hid (hrb.fin HA.out false HN.out (by rw [← HV.out]; exact hm1) (fun _ => by rw [← HV.out]; exact hlast))
            go_wp2_with fail
            refine (held_any _ _ _ (by omega) (by omega) (by omega) (by omega) _).mono ?_; rintro e w1 ⟨rfl, hb1⟩
            rw [HV.out]
            go_wp2_with fail
            go_ret2
            exact ⟨readV_eq FI.out, hb1⟩
          · have OV := Lib.hid (hrb.over' HA.out HN.out (by rw [← HV.out]; omega))
            obtain rfl : m = 9223372036854775808 := by omega
            go_wp2_with fail
            go_ret2
            exact ⟨readV_eq OV.out, Below.refl _ _⟩

set_option maxRecDepth 100000 in
set_option maxHeartbeats 2000000 in
theorem rread_p2 (s : ByteArray) (w : World) (hs : s.size ≤ 140737488351232) (h0 : 0 < s.size) (hm : ((s[0].toNat : Int) == 45) = false) (hz : ((s[0].toNat : Int) == 48) = true) (hs1 : s.size ≤ 1) (hrb : RB s 0) (hn : negB s.data.toList = false) :
    Calls Tryd.prog 34 #[.string s] w (RetB (readV s) w) := by
  have HN := Lib.hid hn
  clear hn
  go_enter Tryd.func34, Tryd.ntmps34
  go_wp2_with fail
  go_loop [6] (fun i => ∃ k : Nat, 0 ≤ k ∧ k ≤ s.size ∧ i = .int .i64 k ∧ allDig ((bodyOf s.data.toList).take (k - 0)) = true) (fun i => s.size - (intOf i).toNat)
  case atStart => exact ⟨0, by omega, by omega, rfl, rfl⟩
  case round =>
    obtain ⟨k, hk1, hk, rfl, hd⟩ := hrel
    have HD := Lib.hid hd
    clear hd
    by_cases hlt : k < s.size
    · have NO := Lib.hid (fun h => hrb.no hk1 hlt h)
      have ST := Lib.hid (fun h => hrb.step hk1 hlt h HD.out)
      go_wp2
      · go_ret2
        exact ⟨readV_eq (NO.out (dig_low (by assumption))), Below.refl _ _⟩
      · go_ret2
        exact ⟨readV_eq (NO.out (dig_high (by assumption))), Below.refl _ _⟩
      · go_round
        case rel => exact ⟨k + 1, by omega, by omega, by go_num, ST.out (dig_yes (by omega) (by omega))⟩
        case measure => simp [intOf]; omega
    · have HA := Lib.hid (hrb.all (by omega) HD.out)
      have hkk : (s.size : Int) ≤ (k : Int) := by omega
      clear HD
      go_wp2_with fail
      go_loop [7, 8, 9] (fun n i _ => ∃ (q : Nat) (m : Int), 0 ≤ q ∧ q ≤ s.size ∧ 0 ≤ m ∧ m ≤ 9223372036854775808 ∧ n = .int .u64 m ∧ i = .int .i64 q ∧ Hid (m = valTo s 0 q)) (fun _ i _ => s.size - (intOf i).toNat)
      case atStart => exact ⟨0, 0, by omega, by omega, by omega, by omega, rfl, rfl, Lib.hid (by simp [valTo, decVal])⟩
      case round =>
        obtain ⟨q, m, hq1, hq, hm0, hm1, rfl, rfl, HM⟩ := hrel
        by_cases hlq : q < s.size
        · have hdig := hrb.dig hq1 hlq HA.out
          have VS := Lib.hid (hrb.vstep hq1 hlq HA.out)
          have VL := Lib.hid (valTo_le s 0 (q + 1)).2
          obtain ⟨d, hdd⟩ : ∃ d : Int, d = (s[q].toNat : Int) - 48 := ⟨_, rfl⟩
          have hd0 : 0 ≤ (s[q].toNat : Int) - 48 := by omega
          have hd9 : (s[q].toNat : Int) - 48 ≤ 9 := by omega
          by_cases hov : (9223372036854775808 - ((s[q].toNat : Int) - 48)) / 10 < m
          · have OV := Lib.hid (hrb.over HA.out (by have h1 := VS.out; have h2 := VL.out; rw [← HM.out] at h1; omega))
            go_wp2_with fail
            go_ret2
            exact ⟨readV_eq OV.out, Below.refl _ _⟩
          · have hnx : 10 * m + ((s[q].toNat : Int) - 48) ≤ 9223372036854775808 := by omega
            clear hdd
            go_wp2_with fail
            go_round
            case rel => exact ⟨q + 1, 10 * m + ((s[q].toNat : Int) - 48), by omega, by omega, by omega, hnx, rfl, by go_num, Lib.hid (by rw [VS.out, ← HM.out])⟩
            case measure => simp [intOf]; omega
        · clear hlt hk hkk
          have HV := Lib.hid (show m = (readN s.data.toList : Int) by rw [HM.out, hrb.vend (by omega)])
          by_cases hlast : m < 9223372036854775808
          · have FI := Lib.hid (hrb.fin HA.out false HN.out (by rw [← HV.out]; exact hm1) (fun _ => by rw [← HV.out]; exact hlast))
            go_wp2_with fail
            refine (held_any _ _ _ (by omega) (by omega) (by omega) (by omega) _).mono ?_; rintro e w1 ⟨rfl, hb1⟩
            rw [HV.out]
            go_wp2_with fail
            go_ret2
            exact ⟨readV_eq FI.out, hb1⟩
          · have OV := Lib.hid (hrb.over' HA.out HN.out (by rw [← HV.out]; omega))
            obtain rfl : m = 9223372036854775808 := by omega
            go_wp2_with fail
            go_ret2
            exact ⟨readV_eq OV.out, Below.refl _ _⟩

set_option maxRecDepth 100000 in
set_option maxHeartbeats 2000000 in
theorem rread_n1 (s : ByteArray) (w : World) (hs : s.size ≤ 140737488351232) (h0 : 0 < s.size) (hm : ((s[0].toNat : Int) == 45) = true) (h1 : 1 < s.size) (hz : ((s[1].toNat : Int) == 48) = false) (hrb : RB s 1) (hn : negB s.data.toList = true) :
    Calls Tryd.prog 34 #[.string s] w (RetB (readV s) w) := by
  have hs1 : ((1 : Int) == (s.size : Int)) = false := by simp; omega
  have HN := Lib.hid hn
  clear hn
  go_enter Tryd.func34, Tryd.ntmps34
  go_wp2_with fail
  go_loop [6] (fun i => ∃ k : Nat, 1 ≤ k ∧ k ≤ s.size ∧ i = .int .i64 k ∧ allDig ((bodyOf s.data.toList).take (k - 1)) = true) (fun i => s.size - (intOf i).toNat)
  case atStart => exact ⟨1, by omega, by omega, rfl, rfl⟩
  case round =>
    obtain ⟨k, hk1, hk, rfl, hd⟩ := hrel
    have HD := Lib.hid hd
    clear hd
    by_cases hlt : k < s.size
    · have NO := Lib.hid (fun h => hrb.no hk1 hlt h)
      have ST := Lib.hid (fun h => hrb.step hk1 hlt h HD.out)
      go_wp2
      · go_ret2
        exact ⟨readV_eq (NO.out (dig_low (by assumption))), Below.refl _ _⟩
      · go_ret2
        exact ⟨readV_eq (NO.out (dig_high (by assumption))), Below.refl _ _⟩
      · go_round
        case rel => exact ⟨k + 1, by omega, by omega, by go_num, ST.out (dig_yes (by omega) (by omega))⟩
        case measure => simp [intOf]; omega
    · have HA := Lib.hid (hrb.all (by omega) HD.out)
      have hkk : (s.size : Int) ≤ (k : Int) := by omega
      clear HD
      go_wp2_with fail
      go_loop [7, 8, 9] (fun n i _ => ∃ (q : Nat) (m : Int), 1 ≤ q ∧ q ≤ s.size ∧ 0 ≤ m ∧ m ≤ 9223372036854775808 ∧ n = .int .u64 m ∧ i = .int .i64 q ∧ Hid (m = valTo s 1 q)) (fun _ i _ => s.size - (intOf i).toNat)
      case atStart => exact ⟨1, 0, by omega, by omega, by omega, by omega, rfl, rfl, Lib.hid (by simp [valTo, decVal])⟩
      case round =>
        obtain ⟨q, m, hq1, hq, hm0, hm1, rfl, rfl, HM⟩ := hrel
        by_cases hlq : q < s.size
        · have hdig := hrb.dig hq1 hlq HA.out
          have VS := Lib.hid (hrb.vstep hq1 hlq HA.out)
          have VL := Lib.hid (valTo_le s 1 (q + 1)).2
          obtain ⟨d, hdd⟩ : ∃ d : Int, d = (s[q].toNat : Int) - 48 := ⟨_, rfl⟩
          have hd0 : 0 ≤ (s[q].toNat : Int) - 48 := by omega
          have hd9 : (s[q].toNat : Int) - 48 ≤ 9 := by omega
          by_cases hov : (9223372036854775808 - ((s[q].toNat : Int) - 48)) / 10 < m
          · have OV := Lib.hid (hrb.over HA.out (by have h1 := VS.out; have h2 := VL.out; rw [← HM.out] at h1; omega))
            go_wp2_with fail
            go_ret2
            exact ⟨readV_eq OV.out, Below.refl _ _⟩
          · have hnx : 10 * m + ((s[q].toNat : Int) - 48) ≤ 9223372036854775808 := by omega
            clear hdd
            go_wp2_with fail
            go_round
            case rel => exact ⟨q + 1, 10 * m + ((s[q].toNat : Int) - 48), by omega, by omega, by omega, hnx, rfl, by go_num, Lib.hid (by rw [VS.out, ← HM.out])⟩
            case measure => simp [intOf]; omega
        · clear hlt hk hkk
          have FI := Lib.hid (hrb.fin HA.out true HN.out (by rw [← hrb.vend (k := q) (by omega), ← HM.out]; exact hm1) (fun h => by cases h))
          have HV := Lib.hid (show m = (readN s.data.toList : Int) by rw [HM.out, hrb.vend (by omega)])
          cases hlast : (m == 9223372036854775808)
          all_goals
            go_wp2_with fail
            refine (held_any _ _ _ (by omega) (by omega) (by omega) (by omega) _).mono ?_; rintro e w1 ⟨rfl, hb1⟩
            rw [HV.out]
            go_wp2_with fail
            go_ret2
            exact ⟨readV_eq FI.out, hb1⟩

theorem rread_e0 (s : ByteArray) (w : World) (h0 : s.size ≤ 0) : Calls Tryd.prog 34 #[.string s] w (RetB (.tuple #[.int .i64 0, .int .i64 9]) w) := by
  have e : ((0 : Int) == (s.size : Int)) = true := by simp; omega
  go_enter Tryd.func34, Tryd.ntmps34
  go_wp2_with fail
  go_ret2
  exact ⟨rfl, Below.refl _ _⟩
theorem rread_e1 (s : ByteArray) (w : World) (hs : s.size ≤ 140737488351232) (h0 : 0 < s.size) (hm : ((s[0].toNat : Int) == 45) = false) (hz : ((s[0].toNat : Int) == 48) = true) (h1 : 1 < s.size) :
    Calls Tryd.prog 34 #[.string s] w (RetB (.tuple #[.int .i64 0, .int .i64 9]) w) := by
  have e : ((0 : Int) == (s.size : Int)) = false := by simp; omega
  go_enter Tryd.func34, Tryd.ntmps34
  go_wp2_with fail
  go_ret2
  exact ⟨rfl, Below.refl _ _⟩
theorem rread_e2 (s : ByteArray) (w : World) (h0 : 0 < s.size) (hm : ((s[0].toNat : Int) == 45) = true) (h1 : ((1 : Int) == (s.size : Int)) = true) :
    Calls Tryd.prog 34 #[.string s] w (RetB (.tuple #[.int .i64 0, .int .i64 9]) w) := by
  go_enter Tryd.func34, Tryd.ntmps34
  go_wp2_with fail
  go_ret2
  exact ⟨rfl, Below.refl _ _⟩
theorem rread_e3 (s : ByteArray) (w : World) (hs : s.size ≤ 140737488351232) (h0 : 0 < s.size) (hm : ((s[0].toNat : Int) == 45) = true) (h1 : 1 < s.size) (hz : ((s[1].toNat : Int) == 48) = true) :
    Calls Tryd.prog 34 #[.string s] w (RetB (.tuple #[.int .i64 0, .int .i64 9]) w) := by
  have e : ((1 : Int) == (s.size : Int)) = false := by simp; omega
  go_enter Tryd.func34, Tryd.ntmps34
  go_wp2_with fail
  go_ret2
  exact ⟨rfl, Below.refl _ _⟩
theorem readV_no {s : ByteArray} (h : rightB s.data.toList = false) : readV s = .tuple #[.int .i64 0, .int .i64 9] := by rw [readV, readVal, readErr, h]; rfl
theorem rb_pos {s : ByteArray} (h0 : 0 < s.size) (hn : negB s.data.toList = false) (hz : zeroLed s.data.toList = false) : RB s 0 := by
  have hb : bodyOf s.data.toList = s.data.toList := by rw [bodyOf, hn]; rfl
  refine ⟨by rw [hb, data_len]; rfl, fun j h => ?_, ?_⟩
  · rw [hb, List.getElem?_eq_getElem (by rw [data_len]; omega), get_data s j (by omega)]
    congr 1
    congr 1
    omega
  · rw [rightB, hn, hb]
    exact body_loop h0 hz
theorem rb_neg {s : ByteArray} (h1 : 1 < s.size) (hn : negB s.data.toList = true) (hz : ((s[1].toNat : Int) == 48) = false) : RB s 1 := by
  have hb : bodyOf s.data.toList = s.data.toList.tail := by rw [bodyOf, hn]; rfl
  have hp : 0 < (s.extract 1 s.size).size := by rw [size_extract1]; omega
  have hx : (((s.extract 1 s.size)[0].toNat : Int) == 48) = false := by rw [ByteArray.getElem_extract]; exact hz
  refine ⟨by rw [hb, List.length_tail, data_len]; omega, fun j h => ?_, ?_⟩
  · rw [hb, List.getElem?_tail, List.getElem?_eq_getElem (by rw [data_len]; omega), get_data s (j + 1) (by omega)]
    congr 1
    congr 1
    omega
  · have hne : (s.data.toList.tail == [48]) = false := by
      cases hq : (s.data.toList.tail == [48]) with
      | false => rfl
      | true =>
        have hq' : s.data.toList.tail = [48] := by simpa using hq
        have := head_not hp (n := 48) (c := 48) rfl hx
        rw [tail_extract, hq'] at this
        exact absurd rfl this
    rw [rightB, hn, if_pos rfl, hne, hb, ← tail_extract]
    exact body_loop hp (zero_no hp (.inl hx))
theorem rread_any (s : ByteArray) (w : World) (hs : s.size ≤ 140737488351232) : Calls Tryd.prog 34 #[.string s] w (RetB (readV s) w) := by
  by_cases h0 : 0 < s.size
  · cases hm : ((s[0].toNat : Int) == 45) with
    | false =>
      have hn : negB s.data.toList = false := by rw [negB, decide_eq_false (head_not h0 (n := 45) (c := 45) rfl hm)]
      cases hz : ((s[0].toNat : Int) == 48) with
      | false => exact rread_p1 s w hs h0 hm hz (rb_pos h0 hn (zero_no h0 (.inl hz))) hn
      | true =>
        by_cases h1 : 1 < s.size
        · rw [readV_no (by rw [rightB, hn]; simp [bodyOk, zero_yes h0 hz h1])]
          exact rread_e1 s w hs h0 hm hz h1
        · exact rread_p2 s w hs h0 hm hz (by omega) (rb_pos h0 hn (zero_no h0 (.inr (by omega)))) hn
    | true =>
      have hn : negB s.data.toList = true := by rw [negB, decide_eq_true (head_is h0 (n := 45) (c := 45) rfl hm)]
      by_cases h1 : 1 < s.size
      · cases hz : ((s[1].toNat : Int) == 48) with
        | false => exact rread_n1 s w hs h0 hm h1 hz (rb_neg h1 hn hz) hn
        | true =>
          have hp : 0 < (s.extract 1 s.size).size := by rw [size_extract1]; omega
          have hx : (((s.extract 1 s.size)[0].toNat : Int) == 48) = true := by rw [ByteArray.getElem_extract]; exact hz
          rw [readV_no ?_]
          · exact rread_e3 s w hs h0 hm h1 hz
          · rw [rightB, hn, if_pos rfl]
            by_cases h2 : 2 < s.size
            · rw [← tail_extract, show bodyOk (s.extract 1 s.size).data.toList = false by rw [bodyOk, zero_yes hp hx (by rw [size_extract1]; omega)]; simp]
              simp
            · have ht : s.data.toList.tail = [48] := by
                have h3 := head_is hp (n := 48) (c := 48) rfl hx
                rw [tail_extract] at h3
                have h4 : s.data.toList.tail.length = 1 := by rw [List.length_tail, data_len]; omega
                obtain ⟨c, hc⟩ := List.length_eq_one_iff.1 h4
                rw [hc] at h3 ⊢
                simp at h3
                rw [h3]
              rw [ht]; rfl
      · rw [readV_no ?_]
        · exact rread_e2 s w h0 hm (by simp; omega)
        · have ht : s.data.toList.tail = [] := List.eq_nil_of_length_eq_zero (by rw [List.length_tail, data_len]; omega)
          rw [rightB, hn, if_pos rfl, ht]; rfl
  · rw [readV_no (by rw [data_nil (by omega)]; rfl)]
    exact rread_e0 s w (by omega)
end Go.Proofs.YthaapajmpgnadaaDoor

/- The statements WholeReads and WholeBack of layer 1, walked. -/
import Derived.Test.YthaapajmpgnadaaDoorReadD
import Derived.Test.YthaapajmpgnadaaDoorReadE
namespace Go.Proofs.YthaapajmpgnadaaDoor
open Go.RowKit

theorem text_s (a : Int) (ha : -9223372036854775808 ≤ a) (ha' : a ≤ 9223372036854775807) (w : World) (hp : Pow10 w) :
    Calls Tryd.prog 35 #[.int .i64 a] w (RetB (.string (itoaS a)) w) := text_any a ha ha' w hp
theorem read_s (s : ByteArray) (w : World) (hs : s.size ≤ 140737488351232) (hr : RangeVar w) :
    Calls Tryd.prog 33 #[.string s] w (RetB (readV s) w) := read_any s w hs hr

set_option maxHeartbeats 1000000 in
theorem reads_big (s : ByteArray) (a : Int) (w : World) (hs : s.size ≤ 9223372036854775807) (hb : 2000 < s.size) (hp : Pow10 w) :
    Calls Tryd.prog 8 #[.string s, .int .i64 a] w (RetB (.bool true) w) := by
  have H := Lib.hid hp
  clear hp
  go_enter Tryd.func8, Tryd.ntmps8
  go_wp2_with fail
  refine (awake_any _ H.out).mono ?_; rintro e w1 ⟨rfl, h1⟩
  go_wp2_with fail
  go_ret
  exact ⟨rfl, h1⟩
set_option maxHeartbeats 1000000 in
theorem reads_small (s : ByteArray) (a : Int) (w : World) (hb : s.size ≤ 2000) (ha : -9223372036854775808 ≤ a) (ha' : a ≤ 9223372036854775807) (hp : Pow10 w) (hr : RangeVar w) :
    Calls Tryd.prog 8 #[.string s, .int .i64 a] w (RetB (.bool true) w) := by
  have H := Lib.hid hp
  have HR := Lib.hid hr
  clear hp hr
  go_enter Tryd.func8, Tryd.ntmps8
  go_wp2_with fail
  refine (awake_any _ H.out).mono ?_; rintro e w1 ⟨rfl, h1⟩
  go_wp2_with fail
  refine (read_s s _ (by omega) (HR.out.below h1)).mono ?_; rintro e w2 ⟨rfl, h2⟩
  unfold readV
  go_wp2_with fail
  refine (rread_any s _ (by omega)).mono ?_; rintro e w3 ⟨rfl, h3⟩
  unfold readV
  go_wp2_with fail
  refine (text_s a ha ha' _ (((H.out.below h1).below h2).below h3)).mono ?_; rintro e w4 ⟨rfl, h4⟩
  go_wp2_with fail
  refine (rtext_any a ha ha' _).mono ?_; rintro e w5 ⟨rfl, h5⟩
  go_wp2_with fail
  go_ret
  exact ⟨rfl, bthen (bthen (bthen (bthen h1 h2) h3) h4) h5⟩
theorem reads_law (s : ByteArray) (a : Int) (w : World) (hs : s.size ≤ maxLen) (ha : -9223372036854775808 ≤ a) (ha' : a ≤ 9223372036854775807) (hp : Pow10 w) (hr : RangeVar w) :
    Calls Tryd.prog 8 #[.string s, .int .i64 a] w (RetB (.bool true) w) := by
  by_cases h : 2000 < s.size
  · exact reads_big s a w hs h hp
  · exact reads_small s a w (by omega) ha ha' hp hr

theorem itoaS_data (a : Int) : (itoaS a).data.toList = Lib.itoa a := by simp [itoaS]
theorem itoaS_size (a : Int) : (itoaS a).size = (Lib.itoa a).length := by rw [← data_len, itoaS_data]
theorem nDig_le : ∀ (k n : Nat), n < 10 ^ (k + 1) → (Lib.decDigits n).length ≤ k + 1
  | 0, n, h => by rw [dd_small (by simpa using h)]; simp
  | k + 1, n, h => by
    by_cases h1 : n < 10
    · rw [dd_small h1]; simp
    · rw [dd_big h1, List.length_append]
      have := nDig_le k (n / 10) (by rw [Nat.pow_succ] at h; omega)
      simp
      omega
theorem itoa_len (a : Int) (ha : -9223372036854775808 ≤ a) (ha' : a ≤ 9223372036854775807) : (itoaS a).size ≤ 30 := by
  rw [itoaS_size]
  have e : (10 : Nat) ^ (19 + 1) = 100000000000000000000 := by decide
  unfold Lib.itoa
  split
  · have := nDig_le 19 a.natAbs (by omega)
    rw [List.length_cons]; omega
  · have := nDig_le 19 a.toNat (by omega)
    omega
theorem readV_itoa (a : Int) (ha : -9223372036854775808 ≤ a) (ha' : a ≤ 9223372036854775807) : readV (itoaS a) = .tuple #[.int .i64 a, .int .i64 0] := by
  have := itoa_read a ha ha'
  rw [readV, itoaS_data, this.1, this.2]
set_option maxHeartbeats 1000000 in
theorem back_law (a : Int) (s : ByteArray) (w : World) (ha : -9223372036854775808 ≤ a) (ha' : a ≤ 9223372036854775807) (hs : s.size ≤ maxLen) (hp : Pow10 w) (hr : RangeVar w) :
    Calls Tryd.prog 9 #[.int .i64 a, .string s] w (RetB (.bool true) w) := by
  have H := Lib.hid hp
  have HR := Lib.hid hr
  have hs' : s.size ≤ 9223372036854775807 := hs
  clear hp hr hs
  have R1 := Lib.hid (readV_itoa a ha ha')
  have hl := itoa_len a ha ha'
  go_enter Tryd.func9, Tryd.ntmps9
  go_wp2_with fail
  refine (awake_any _ H.out).mono ?_; rintro e w1 ⟨rfl, h1⟩
  go_wp2_with fail
  refine (text_s a ha ha' _ (H.out.below h1)).mono ?_; rintro e w2 ⟨rfl, h2⟩
  go_wp2_with fail
  refine (read_s (itoaS a) _ (by omega) ((HR.out.below h1).below h2)).mono ?_; rintro e w3 ⟨rfl, h3⟩
  rw [R1.out]
  clear hl
  by_cases hb : 2000 < s.size
  · go_wp2_with fail
    go_ret
    exact ⟨rfl, bthen (bthen h1 h2) h3⟩
  · go_wp2_with fail
    refine (read_s s _ (by omega) (((HR.out.below h1).below h2).below h3)).mono ?_; rintro e w4 ⟨rfl, h4⟩
    rcases readErr_cases s.data.toList with h0 | ⟨h0, h0'⟩ | ⟨h0, h0'⟩
    · obtain ⟨v0, v1⟩ := readVal_bounds s.data.toList
      have RI := Lib.hid (read_itoa h0)
      have RV := Lib.hid (show readV s = .tuple #[.int .i64 (readVal s.data.toList), .int .i64 0] by rw [readV, h0])
      generalize readVal s.data.toList = v at *
      rw [RV.out]
      clear h0
      go_wp2_with fail
      refine (text_s v v0 v1 _ ((((H.out.below h1).below h2).below h3).below h4)).mono ?_; rintro e w5 ⟨rfl, h5⟩
      have e : itoaS v = s := WideShapes.bytes_inj (by rw [itoaS_data, RI.out])
      rw [e]
      clear e
      go_wp2_with fail
      go_ret
      exact ⟨rfl, bthen (bthen (bthen (bthen h1 h2) h3) h4) h5⟩
    · have hlen : decide ((18 : Int) < (s.size : Int)) = true := by
        have := read_long_len h0
        rw [data_len] at this
        exact decide_eq_true (by omega)
      have RV := Lib.hid (show readV s = .tuple #[.int .i64 0, .int .i64 2] by rw [readV, h0, h0'])
      rw [RV.out]
      clear h0 h0'
      go_wp2_with fail
      go_ret
      exact ⟨rfl, bthen (bthen (bthen h1 h2) h3) h4⟩
    · have RV := Lib.hid (show readV s = .tuple #[.int .i64 0, .int .i64 9] by rw [readV, h0, h0'])
      rw [RV.out]
      clear h0 h0'
      go_wp2_with fail
      go_ret
      exact ⟨rfl, bthen (bthen (bthen h1 h2) h3) h4⟩
end Go.Proofs.YthaapajmpgnadaaDoor

/- The statement WholeMost of layer 1, walked. -/
import Derived.Test.YthaapajmpgnadaaDoorWholeL
namespace Go.Proofs.YthaapajmpgnadaaDoor
open Go.RowKit

theorem rclamp_any (x lo hi : Int) (w : World) : Calls Tryd.prog 17 #[.int .i64 x, .int .i64 lo, .int .i64 hi] w (Ret (.int .i64 (clampV x lo hi)) w) := by
  have e0 : clampV x lo hi = if x < lo then lo else if hi < x then hi else x := rfl
  have e := Lib.hid e0
  clear e0
  by_cases h1 : x < lo
  · go_enter Tryd.func17, Tryd.ntmps17
    go_wp2_with fail
    go_ret
    exact ⟨ret_int (by rw [e.out, if_pos h1]), rfl⟩
  · by_cases h2 : hi < x
    · go_enter Tryd.func17, Tryd.ntmps17
      go_wp2_with fail
      go_ret
      exact ⟨ret_int (by rw [e.out, if_neg (by omega), if_pos h2]), rfl⟩
    · go_enter Tryd.func17, Tryd.ntmps17
      go_wp2_with fail
      go_ret
      exact ⟨ret_int (by rw [e.out, if_neg (by omega), if_neg (by omega)]), rfl⟩
theorem clamp8_any (x lo hi : Int) (w : World) : Calls Tryd.prog 18 #[.int .i8 x, .int .i8 lo, .int .i8 hi] w (Ret (.int .i8 (clampV x lo hi)) w) := by
  have e0 : clampV x lo hi = if x < lo then lo else if hi < x then hi else x := rfl
  have e := Lib.hid e0
  clear e0
  by_cases h1 : x < lo
  · go_enter Tryd.func18, Tryd.ntmps18
    go_wp2_with fail
    go_ret
    exact ⟨ret_int (by rw [e.out, if_pos h1]), rfl⟩
  · by_cases h2 : hi < x
    · go_enter Tryd.func18, Tryd.ntmps18
      go_wp2_with fail
      go_ret
      exact ⟨ret_int (by rw [e.out, if_neg (by omega), if_pos h2]), rfl⟩
    · go_enter Tryd.func18, Tryd.ntmps18
      go_wp2_with fail
      go_ret
      exact ⟨ret_int (by rw [e.out, if_neg (by omega), if_neg (by omega)]), rfl⟩

theorem wrap8_in (z : Int) : -128 ≤ IntKind.i8.wrap z ∧ IntKind.i8.wrap z ≤ 127 := by
  simp only [IntKind.wrap, IntKind.bits, IntKind.signed]
  simp
  omega
theorem clampV_in {x lo hi a b : Int} (hx : a ≤ x ∧ x ≤ b) (hlo : a ≤ lo ∧ lo ≤ b) (hhi : a ≤ hi ∧ hi ≤ b) : a ≤ clampV x lo hi ∧ clampV x lo hi ≤ b := by
  unfold clampV
  split
  · exact hlo
  · split
    · exact hhi
    · exact hx
theorem mostN_in {zs : List Int} {a b : Int} (h0 : a ≤ 0 ∧ 0 ≤ b) (h : ∀ i, a ≤ zs.getD i 0 ∧ zs.getD i 0 ≤ b) : ∀ k, a ≤ mostN zs k ∧ mostN zs k ≤ b
  | 0 => h0
  | k + 1 => by
    unfold mostN
    split
    · exact h k
    · exact mostN_in h0 h k
theorem small8_in (zs : List Int) (i : Nat) : -128 ≤ (small8 zs).getD i 0 ∧ (small8 zs).getD i 0 ≤ 127 := by
  by_cases h : i < zs.length
  · rw [small8, getD_map _ _ _ h]; exact wrap8_in _
  · have : (small8 zs).getD i 0 = 0 := by simp [small8, List.getD, Nat.not_lt.1 h]
    rw [this]; decide

set_option maxRecDepth 100000 in
set_option maxHeartbeats 1000000 in
theorem most_big (x lo hi : Int) (A : Option Addr) (n c : Nat) (w : World) (hn : 200 < n) (hn' : n ≤ 9223372036854775807) (hp : Pow10 w) :
    Calls Tryd.prog 3 #[.int .i64 x, .int .i64 lo, .int .i64 hi, .slice A n c] w (RetB (.bool true) w) := by
  have H := Lib.hid hp
  clear hp
  go_enter Tryd.func3, Tryd.ntmps3
  go_wp2_with fail
  refine (awake_any _ H.out).mono ?_; rintro e w1 ⟨rfl, h1⟩
  go_wp2_with fail
  go_ret
  exact ⟨rfl, h1⟩
set_option maxRecDepth 100000 in
set_option maxHeartbeats 2000000 in
theorem most_small (x lo hi : Int) (zs : List Int) (A : Option Addr) (n c : Nat) (w : World) (hn : n ≤ 200) (hl : zs.length = n) (hs : Sl w 1 A n (i64s zs)) (hp : Pow10 w) :
    Calls Tryd.prog 3 #[.int .i64 x, .int .i64 lo, .int .i64 hi, .slice A n c] w (RetB (.bool true) w) := by
  obtain ⟨i0, hi0, hz0, hz1, hz2⟩ := info_parts info64
  have H := Lib.hid hp
  have HL := Lib.hid hl
  clear hp hl
  go_enter Tryd.func3, Tryd.ntmps3
  go_wp2_with fail
  refine (awake_any _ H.out).mono ?_; rintro e w1 ⟨rfl, h1⟩
  have hs1 := hs.keep h1
  go_wp2_with fail
  refine (most64_any zs A n c _ (by omega) hs1).mono ?_; rintro e w' ⟨rfl, rfl⟩
  go_wp2_with fail
  refine (rmost_any zs A n c _ (by omega) hs1).mono ?_; rintro e w' ⟨rfl, rfl⟩
  go_wp2_with fail
  refine (small_any zs A n c _ (by omega) HL.out hs1).mono ?_; rintro e w2 ⟨v, rfl, hown, h2⟩
  obtain ⟨A2, c2, rfl⟩ := own_slice hown
  have hk : Sl w2 1 A2 n (i8s (small8 zs)) := (Sl.of_own (d := .int .i8 0) hown).congr fun j hj => by
    simp only [i8s]
    have hj' : j < (small8 zs).length := by rw [small8, List.length_map, HL.out]; omega
    simp [List.getD, hj']
  clear hs hs1
  go_wp2_with fail
  go_loopw [14, 15] (fun v i wr => ∃ k : Nat, k ≤ n ∧ i = .int .i64 k ∧ wr.ownsRow w2.heap.size 2 1 v k (((small8 zs).take k).map (Value.int .i64)) ∧ Below w2.heap.size w2 wr) (fun _ i _ => n - (intOf i).toNat)
  case atStart => exact ⟨0, by omega, rfl, World.ownsRow_nil _ _ _ _, Below.refl _ _⟩
  case round =>
    obtain ⟨k, hkn, rfl, hown3, hb⟩ := hrel
    by_cases hlt : k < n
    · obtain ⟨b, off, rfl, hbl, hc⟩ := (hk.keep hb) (by omega)
      have hcell := hc k (by omega)
      simp only [i8s] at hcell
      have hin := small8_in zs k
      generalize hz : (small8 zs).getD k 0 = z at hcell hin
      have Hz := Lib.hid hz
      clear hz hc hk
      have hsz := hb.size
      go_wp2_with (at_builtin; refine wpList_append_lies _ (by rfl) _ _ _ (by rfl) w2.heap.size 2 i0 (.int .i64 0) 1 8 Tryd.underlying22 hi0 hz0 hz1 hz2 rfl (by omega) _ k _ (by rfl) (hown3.alloc _) ⟨wr.heap.size, 0, none⟩ 1 1 [.int .i64 z] (by rfl) (by rfl) (World.news_of_block (cs := #[.int .i64 z]) (t := 2) (fr := (0, 0)) (heap_alloc_new wr _)) (by simp [Value.oneCell']) (by omega) (by simp only [maxLen]; omega) (by omega) (by simp; omega) (wr.heap.size + 1) (by simp) ?_; intro g cap w3 hown1 hgrow hat hlt1)
      go_roundw
      case rel =>
        refine ⟨k + 1, by omega, by go_num, ?_, ?_⟩
        · have e : ((small8 zs).take (k + 1)).map (Value.int .i64) = ((small8 zs).take k).map (Value.int .i64) ++ [.int .i64 z] := by
            have hlen : k < (small8 zs).length := by rw [small8, List.length_map, HL.out]; exact hlt
            rw [← take_snoc _ _ 0 hlen, List.map_append, Hz.out]; rfl
          rw [e]; exact hown1
        · exact (hb.alloc hsz _).grown hgrow (by simp; omega) (fun q hq => own_base hown3 hq)
      case measure => simp [intOf]; omega
    · obtain rfl : k = n := by omega
      have hlen : (small8 zs).length = k := by rw [small8, List.length_map, HL.out]
      obtain ⟨A3, c3, rfl⟩ := own_slice hown3
      have hk3 : Sl wr 1 A3 k (i64s (small8 zs)) := (Sl.of_own (d := .int .i64 0) hown3).congr fun j hj => by
        simp only [i64s]
        have hj' : j < (small8 zs).length := by omega
        rw [List.take_of_length_le (by omega)]
        simp [List.getD, hj']
      have hk4 := hk.keep hb
      have hm := mostN_in (zs := small8 zs) (by omega) (small8_in zs) k
      have w1x := wrap8_in x
      have w1l := wrap8_in lo
      have w1h := wrap8_in hi
      have hcl := clampV_in w1x w1l w1h
      clear hlen hk
      go_wp2_with fail
      refine (most8_any (small8 zs) A2 k c2 _ (by omega) hk4).mono ?_; rintro e w' ⟨rfl, rfl⟩
      go_wp2_with fail
      refine (rmost_any (small8 zs) A3 k c3 _ (by omega) hk3).mono ?_; rintro e w' ⟨rfl, rfl⟩
      go_wp2_with fail
      refine (clamp_any x lo hi _).mono ?_; rintro e w' ⟨rfl, rfl⟩
      go_wp2_with fail
      refine (rclamp_any x lo hi _).mono ?_; rintro e w' ⟨rfl, rfl⟩
      go_wp2_with fail
      refine (clamp8_any _ _ _ _).mono ?_; rintro e w' ⟨rfl, rfl⟩
      go_wp2_with fail
      refine (rclamp_any _ _ _ _).mono ?_; rintro e w' ⟨rfl, rfl⟩
      go_wp2_with fail
      go_ret
      exact ⟨rfl, bthen (bthen h1 h2) hb⟩
theorem most_law (x lo hi : Int) (zs : List Int) (A : Option Addr) (n c : Nat) (w : World) (hn : n ≤ 9223372036854775807) (hl : zs.length = n) (hs : Sl w 1 A n (i64s zs)) (hp : Pow10 w) :
    Calls Tryd.prog 3 #[.int .i64 x, .int .i64 lo, .int .i64 hi, .slice A n c] w (RetB (.bool true) w) := by
  by_cases h : 200 < n
  · exact most_big x lo hi A n c w h hn hp
  · exact most_small x lo hi zs A n c w (by omega) hl hs hp
theorem most_law2 (x lo hi : Int) (zs : List Int) (A : Option Addr) (n c : Nat) (w : World) (_ : -9223372036854775808 ≤ x) (_ : x ≤ 9223372036854775807) (_ : -9223372036854775808 ≤ lo) (_ : lo ≤ 9223372036854775807) (_ : -9223372036854775808 ≤ hi) (_ : hi ≤ 9223372036854775807)
    (hn : n ≤ 9223372036854775807) (hl : zs.length = n) (hs : Sl w 1 A n (i64s zs)) (hp : Pow10 w) :
    Calls Tryd.prog 3 #[.int .i64 x, .int .i64 lo, .int .i64 hi, .slice A n c] w (RetB (.bool true) w) := most_law x lo hi zs A n c w hn hl hs hp
end Go.Proofs.YthaapajmpgnadaaDoor

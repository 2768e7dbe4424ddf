/- Names, the program's way, walked. -/
import Derived.Test.YtefijgdbnjmifaaBase
import Derived.Test.YtefijgdbnjmifaaNameP
namespace Go.Proofs.Ytefijgdbnjmifaa
open Go.RowKit

def nameS (s : ByteArray) : Bool := nameB s.data.toList
theorem pname_none (s : ByteArray) (w : World) (h : s.size = 0) : Calls Try.prog 45 #[.string s] w (Ret (.bool (nameS s)) w) := by
  have e := emptyYes h
  have E := Lib.hid (show false = nameS s from (name_none h).symm)
  have h' : s.size ≤ 0 := by omega
  clear h
  go_enter Try.func45, Try.ntmps45
  go_wp2_with fail
  go_ret
  exact ⟨ret_bool E.out, rfl⟩
theorem pname_big (s : ByteArray) (w : World) (hs : s.size ≤ 9223372036854775807) (h : 24 < s.size) : Calls Try.prog 45 #[.string s] w (Ret (.bool (nameS s)) w) := by
  have e := emptyNo (s := s) (by omega)
  have E := Lib.hid (show false = nameS s from (name_big h).symm)
  have h0 : 0 < s.size := by omega
  go_enter Try.func45, Try.ntmps45
  go_wp2_with fail
  go_ret
  exact ⟨ret_bool E.out, rfl⟩
theorem pname_low (s : ByteArray) (w : World) (h0 : 0 < s.size) (h : s.size ≤ 24) (hl : (s[0].toNat : Int) < 97) : Calls Try.prog 45 #[.string s] w (Ret (.bool (nameS s)) w) := by
  have e := emptyNo h0
  have E := Lib.hid (show false = nameS s from (name_head h0 (lowC_no (.inl hl))).symm)
  have hb : decide ((s[0].toNat : Int) < 97) = true := decide_eq_true hl
  have hb2 : decide ((24 : Int) < (s.size : Int)) = false := decide_eq_false (by omega)
  go_enter Try.func45, Try.ntmps45
  go_wp2_with fail
  go_ret
  exact ⟨ret_bool E.out, rfl⟩
theorem pname_high (s : ByteArray) (w : World) (h0 : 0 < s.size) (h : s.size ≤ 24) (hl : (122 : Int) < (s[0].toNat : Int)) : Calls Try.prog 45 #[.string s] w (Ret (.bool (nameS s)) w) := by
  have e := emptyNo h0
  have hl' : (97 : Int) ≤ (s[0].toNat : Int) := by omega
  have E := Lib.hid (show false = nameS s from (name_head h0 (lowC_no (.inr hl))).symm)
  have hb : decide ((s[0].toNat : Int) < 97) = false := decide_eq_false (by omega)
  have hb1 : decide ((122 : Int) < (s[0].toNat : Int)) = true := decide_eq_true hl
  have hb2 : decide ((24 : Int) < (s.size : Int)) = false := decide_eq_false (by omega)
  go_enter Try.func45, Try.ntmps45
  go_wp2_with fail
  go_ret
  exact ⟨ret_bool E.out, rfl⟩
set_option maxHeartbeats 1000000 in
theorem pname_loop (s : ByteArray) (w : World) (h0 : 0 < s.size) (h : s.size ≤ 24) (hl : (97 : Int) ≤ (s[0].toNat : Int)) (hh : (s[0].toNat : Int) ≤ 122) : Calls Try.prog 45 #[.string s] w (Ret (.bool (nameS s)) w) := by
  have e := emptyNo h0
  have hb : decide ((s[0].toNat : Int) < 97) = false := decide_eq_false (by omega)
  have hb1 : decide ((122 : Int) < (s[0].toNat : Int)) = false := decide_eq_false (by omega)
  have hb2 : decide ((24 : Int) < (s.size : Int)) = false := decide_eq_false (by omega)
  have FY := Lib.hid (fun ha => show true = nameS s from (name_good h0 h (lowC_yes hl hh) ha).symm)
  go_enter Try.func45, Try.ntmps45
  go_wp2_with fail
  go_loop [24, 3, 4] (fun i _ _ => ∃ k : Nat, k ≤ s.size ∧ i = .int .i64 k ∧ (s.data.toList.take k).all okC = true) (fun i _ _ => s.size - (intOf i).toNat)
  case atStart => exact ⟨0, by omega, rfl, rfl⟩
  case round =>
    obtain ⟨k, hk, rfl, hd⟩ := hrel
    have HD := Lib.hid hd
    clear hd hl hh
    by_cases hlt : k < s.size
    · have NO := Lib.hid (fun hb => show false = nameS s from (name_bad hlt hb).symm)
      have ST := Lib.hid (fun hb => all_step hlt HD.out hb)
      go_wp2
      all_goals first
        | (go_ret; exact ⟨ret_bool (NO.out (okC_no (by omega) (by omega) (by first | assumption | (intro h; simp_all)))), rfl⟩)
        | (go_round
           case rel => exact ⟨k + 1, by omega, by go_num, ST.out (okC_yes (by omega))⟩
           case measure => simp [intOf]; omega)
        | skip
      go_ways
      all_goals
        go_round
        case rel => exact ⟨k + 1, by omega, by go_num, ST.out (okC_yes (.inr (.inr (by first | assumption | (simp_all)))))⟩
        case measure => simp [intOf]; omega
    · have E := Lib.hid (FY.out (all_end (by omega) HD.out))
      go_wp2
      go_ret
      exact ⟨ret_bool E.out, rfl⟩

theorem pname_any (s : ByteArray) (hs : s.size ≤ 9223372036854775807) (w : World) : Calls Try.prog 45 #[.string s] w (Ret (.bool (nameS s)) w) := by
  by_cases h0 : s.size = 0
  · exact pname_none s w h0
  · by_cases h24 : 24 < s.size
    · exact pname_big s w hs h24
    · by_cases hl : (s[0].toNat : Int) < 97
      · exact pname_low s w (by omega) (by omega) hl
      · by_cases hh : (122 : Int) < (s[0].toNat : Int)
        · exact pname_high s w (by omega) (by omega) hh
        · exact pname_loop s w (by omega) (by omega) (by omega) (by omega)
theorem rname_none (s : ByteArray) (w : World) (h : s.size = 0) : Calls Try.prog 35 #[.string s] w (Ret (.bool (nameS s)) w) := by
  have E := Lib.hid (show false = nameS s from (name_none h).symm)
  have hb : decide ((s.size : Int) < 1) = true := decide_eq_true (by omega)
  clear h
  go_enter Try.func35, Try.ntmps35
  go_wp2_with fail
  go_ret
  exact ⟨ret_bool E.out, rfl⟩
theorem rname_big (s : ByteArray) (w : World) (hs : s.size ≤ 9223372036854775807) (h : 24 < s.size) : Calls Try.prog 35 #[.string s] w (Ret (.bool (nameS s)) w) := by
  have E := Lib.hid (show false = nameS s from (name_big h).symm)
  have hb : decide ((s.size : Int) < 1) = false := decide_eq_false (by omega)
  go_enter Try.func35, Try.ntmps35
  go_wp2_with fail
  go_ret
  exact ⟨ret_bool E.out, rfl⟩
theorem rname_head {s : ByteArray} (h0 : 0 < s.size) (k : Nat) (hk : k = 0) (hlt : k < s.size) (hl : lowC s[k] = false) : nameB s.data.toList = false := by
  subst hk; exact name_head h0 hl
theorem rname_next {s : ByteArray} {k : Nat} (hlt : k < s.size) (H : ∀ h : 0 < s.size, 0 < k → lowC s[0] = true) (hk : lowC s[k] = true ∨ 0 < k) : ∀ h : 0 < s.size, 0 < k + 1 → lowC s[0] = true := fun h _ => by
  by_cases h0 : k = 0
  · subst h0
    rcases hk with hk | hk
    · exact hk
    · omega
  · exact H h (by omega)
set_option maxHeartbeats 2000000 in
theorem rname_loop (s : ByteArray) (w : World) (h0 : 0 < s.size) (h : s.size ≤ 24) : Calls Try.prog 35 #[.string s] w (Ret (.bool (nameS s)) w) := by
  have hb1 : decide ((s.size : Int) < 1) = false := decide_eq_false (by omega)
  have hb2 : decide ((24 : Int) < (s.size : Int)) = false := decide_eq_false (by omega)
  have FY := Lib.hid (fun hl ha => show true = nameS s from (name_good h0 h hl ha).symm)
  go_enter Try.func35, Try.ntmps35
  go_wp2_with fail
  go_loop [3, 4, 5] (fun i _ _ => ∃ k : Nat, k ≤ s.size ∧ i = .int .i64 k ∧ (s.data.toList.take k).all okC = true ∧ ∀ h : 0 < s.size, 0 < k → lowC s[0] = true) (fun i _ _ => s.size - (intOf i).toNat)
  case atStart => exact ⟨0, by omega, rfl, rfl, fun _ h => absurd h (by omega)⟩
  case round =>
    obtain ⟨k, hk, rfl, hd, hz⟩ := hrel
    have HD := Lib.hid hd
    have HZ := Lib.hid hz
    clear hd hz
    by_cases hlt : k < s.size
    · have NO := Lib.hid (fun hb => show false = nameS s from (name_bad hlt hb).symm)
      have N0 := Lib.hid (fun hk hl => show false = nameS s from (rname_head h0 k hk hlt hl).symm)
      have ST := Lib.hid (fun hb => all_step hlt HD.out hb)
      have SZ := Lib.hid (rname_next hlt HZ.out)
      go_wp2
      go_ways
      all_goals first
        | (go_ret; exact ⟨ret_bool (N0.out (by omega) (lowC_no (by omega))), rfl⟩)
        | (go_ret; exact ⟨ret_bool (NO.out (okC_no (by omega) (by omega) (by (simp_all; done)))), rfl⟩)
        | (go_round
           case rel => exact ⟨k + 1, by omega, by go_num, ST.out (okC_yes (by first | omega | (right; right; simp_all; done) | (by_cases h5 : (s[k].toNat : Int) = 95 <;> simp_all <;> omega))), SZ.out (by first | exact .inr (by omega) | exact .inl (lowC_yes (by omega) (by omega)))⟩
           case measure => simp [intOf]; omega)
        | skip
      go_ways
    · have E := Lib.hid (FY.out (HZ.out h0 (by omega)) (all_end (by omega) HD.out))
      go_wp2
      go_ret
      exact ⟨ret_bool E.out, rfl⟩
theorem rname_any (s : ByteArray) (hs : s.size ≤ 9223372036854775807) (w : World) : Calls Try.prog 35 #[.string s] w (Ret (.bool (nameS s)) w) := by
  by_cases h0 : s.size = 0
  · exact rname_none s w h0
  · by_cases h24 : 24 < s.size
    · exact rname_big s w hs h24
    · exact rname_loop s w (by omega) (by omega)
end Go.Proofs.Ytefijgdbnjmifaa

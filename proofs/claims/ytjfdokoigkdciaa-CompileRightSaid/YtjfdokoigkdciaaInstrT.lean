/- The table of instructions, the program's and the reference's, walked. Printed by a program, an instruction at a time. Names, the program's way, walked. -/
import Derived.Test.YtjfdokoigkdciaaBase
import Derived.Test.YtjfdokoigkdciaaInstrP
namespace Go.Proofs.Ytjfdokoigkdciaa
open Go.RowKit

def wordsL : List (List UInt8) := [[], [106, 117, 109, 112], [98, 114, 97, 110, 99, 104], [111, 114], [97, 110, 100], [98, 111, 111, 108], [100, 114, 111, 112], [], [114, 101, 116, 117, 114, 110], [102, 97, 105, 108], [115, 108, 101, 101, 112], [], [], [], [], [], [], [], [], [], [110, 111, 110, 101], [116, 114, 117, 101], [102, 97, 108, 115, 101], [105, 110, 116], [116, 101, 120, 116], [108, 105, 115, 116], [108, 111, 97, 100], [115, 116, 111, 114, 101], [101, 110, 100], [], [], [], [101, 113], [110, 101], [108, 116], [108, 101], [97, 100, 100], [115, 117, 98], [109, 117, 108], [100, 105, 118], [109, 111, 100], [110, 117, 109], [97, 116], [110, 111, 116], [110, 101, 103], [108, 101, 110], [114, 101], [105, 109], [99, 111, 110, 106], [], [99, 97, 108, 108], [99, 104, 105, 108, 100], [116, 105, 109, 101, 114], [102, 111, 114, 107], [97, 119, 97, 105, 116], [115, 101, 116, 116, 108, 101], [116, 97, 107, 101], [118, 101, 114, 115, 105, 111, 110]]
/-- The words. -/
def wordK (op : Nat) : ByteArray := ⟨(wordsL.getD op []).toArray⟩
def aB (op : Nat) : Int := if aK op = 1 then 116 else if aK op = 2 then 115 else if aK op = 3 then 99 else 0
def tB (op : Nat) : Int := if textK op = 1 then 120 else if textK op = 2 then 110 else 0
def manyK (op : Nat) : Bool := aK op = 3
/-- An instruction's kind, as the program keeps it. -/
def kindV (op : Nat) : Value := .agg #[.string (wordK op), .int .u8 (aB op), .bool (numK op), .int .u8 (tB op), .int .i64 (takesK op), .int .i64 (leaveK op), .bool (manyK op), .bool (endsK op)]
/-- An instruction's row, as the reference keeps it. -/
def rowV (op : Nat) : Value := .agg #[.string (wordK op), .int .i64 (aK op), .bool (numK op), .bool (decide (textK op = 1)), .bool (decide (textK op = 2)), .int .i64 (takesK op), .int .i64 (leaveK op)]

end Go.Proofs.Ytjfdokoigkdciaa
namespace Go.Proofs.Ytjfdokoigkdciaa
open Go.RowKit

def nameS (s : ByteArray) : Bool := nameB s.data.toList
theorem pname_none (s : ByteArray) (w : World) (h : s.size = 0) : Calls Try.prog 35 #[.string s] w (Ret (.bool (nameS s)) w) := by
  have e := emptyYes h
  have E := Lib.hid (show false = nameS s from (name_none h).symm)
  have h' : s.size ≤ 0 := by omega
  clear h
  go_enter Try.func35, Try.ntmps35
  go_wp2_with fail
  go_ret
  exact ⟨ret_bool E.out, rfl⟩
theorem pname_big (s : ByteArray) (w : World) (hs : s.size ≤ 9223372036854775807) (h : 24 < s.size) : Calls Try.prog 35 #[.string s] w (Ret (.bool (nameS s)) w) := by
  have e := emptyNo (s := s) (by omega)
  have E := Lib.hid (show false = nameS s from (name_big h).symm)
  have h0 : 0 < s.size := by omega
  go_enter Try.func35, Try.ntmps35
  go_wp2_with fail
  go_ret
  exact ⟨ret_bool E.out, rfl⟩
theorem pname_low (s : ByteArray) (w : World) (h0 : 0 < s.size) (h : s.size ≤ 24) (hl : (s[0].toNat : Int) < 97) : Calls Try.prog 35 #[.string s] w (Ret (.bool (nameS s)) w) := by
  have e := emptyNo h0
  have E := Lib.hid (show false = nameS s from (name_head h0 (lowC_no (.inl hl))).symm)
  have hb : decide ((s[0].toNat : Int) < 97) = true := decide_eq_true hl
  have hb2 : decide ((24 : Int) < (s.size : Int)) = false := decide_eq_false (by omega)
  go_enter Try.func35, Try.ntmps35
  go_wp2_with fail
  go_ret
  exact ⟨ret_bool E.out, rfl⟩
theorem pname_high (s : ByteArray) (w : World) (h0 : 0 < s.size) (h : s.size ≤ 24) (hl : (122 : Int) < (s[0].toNat : Int)) : Calls Try.prog 35 #[.string s] w (Ret (.bool (nameS s)) w) := by
  have e := emptyNo h0
  have hl' : (97 : Int) ≤ (s[0].toNat : Int) := by omega
  have E := Lib.hid (show false = nameS s from (name_head h0 (lowC_no (.inr hl))).symm)
  have hb : decide ((s[0].toNat : Int) < 97) = false := decide_eq_false (by omega)
  have hb1 : decide ((122 : Int) < (s[0].toNat : Int)) = true := decide_eq_true hl
  have hb2 : decide ((24 : Int) < (s.size : Int)) = false := decide_eq_false (by omega)
  go_enter Try.func35, Try.ntmps35
  go_wp2_with fail
  go_ret
  exact ⟨ret_bool E.out, rfl⟩
set_option maxHeartbeats 1000000 in
theorem pname_loop (s : ByteArray) (w : World) (h0 : 0 < s.size) (h : s.size ≤ 24) (hl : (97 : Int) ≤ (s[0].toNat : Int)) (hh : (s[0].toNat : Int) ≤ 122) : Calls Try.prog 35 #[.string s] w (Ret (.bool (nameS s)) w) := by
  have e := emptyNo h0
  have hb : decide ((s[0].toNat : Int) < 97) = false := decide_eq_false (by omega)
  have hb1 : decide ((122 : Int) < (s[0].toNat : Int)) = false := decide_eq_false (by omega)
  have hb2 : decide ((24 : Int) < (s.size : Int)) = false := decide_eq_false (by omega)
  have FY := Lib.hid (fun ha => show true = nameS s from (name_good h0 h (lowC_yes hl hh) ha).symm)
  go_enter Try.func35, Try.ntmps35
  go_wp2_with fail
  go_loop [24, 3, 4] (fun i _ _ => ∃ k : Nat, k ≤ s.size ∧ i = .int .i64 k ∧ (s.data.toList.take k).all okC = true) (fun i _ _ => s.size - (intOf i).toNat)
  case atStart => exact ⟨0, by omega, rfl, rfl⟩
  case round =>
    obtain ⟨k, hk, rfl, hd⟩ := hrel
    have HD := Lib.hid hd
    clear hd hl hh
    by_cases hlt : k < s.size
    · have NO := Lib.hid (fun hb => show false = nameS s from (name_bad hlt hb).symm)
      have ST := Lib.hid (fun hb => all_step hlt HD.out hb)
      go_wp2
      all_goals first
        | (go_ret; exact ⟨ret_bool (NO.out (okC_no (by omega) (by omega) (by first | assumption | (intro h; simp_all)))), rfl⟩)
        | (go_round
           case rel => exact ⟨k + 1, by omega, by go_num, ST.out (okC_yes (by omega))⟩
           case measure => simp [intOf]; omega)
        | skip
      go_ways
      all_goals
        go_round
        case rel => exact ⟨k + 1, by omega, by go_num, ST.out (okC_yes (.inr (.inr (by first | assumption | (simp_all)))))⟩
        case measure => simp [intOf]; omega
    · have E := Lib.hid (FY.out (all_end (by omega) HD.out))
      go_wp2
      go_ret
      exact ⟨ret_bool E.out, rfl⟩

theorem pname_any (s : ByteArray) (hs : s.size ≤ 9223372036854775807) (w : World) : Calls Try.prog 35 #[.string s] w (Ret (.bool (nameS s)) w) := by
  by_cases h0 : s.size = 0
  · exact pname_none s w h0
  · by_cases h24 : 24 < s.size
    · exact pname_big s w hs h24
    · by_cases hl : (s[0].toNat : Int) < 97
      · exact pname_low s w (by omega) (by omega) hl
      · by_cases hh : (122 : Int) < (s[0].toNat : Int)
        · exact pname_high s w (by omega) (by omega) hh
        · exact pname_loop s w (by omega) (by omega) (by omega) (by omega)
theorem rname_head {s : ByteArray} (h0 : 0 < s.size) (k : Nat) (hk : k = 0) (hlt : k < s.size) (hl : lowC s[k] = false) : nameB s.data.toList = false := by
  subst hk; exact name_head h0 hl
theorem rname_next {s : ByteArray} {k : Nat} (hlt : k < s.size) (H : ∀ h : 0 < s.size, 0 < k → lowC s[0] = true) (hk : lowC s[k] = true ∨ 0 < k) : ∀ h : 0 < s.size, 0 < k + 1 → lowC s[0] = true := fun h _ => by
  by_cases h0 : k = 0
  · subst h0
    rcases hk with hk | hk
    · exact hk
    · omega
  · exact H h (by omega)
theorem aB_ne (op : Nat) : (aB op != 0) = decide (aK op ≠ 0) := by
  unfold aB
  have : aK op = 0 ∨ aK op = 1 ∨ aK op = 2 ∨ aK op = 3 := by unfold aK; (repeat' split) <;> simp
  rcases this with e | e | e | e <;> rw [e] <;> rfl
theorem tB_ne (op : Nat) : (tB op != 0) = decide (textK op ≠ 0) := by
  unfold tB
  have : textK op = 0 ∨ textK op = 1 ∨ textK op = 2 := by unfold textK; (repeat' split) <;> simp
  rcases this with e | e | e <;> rw [e] <;> rfl
end Go.Proofs.Ytjfdokoigkdciaa

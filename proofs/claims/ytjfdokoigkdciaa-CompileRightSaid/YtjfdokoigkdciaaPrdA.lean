/- What a twig may be: the questions, walked. Printed by a program. -/
import Derived.Test.YtjfdokoigkdciaaTreP
namespace Go.Proofs.Ytjfdokoigkdciaa
open Go.RowKit

theorem expr_any (op : Nat) (w : World) : Calls Try.prog 53 #[.int .u8 (op : Int)] w (Ret (.bool (exprO op)) w) := by
  obtain ⟨r, hr⟩ : ∃ r, r = exprO op := ⟨_, rfl⟩
  rw [← hr]
  unfold exprO at hr
  have E := Lib.hid hr
  clear hr
  go_enter Try.func53, Try.ntmps53
  go_wp2
  all_goals go_ret
  all_goals (refine ⟨congrArg (fun b => Ending.returned (Value.bool b)) ?_, rfl⟩; rw [E.out, Bool.eq_iff_iff]; first | omega | (simp; done) | (simp; omega) | (simp only [Bool.or_eq_true, Bool.and_eq_true, decide_eq_true_eq, beq_iff_eq, true_iff]; omega))
theorem stmt_any (op : Nat) (w : World) : Calls Try.prog 52 #[.int .u8 (op : Int)] w (Ret (.bool (stmtO op)) w) := by
  obtain ⟨r, hr⟩ : ∃ r, r = stmtO op := ⟨_, rfl⟩
  rw [← hr]
  unfold stmtO at hr
  have E := Lib.hid hr
  clear hr
  go_enter Try.func52, Try.ntmps52
  go_wp2
  all_goals go_ret
  all_goals (refine ⟨congrArg (fun b => Ending.returned (Value.bool b)) ?_, rfl⟩; rw [E.out, Bool.eq_iff_iff]; first | omega | (simp; done) | (simp; omega) | (simp only [Bool.or_eq_true, Bool.and_eq_true, decide_eq_true_eq, beq_iff_eq, true_iff]; omega))
theorem kw_any (s : ByteArray) (w : World) : Calls Try.prog 51 #[.string s] w (Ret (.bool (kwS s)) w) := by
  go_enter Try.func51, Try.ntmps51
  go_wp2
  all_goals first
    | (exfalso; rename_i h1 h2; rw [h1] at h2; cases h2; done)
    | (go_ret; exact ⟨ret_bool (by simp [kwS, kwL, *]), rfl⟩)
theorem own_any (s : ByteArray) (hs : s.size ≤ 9223372036854775807) (w : World) : Calls Try.prog 39 #[.string s] w (Ret (.bool (ownS s)) w) := by
  have H := Lib.hid (fun w => pname_any s hs w)
  unfold ownS
  generalize nameS s = nm at *
  go_enter Try.func39, Try.ntmps39
  go_wp2_with fail
  refine (H.out _).mono ?_
  rintro e w1 ⟨rfl, rfl⟩
  cases nm with
  | false =>
    go_wp2_with fail
    go_ret
    exact ⟨rfl, rfl⟩
  | true =>
    go_wp2_with fail
    refine (kw_any s _).mono ?_
    rintro e w1 ⟨rfl, rfl⟩
    go_wp2_with fail
    go_ret
    exact ⟨rfl, rfl⟩
theorem bytes_empty (s : ByteArray) : s.toList.isEmpty = decide (s.size = 0) := by
  rw [ByteArray.toList_eq]
  obtain ⟨⟨l⟩⟩ := s
  cases l with
  | nil => rfl
  | cons a l => rfl
theorem empty_any (s : ByteArray) (w : World) : Calls Try.prog 42 #[.string s] w (Ret (.bool (decide (s.size = 0))) w) := by
  have E := Lib.hid (bytes_empty s)
  go_enter Try.func42, Try.ntmps42
  go_wp2
  go_ret
  exact ⟨congrArg (fun b => Ending.returned (Value.bool b)) E.out, rfl⟩
theorem short_any (s : ByteArray) (w : World) : Calls Try.prog 45 #[.string s] w (Ret (.bool (decide (s.size ≤ 4095))) w) := by
  obtain ⟨r, hr⟩ : ∃ r, r = decide (s.size ≤ 4095) := ⟨_, rfl⟩
  rw [← hr]
  skip
  have E := Lib.hid hr
  clear hr
  go_enter Try.func45, Try.ntmps45
  go_wp2
  all_goals go_ret
  all_goals (refine ⟨congrArg (fun b => Ending.returned (Value.bool b)) ?_, rfl⟩; rw [E.out, Bool.eq_iff_iff]; first | omega | (simp; done) | (simp; omega) | (simp only [Bool.or_eq_true, Bool.and_eq_true, decide_eq_true_eq, beq_iff_eq, true_iff]; omega))
theorem block_any (i n : Int) (op : Nat) (w : World) : Calls Try.prog 47 #[.int .i64 i, .int .i64 n, .int .u8 (op : Int)] w (Ret (.bool (decide (op = 3))) w) := by
  obtain ⟨r, hr⟩ : ∃ r, r = decide (op = 3) := ⟨_, rfl⟩
  rw [← hr]
  skip
  have E := Lib.hid hr
  clear hr
  go_enter Try.func47, Try.ntmps47
  go_wp2
  all_goals go_ret
  all_goals (refine ⟨congrArg (fun b => Ending.returned (Value.bool b)) ?_, rfl⟩; rw [E.out, Bool.eq_iff_iff]; first | omega | (simp; done) | (simp; omega) | (simp only [Bool.or_eq_true, Bool.and_eq_true, decide_eq_true_eq, beq_iff_eq, true_iff]; omega))
theorem expr3_any (i n : Int) (op : Nat) (w : World) : Calls Try.prog 46 #[.int .i64 i, .int .i64 n, .int .u8 (op : Int)] w (Ret (.bool (exprO op)) w) := by
  go_enter Try.func46, Try.ntmps46
  go_wp2_with fail
  refine (expr_any op _).mono ?_
  rintro e w1 ⟨rfl, rfl⟩
  go_wp2_with fail
  go_ret
  exact ⟨rfl, rfl⟩
theorem stmt3_any (i n : Int) (op : Nat) (w : World) : Calls Try.prog 43 #[.int .i64 i, .int .i64 n, .int .u8 (op : Int)] w (Ret (.bool (stmtO op)) w) := by
  go_enter Try.func43, Try.ntmps43
  go_wp2_with fail
  refine (stmt_any op _).mono ?_
  rintro e w1 ⟨rfl, rfl⟩
  go_wp2_with fail
  go_ret
  exact ⟨rfl, rfl⟩
theorem nothing_any (i n : Int) (op : Nat) (w : World) : Calls Try.prog 41 #[.int .i64 i, .int .i64 n, .int .u8 (op : Int)] w (Ret (.bool false) w) := by
  go_enter Try.func41, Try.ntmps41
  go_wp2
  go_ret
  exact ⟨rfl, rfl⟩
theorem headed_any (i n : Int) (hi : 0 ≤ i) (op : Nat) (w : World) : Calls Try.prog 44 #[.int .i64 i, .int .i64 n, .int .u8 (op : Int)] w (Ret (.bool (partOk 3 i n op)) w) := by
  unfold partOk
  rw [if_neg (by decide), if_neg (by decide), if_neg (by decide), if_pos rfl]
  by_cases h0 : i = 0
  · subst h0
    have HE := Lib.hid (fun w => expr_any op w)
    have e3 : (decide ((0 : Int) = 0) && exprO op || decide ((0 : Int) < 0) && decide (op = 3)) = exprO op := by simp
    rw [e3]
    clear e3 hi
    generalize exprO op = b at *
    go_enter Try.func44, Try.ntmps44
    go_wp2_with fail
    refine (HE.out _).mono ?_
    rintro e w1 ⟨rfl, rfl⟩
    cases b with
    | false =>
      go_wp2_with fail
      go_ret
      exact ⟨rfl, rfl⟩
    | true =>
      go_wp2_with fail
      go_ret
      exact ⟨rfl, rfl⟩
  · have e1 : (i == 0) = false := beq_eq_false_iff_ne.2 h0
    have e2 : decide (0 < i) = true := decide_eq_true (by omega)
    obtain ⟨r, hr⟩ : ∃ r, r = decide (op = 3) := ⟨_, rfl⟩
    have e3 : (decide (i = 0) && exprO op || decide (0 < i) && decide (op = 3)) = r := by rw [hr]; simp [h0, e2]
    rw [e3]
    have E := Lib.hid hr
    clear e3 hi h0 hr
    go_enter Try.func44, Try.ntmps44
    go_wp2_with fail
    all_goals go_ret
    all_goals (refine ⟨congrArg (fun b => Ending.returned (Value.bool b)) ?_, rfl⟩; rw [E.out, Bool.eq_iff_iff]; first | omega | (simp; done) | (simp; omega) | (simp only [Bool.or_eq_true, Bool.and_eq_true, decide_eq_true_eq, beq_iff_eq, true_iff]; omega))
theorem params_any (i n : Int) (_hi : 0 ≤ i) (hn : 0 ≤ n) (hm : n ≤ 4096) (op : Nat) (w : World) : Calls Try.prog 40 #[.int .i64 i, .int .i64 n, .int .u8 (op : Int)] w (Ret (.bool (partOk 0 i n op)) w) := by
  have hw : IntKind.i64.wrap (n - 1) = n - 1 := by rw [IntKind.wrap_i64]; omega
  obtain ⟨r, hr⟩ : ∃ r, r = partOk 0 i n op := ⟨_, rfl⟩
  rw [← hr]
  unfold partOk at hr
  rw [if_pos rfl] at hr
  have E := Lib.hid hr
  clear hr
  go_enter Try.func40, Try.ntmps40
  go_wp2
  all_goals go_ret
  all_goals (refine ⟨congrArg (fun b => Ending.returned (Value.bool b)) ?_, rfl⟩; rw [E.out, Bool.eq_iff_iff]; first | omega | (simp; done) | (simp; omega) | (simp only [Bool.or_eq_true, Bool.and_eq_true, decide_eq_true_eq, beq_iff_eq, true_iff]; omega))
end Go.Proofs.Ytjfdokoigkdciaa

/- Complex numbers whose parts are whole: the program's functions, walked. -/
import Derived.Test.YtakailalhpkfdaaFlt
import Derived.Laws.Externs
import Derived.Laws.ComplexArith
import Derived.Deep.QuietTactic
import Derived.BigQuiet
import Derived.RegionTactic
namespace Go.Proofs.Ytakailalhpkfdaa
open Go.RowKit

theorem bits_zero (w : World) : (callFunc 74 #[.float .f64 0]).run Try.prog w = .ok (.value (.int .u64 0)) w := by
  rw [run_callFunc_extern (e := Extern.MathFloatBits.float64bits) Try.func74 (by kernel_rfl) (by kernel_rfl) (by kernel_rfl) (by kernel_rfl)]
  rfl
theorem signbit_zero (w : World) : Calls Try.prog 84 #[.float .f64 0] w (Ret (.bool false) w) := by
  have hb := bits_zero
  go_enter Try.func84, Try.ntmps84
  go_wp2
  go_ret
  exact ⟨rfl, rfl⟩
theorem finite_any {x : Nat} (h : isNum x) (w : World) : Calls Try.prog 72 #[.float .f64 x] w (Ret (.bool true) w) := by
  have hs : ∀ w, (binOp .sub 73 (.float .f64 x) (.float .f64 x)).run Try.prog w = .ok (.float .f64 0) w := fun w => run_float_arith w .sub _ .f64 x x 0 (sub_self h)
  have ho := order_self isNum_zero
  go_enter Try.func72, Try.ntmps72
  go_wp2
  go_ret
  exact ⟨rfl, rfl⟩
theorem ends_any {x y : Nat} (hx : isNum x) (hy : isNum y) (w : World) : Calls Try.prog 52 #[.complex .f64 x y] w (Ret (.bool true) w) := by
  go_enter Try.func52, Try.ntmps52
  go_wp2_with (first | (go_at_call 72; refine (finite_any (by assumption) _).mono ?_; rintro e w1 ⟨rfl, rfl⟩))
  go_ret
  exact ⟨rfl, rfl⟩
/-- A whole number that a float holds. -/
def Sm (n : Int) : Prop := n.natAbs < 9007199254740992
theorem Sm.num {n : Int} (h : Sm n) : isNum (fl n) := fl_num h
theorem Sm.zero : Sm 0 := by unfold Sm; decide
theorem order_zero {n : Int} (h : Sm n) : FloatKind.f64.format.order (fl n) 0 = some (compare n 0) := by
  have := fl_order h Sm.zero
  rwa [fl_zero] at this
theorem eq_zero_not {n : Int} (h : Sm n) (hn : n ≠ 0) : (FloatKind.f64.format.order (fl n) 0 == some .eq) = false := by
  rw [order_zero h]
  rcases Int.lt_trichotomy n 0 with h1 | h1 | h1
  · rw [Int.compare_eq_lt.2 h1]; rfl
  · exact absurd h1 hn
  · rw [Int.compare_eq_gt.2 h1]; rfl
theorem fine_any {a b : Int} (ha : Sm a) (hb : Sm b) (w : World) : Calls Try.prog 69 #[.complex .f64 (fl a) (fl b)] w (Ret (.bool true) w) := by
  have na := ha.num
  have nb := hb.num
  have o0 : (FloatKind.f64.format.order 0 0 == some .eq) = true := by decide
  by_cases a0 : a = 0
  · subst a0
    rw [fl_zero] at na ⊢
    by_cases b0 : b = 0
    · subst b0
      rw [fl_zero] at nb ⊢
      go_enter Try.func69, Try.ntmps69
      go_wp2_with (first | (go_at_call 52; refine (ends_any (by assumption) (by assumption) _).mono ?_; rintro e w1 ⟨rfl, rfl⟩) | (go_at_call 84; refine (signbit_zero _).mono ?_; rintro e w1 ⟨rfl, rfl⟩))
      go_ret
      exact ⟨rfl, rfl⟩
    · have ob := eq_zero_not hb b0
      generalize fl b = fb at *
      go_enter Try.func69, Try.ntmps69
      go_wp2_with (first | (go_at_call 52; refine (ends_any (by assumption) (by assumption) _).mono ?_; rintro e w1 ⟨rfl, rfl⟩) | (go_at_call 84; refine (signbit_zero _).mono ?_; rintro e w1 ⟨rfl, rfl⟩))
      go_ret
      exact ⟨rfl, rfl⟩
  · have oa := eq_zero_not ha a0
    by_cases b0 : b = 0
    · subst b0
      rw [fl_zero] at nb ⊢
      generalize fl a = fa at *
      go_enter Try.func69, Try.ntmps69
      go_wp2_with (first | (go_at_call 52; refine (ends_any (by assumption) (by assumption) _).mono ?_; rintro e w1 ⟨rfl, rfl⟩) | (go_at_call 84; refine (signbit_zero _).mono ?_; rintro e w1 ⟨rfl, rfl⟩))
      go_ret
      exact ⟨rfl, rfl⟩
    · have ob := eq_zero_not hb b0
      generalize fl a = fa at *
      generalize fl b = fb at *
      go_enter Try.func69, Try.ntmps69
      go_wp2_with (first | (go_at_call 52; refine (ends_any (by assumption) (by assumption) _).mono ?_; rintro e w1 ⟨rfl, rfl⟩))
      go_ret
      exact ⟨rfl, rfl⟩
/-- A whole number's float, or the nought with a minus. -/
def PlainOf (x : Nat) (n : Int) : Prop := x = fl n ∨ (x = negZ ∧ n = 0)
theorem plain_any {x : Nat} {n : Int} (h : PlainOf x n) (hn : Sm n) (w : World) : Calls Try.prog 78 #[.float .f64 x] w (Ret (.float .f64 (fl n)) w) := by
  by_cases n0 : n = 0
  · subst n0
    have hx : (FloatKind.f64.format.order x 0 == some .eq) = true := by
      rcases h with rfl | ⟨rfl, _⟩
      · rw [fl_zero]; decide
      · decide
    clear h
    rw [fl_zero]
    go_enter Try.func78, Try.ntmps78
    go_wp2
    go_ret
    exact ⟨rfl, rfl⟩
  · obtain rfl : x = fl n := by
      rcases h with h | ⟨_, h⟩
      · exact h
      · exact absurd h n0
    have hx := eq_zero_not hn n0
    generalize fl n = fn at *
    go_enter Try.func78, Try.ntmps78
    go_wp2
    go_ret
    exact ⟨rfl, rfl⟩
theorem plain2_any {x y : Nat} {a b : Int} (hx : PlainOf x a) (hy : PlainOf y b) (ha : Sm a) (hb : Sm b) (w : World) : Calls Try.prog 59 #[.complex .f64 x y] w (Ret (.complex .f64 (fl a) (fl b)) w) := by
  have HA := Lib.hid (fun w => plain_any hx ha w)
  have HB := Lib.hid (fun w => plain_any hy hb w)
  generalize fl a = fa at *
  generalize fl b = fb at *
  go_enter Try.func59, Try.ntmps59
  go_wp2_with fail
  refine (HA.out _).mono ?_
  rintro e w1 ⟨rfl, rfl⟩
  go_wp2_with fail
  refine (HB.out _).mono ?_
  rintro e w1 ⟨rfl, rfl⟩
  go_wp2_with fail
  go_ret
  exact ⟨rfl, rfl⟩
theorem of_any (a b : Int) (w : World) : Calls Try.prog 22 #[.int .i64 a, .int .i64 b] w (Ret (.complex .f64 (fl a) (fl b)) w) := by
  go_enter Try.func22, Try.ntmps22
  go_wp2
  go_ret
  exact ⟨rfl, rfl⟩
theorem told_any {a b c d re im : Int} (ha : Sm a) (hb : Sm b) (hc : Sm c) (hd : Sm d) (hr : Sm re) (hi : Sm im) (w : World) :
    Calls Try.prog 51 #[.complex .f64 (fl a) (fl b), .complex .f64 (fl c) (fl d), .float .f64 (fl re), .float .f64 (fl im)] w (Ret (.tuple #[.complex .f64 (fl re) (fl im), .int .i64 0]) w) := by
  have H1 := Lib.hid (fun w => ends_any ha.num hb.num w)
  have H2 := Lib.hid (fun w => ends_any hc.num hd.num w)
  have H3 := Lib.hid (fun w => ends_any hr.num hi.num w)
  have H4 := Lib.hid (fun w => plain2_any (.inl rfl) (.inl rfl) hr hi w)
  generalize fl a = fa at *
  generalize fl b = fb at *
  generalize fl c = fc at *
  generalize fl d = fd at *
  generalize fl re = fr at *
  generalize fl im = fi at *
  go_enter Try.func51, Try.ntmps51
  go_wp2_with fail
  refine (H1.out _).mono ?_
  rintro e w1 ⟨rfl, rfl⟩
  go_wp2_with fail
  refine (H2.out _).mono ?_
  rintro e w1 ⟨rfl, rfl⟩
  go_wp2_with fail
  refine (H3.out _).mono ?_
  rintro e w1 ⟨rfl, rfl⟩
  go_wp2_with fail
  refine (H4.out _).mono ?_
  rintro e w1 ⟨rfl, rfl⟩
  go_wp2_with fail
  go_ret2
  exact ⟨rfl, rfl⟩
theorem add_any {a b c d : Int} (ha : Sm a) (hb : Sm b) (hc : Sm c) (hd : Sm d) (hr : Sm (a + c)) (hi : Sm (b + d)) (w : World) :
    Calls Try.prog 33 #[.complex .f64 (fl a) (fl b), .complex .f64 (fl c) (fl d)] w (Ret (.tuple #[.complex .f64 (fl (a + c)) (fl (b + d)), .int .i64 0]) w) := by
  have H := Lib.hid (fun w => told_any ha hb hc hd hr hi w)
  have h1 : ∀ w, (binOp .add 73 (.float .f64 (fl a)) (.float .f64 (fl c))).run Try.prog w = .ok (.float .f64 (fl (a + c))) w := fun w => run_float_arith w .add _ .f64 _ _ _ (fl_add ha hc hr)
  have h2 : ∀ w, (binOp .add 73 (.float .f64 (fl b)) (.float .f64 (fl d))).run Try.prog w = .ok (.float .f64 (fl (b + d))) w := fun w => run_float_arith w .add _ .f64 _ _ _ (fl_add hb hd hi)
  generalize fl (a + c) = fr at *
  generalize fl (b + d) = fi at *
  generalize fl a = fa at *
  generalize fl b = fb at *
  generalize fl c = fc at *
  generalize fl d = fd at *
  go_enter Try.func33, Try.ntmps33
  go_wp2_with fail
  refine (H.out _).mono ?_
  rintro e w1 ⟨rfl, rfl⟩
  go_wp2_with fail
  go_ret2
  exact ⟨rfl, rfl⟩
theorem neg_plain {b : Int} (hb : Sm b) : PlainOf (fl b ^^^ 9223372036854775808) (-b) := by
  by_cases h : b = 0
  · subst h; right; rw [fl_zero]; exact ⟨by decide, by decide⟩
  · left; exact fl_neg h hb
theorem conj_any {a b : Int} (ha : Sm a) (hb : Sm b) (hn : Sm (-b)) (w : World) : Calls Try.prog 42 #[.complex .f64 (fl a) (fl b)] w (Ret (.complex .f64 (fl a) (fl (-b))) w) := by
  have H := Lib.hid (fun w => plain2_any (.inl rfl) (neg_plain hb) ha hn w)
  have h1 : ∀ w, (Op.unary .neg (.float .f64 (fl b))).run Try.prog w = .ok (.float .f64 (fl b ^^^ 9223372036854775808)) w := fun w => rfl
  generalize fl b ^^^ 9223372036854775808 = fx at *
  generalize fl a = fa at *
  generalize fl b = fb at *
  generalize fl (-b) = fn at *
  go_enter Try.func42, Try.ntmps42
  go_wp2_with fail
  refine (H.out _).mono ?_
  rintro e w1 ⟨rfl, rfl⟩
  go_wp2_with fail
  go_ret
  exact ⟨rfl, rfl⟩
/-- The end of the whole numbers, as a float. -/
theorem big_lt {n : Int} (h : Sm n) : FloatKind.f64.format.order (fl n) 4890909195324358656 = some .lt := by
  obtain ⟨m, i, s⟩ := fl_stands h
  have hb : Ieee.double.read 4890909195324358656 = .number false 4503599627370496 11 := by decide +kernel
  show (Ieee.double.read (fl n)).order (Ieee.double.read 4890909195324358656) = _
  rw [s.read, hb]
  have hl := s.low
  have hmin : min i 11 = i := by omega
  show some (compare (Ieee.signed _ m (i - min i 11).toNat) (Ieee.signed false 4503599627370496 (11 - min i 11).toNat)) = _
  rw [s.all _ (by omega), hmin]
  have hp := pow_pos' (-i).toNat
  have e : Ieee.signed false 4503599627370496 (11 - i).toNat = 9223372036854775808 * 2 ^ (-i).toNat := by
    unfold Ieee.signed
    rw [if_neg (by simp), Nat.shiftLeft_eq, show (11 - i).toNat = 11 + (-i).toNat by omega, Nat.pow_add, ← Nat.mul_assoc, Int.natCast_mul, Int.natCast_pow]
    rfl
  rw [e, Int.compare_eq_lt.2 (Int.mul_lt_mul_of_pos_right (by unfold Sm at h; omega) hp)]
theorem low_gt {n : Int} (h : Sm n) : FloatKind.f64.format.order (fl n) 14114281232179134464 = some .gt := by
  obtain ⟨m, i, s⟩ := fl_stands h
  have hb : Ieee.double.read 14114281232179134464 = .number true 4503599627370496 11 := by decide +kernel
  show (Ieee.double.read (fl n)).order (Ieee.double.read 14114281232179134464) = _
  rw [s.read, hb]
  have hl := s.low
  have hmin : min i 11 = i := by omega
  show some (compare (Ieee.signed _ m (i - min i 11).toNat) (Ieee.signed true 4503599627370496 (11 - min i 11).toNat)) = _
  rw [s.all _ (by omega), hmin]
  have hp := pow_pos' (-i).toNat
  have e : Ieee.signed true 4503599627370496 (11 - i).toNat = -9223372036854775808 * 2 ^ (-i).toNat := by
    unfold Ieee.signed
    rw [if_pos rfl, Nat.shiftLeft_eq, show (11 - i).toNat = 11 + (-i).toNat by omega, Nat.pow_add, ← Nat.mul_assoc, Int.natCast_mul, Int.natCast_pow, Int.neg_mul]
    rfl
  rw [e, Int.compare_eq_gt.2 (Int.mul_lt_mul_of_pos_right (by unfold Sm at h; omega) hp)]
theorem part_any {n : Int} (h : Sm n) (w : World) : Calls Try.prog 60 #[.float .f64 (fl n)] w (Ret (.int .i64 n) w) := by
  have h1 := order_self h.num
  have h2 := big_lt h
  have h3 := low_gt h
  have h4 : ∀ w, (convert 73 2 (.float .f64 (fl n))).run Try.prog w = .ok (.int .i64 n) w := fun w => by
    refine run_convert_float_int w _ _ .f64 .i64 _ n (by kernel_rfl) Try.underlying2 ?_
    unfold floatToIntVal
    rw [fl_toInt h]
    unfold Sm at h
    exact if_pos ⟨by show (-9223372036854775808 : Int) ≤ n; omega, by show n ≤ (9223372036854775807 : Int); omega⟩
  generalize fl n = fn at *
  go_enter Try.func60, Try.ntmps60
  go_wp2
  go_ret
  exact ⟨rfl, rfl⟩
theorem parts_any {a b : Int} (ha : Sm a) (hb : Sm b) (w : World) : Calls Try.prog 43 #[.complex .f64 (fl a) (fl b)] w (Ret (.tuple #[.int .i64 a, .int .i64 b]) w) := by
  have H1 := Lib.hid (fun w => part_any ha w)
  have H2 := Lib.hid (fun w => part_any hb w)
  generalize fl a = fa at *
  generalize fl b = fb at *
  go_enter Try.func43, Try.ntmps43
  go_wp2_with fail
  refine (H1.out _).mono ?_
  rintro e w1 ⟨rfl, rfl⟩
  go_wp2_with fail
  refine (H2.out _).mono ?_
  rintro e w1 ⟨rfl, rfl⟩
  go_wp2_with fail
  go_ret2
  exact ⟨rfl, rfl⟩
end Go.Proofs.Ytakailalhpkfdaa

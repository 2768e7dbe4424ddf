/- Whether a text is that of a number: the program's way, walked. Reading a number of a text: the program's and the reference's way; a number's text by the reference, walked. -/
import Derived.Test.YtefijgdbnjmifaaDoorInstrP
import Derived.Test.YtefijgdbnjmifaaDoorBase
import Derived.Test.YtefijgdbnjmifaaDoorReadP
import Derived.Test.YtefijgdbnjmifaaDoorShelf
import Derived.Lib.SmallJoins
namespace Go.Proofs.YtefijgdbnjmifaaDoor
open Go.RowKit

theorem data_nil {s : ByteArray} (h : s.size = 0) : s.data.toList = [] := List.eq_nil_of_length_eq_zero (by rw [data_len]; exact h)
theorem empty_no {s : ByteArray} (h : 0 < s.size) : s.toList.isEmpty = false := by
  rw [ByteArray.toList_eq]
  cases hl : s.data.toList with
  | nil => have := data_len s; rw [hl] at this; simp at this; omega
  | cons => rfl
theorem empty_yes {s : ByteArray} (h : s.size = 0) : s.toList.isEmpty = true := by rw [ByteArray.toList_eq, data_nil h]; rfl
theorem list_empty_no {s : ByteArray} (h : 0 < s.size) : s.data.toList.isEmpty = false := by rw [← ByteArray.toList_eq]; exact empty_no h
theorem head_is {s : ByteArray} (h : 0 < s.size) {n : Nat} {c : UInt8} (hc : c.toNat = n) (he : ((s[0].toNat : Int) == (n : Int)) = true) : s.data.toList.head? = some c := by
  have h2 : (s[0].toNat : Int) = (n : Int) := by simpa using he
  rw [head_data s h]
  congr 1
  apply UInt8.toNat_inj.1
  omega
theorem head_not {s : ByteArray} (h : 0 < s.size) {n : Nat} {c : UInt8} (hc : c.toNat = n) (he : ((s[0].toNat : Int) == (n : Int)) = false) : ¬ s.data.toList.head? = some c := by
  have h2 : ¬ (s[0].toNat : Int) = (n : Int) := by simpa using he
  rw [head_data s h]
  intro h3
  injection h3 with h3
  subst h3
  exact h2 (by rw [hc])
theorem body_loop {s : ByteArray} (h : 0 < s.size) (hz : zeroLed s.data.toList = false) : bodyOk s.data.toList = allDig s.data.toList := by
  rw [bodyOk, list_empty_no h, hz]; rfl
theorem zero_yes {s : ByteArray} (h : 0 < s.size) (he : ((s[0].toNat : Int) == 48) = true) (h1 : 1 < s.size) : zeroLed s.data.toList = true := by
  rw [zeroLed, decide_eq_true (head_is h (c := 48) rfl he), decide_eq_true (by rw [data_len]; exact h1)]; rfl
theorem zero_no {s : ByteArray} (h : 0 < s.size) (he : ((s[0].toNat : Int) == 48) = false ∨ s.size ≤ 1) : zeroLed s.data.toList = false := by
  rcases he with he | he
  · rw [zeroLed, decide_eq_false (head_not h (c := 48) rfl he)]; rfl
  · rw [zeroLed, decide_eq_false (p := 1 < s.data.toList.length) (by rw [data_len]; omega), Bool.and_false]

theorem nright_none (s : ByteArray) (w : World) (h0 : s.size = 0) : Calls Tryd.prog 68 #[.string s] w (Ret (.bool (bodyOk s.data.toList)) w) := by
  have e := empty_yes h0
  have hs : s.size ≤ 0 := by omega
  have F := Lib.hid (show false = bodyOk s.data.toList by rw [data_nil h0]; rfl)
  clear h0
  go_enter Tryd.func68, Tryd.ntmps68
  go_wp2_with fail
  go_ret
  exact ⟨ret_bool F.out, rfl⟩
set_option maxHeartbeats 1000000 in
theorem right_zero (s : ByteArray) (w : World) (hs : s.size ≤ 9223372036854775806) (h0 : 0 < s.size) (hm : ((s[0].toNat : Int) == 45) = false) (hz : ((s[0].toNat : Int) == 48) = true) (h1 : 1 < s.size) :
    Calls Tryd.prog 68 #[.string s] w (Ret (.bool (bodyOk s.data.toList)) w) := by
  have e := empty_no h0
  have F := Lib.hid (show false = bodyOk s.data.toList by rw [bodyOk, zero_yes h0 hz h1]; simp)
  go_enter Tryd.func68, Tryd.ntmps68
  go_wp2_with fail
  go_ret
  exact ⟨ret_bool F.out, rfl⟩
set_option maxHeartbeats 1000000 in
theorem right_one (s : ByteArray) (w : World) (hs : s.size ≤ 9223372036854775806) (h0 : 0 < s.size) (hm : ((s[0].toNat : Int) == 45) = false) (hz : ((s[0].toNat : Int) == 48) = true) (h1 : s.size ≤ 1) :
    Calls Tryd.prog 68 #[.string s] w (Ret (.bool (bodyOk s.data.toList)) w) := by
  have e := empty_no h0
  have FN := Lib.hid (fun h : allDig s.data.toList = false => show false = bodyOk s.data.toList by rw [body_loop h0 (zero_no h0 (.inr h1)), h])
  have FY := Lib.hid (fun h : allDig s.data.toList = true => show true = bodyOk s.data.toList by rw [body_loop h0 (zero_no h0 (.inr h1)), h])
  go_enter Tryd.func68, Tryd.ntmps68
  go_wp2_with fail
  go_loop [30, 3] (fun i _ => ∃ k : Nat, k ≤ s.size ∧ i = .int .i64 k ∧ allDig (s.data.toList.take k) = true) (fun i _ => s.size - (intOf i).toNat)
  case atStart => exact ⟨0, by omega, rfl, rfl⟩
  case round =>
    obtain ⟨k, hk, rfl, hd⟩ := hrel
    have HD := Lib.hid hd
    clear hd
    by_cases hlt : k < s.size
    · have T := Lib.hid (take_succ_dig s k hlt)
      have NO := Lib.hid (allDig_no s k hlt)
      go_wp2
      · go_ret
        exact ⟨ret_bool (FN.out (NO.out (dig_low (by assumption)))), rfl⟩
      · go_ret
        exact ⟨ret_bool (FN.out (NO.out (dig_high (by assumption)))), rfl⟩
      · go_round
        case rel => exact ⟨k + 1, by omega, by go_num, by rw [T.out, HD.out, dig_yes (by omega) (by omega)]; rfl⟩
        case measure => simp [intOf]; omega
    · have E := Lib.hid (allDig_end s k (by omega) HD.out)
      go_wp2
      go_ret
      exact ⟨ret_bool (FY.out E.out), rfl⟩
set_option maxHeartbeats 1000000 in
theorem right_more (s : ByteArray) (w : World) (hs : s.size ≤ 9223372036854775806) (h0 : 0 < s.size) (hm : ((s[0].toNat : Int) == 45) = false) (hz : ((s[0].toNat : Int) == 48) = false) :
    Calls Tryd.prog 68 #[.string s] w (Ret (.bool (bodyOk s.data.toList)) w) := by
  have e := empty_no h0
  have FN := Lib.hid (fun h : allDig s.data.toList = false => show false = bodyOk s.data.toList by rw [body_loop h0 (zero_no h0 (.inl hz)), h])
  have FY := Lib.hid (fun h : allDig s.data.toList = true => show true = bodyOk s.data.toList by rw [body_loop h0 (zero_no h0 (.inl hz)), h])
  go_enter Tryd.func68, Tryd.ntmps68
  go_wp2_with fail
  go_loop [30, 3] (fun i _ => ∃ k : Nat, k ≤ s.size ∧ i = .int .i64 k ∧ allDig (s.data.toList.take k) = true) (fun i _ => s.size - (intOf i).toNat)
  case atStart => exact ⟨0, by omega, rfl, rfl⟩
  case round =>
    obtain ⟨k, hk, rfl, hd⟩ := hrel
    have HD := Lib.hid hd
    clear hd
    by_cases hlt : k < s.size
    · have T := Lib.hid (take_succ_dig s k hlt)
      have NO := Lib.hid (allDig_no s k hlt)
      go_wp2
      · go_ret
        exact ⟨ret_bool (FN.out (NO.out (dig_low (by assumption)))), rfl⟩
      · go_ret
        exact ⟨ret_bool (FN.out (NO.out (dig_high (by assumption)))), rfl⟩
      · go_round
        case rel => exact ⟨k + 1, by omega, by go_num, by rw [T.out, HD.out, dig_yes (by omega) (by omega)]; rfl⟩
        case measure => simp [intOf]; omega
    · have E := Lib.hid (allDig_end s k (by omega) HD.out)
      go_wp2
      go_ret
      exact ⟨ret_bool (FY.out E.out), rfl⟩
theorem right_pos (s : ByteArray) (w : World) (hs : s.size ≤ 9223372036854775806) (h : negB s.data.toList = false) :
    Calls Tryd.prog 68 #[.string s] w (Ret (.bool (rightB s.data.toList)) w) := by
  rw [rightB, h]
  simp only [Bool.false_eq_true, if_false]
  by_cases h0 : s.size = 0
  · exact nright_none s w h0
  · have h0' : 0 < s.size := by omega
    have hm : ((s[0].toNat : Int) == 45) = false := by
      cases hx : ((s[0].toNat : Int) == 45) with
      | false => rfl
      | true =>
        have := head_is h0' (n := 45) (c := 45) rfl hx
        rw [negB, decide_eq_true this] at h; cases h
    cases hz : ((s[0].toNat : Int) == 48) with
    | false => exact right_more s w hs h0' hm hz
    | true =>
      by_cases h1 : 1 < s.size
      · exact right_zero s w hs h0' hm hz h1
      · exact right_one s w hs h0' hm hz (by omega)

/-- Is what stands behind the sign right? -/
def extB (s : ByteArray) : Bool := bodyOk (s.extract 1 s.size).data.toList
theorem tail_eq (s : ByteArray) : (s.extract 1 s.size).toList = s.data.toList.tail := by rw [ByteArray.toList_eq, tail_extract]
theorem right_n0 (s : ByteArray) (w : World) (hs : s.size ≤ 9223372036854775806) (h0 : 0 < s.size) (hm : ((s[0].toNat : Int) == 45) = true) (hz : ((s.extract 1 s.size).toList == [48]) = true) :
    Calls Tryd.prog 68 #[.string s] w (Ret (.bool false) w) := by
  go_enter Tryd.func68, Tryd.ntmps68
  go_wp2_with fail
  go_ret
  exact ⟨rfl, rfl⟩
theorem right_n1 (s : ByteArray) (w : World) (hs : s.size ≤ 9223372036854775806) (h0 : 0 < s.size) (hm : ((s[0].toNat : Int) == 45) = true) (hz : ((s.extract 1 s.size).toList == [48]) = false) (he : (s.extract 1 s.size).toList.isEmpty = true) :
    Calls Tryd.prog 68 #[.string s] w (Ret (.bool false) w) := by
  go_enter Tryd.func68, Tryd.ntmps68
  go_wp2_with fail
  go_ret
  exact ⟨rfl, rfl⟩
set_option maxHeartbeats 1000000 in
theorem right_n2 (s : ByteArray) (w : World) (hs : s.size ≤ 9223372036854775806) (h0 : 0 < s.size) (hm : ((s[0].toNat : Int) == 45) = true) (hz : ((s.extract 1 s.size).toList == [48]) = false) (he : (s.extract 1 s.size).toList.isEmpty = false)
    (hp : 0 < (s.extract 1 s.size).size) (h2 : 2 < s.size) (hx : (((s.extract 1 s.size)[0].toNat : Int) == 48) = true) :
    Calls Tryd.prog 68 #[.string s] w (Ret (.bool false) w) := by
  have hs1 : 0 < s.size - 1 := by omega
  go_enter Tryd.func68, Tryd.ntmps68
  go_wp2_with fail
  go_ret
  exact ⟨rfl, rfl⟩
set_option maxHeartbeats 2000000 in
theorem right_n3 (s : ByteArray) (w : World) (hs : s.size ≤ 9223372036854775806) (h0 : 0 < s.size) (hm : ((s[0].toNat : Int) == 45) = true) (hz : ((s.extract 1 s.size).toList == [48]) = false) (he : (s.extract 1 s.size).toList.isEmpty = false)
    (hp : 0 < (s.extract 1 s.size).size) (h2 : s.size ≤ 2) (hx : (((s.extract 1 s.size)[0].toNat : Int) == 48) = true) :
    Calls Tryd.prog 68 #[.string s] w (Ret (.bool (extB s)) w) := by
  have hs1 : 0 < s.size - 1 := by rw [size_extract1] at hp; exact hp
  have FN := Lib.hid (fun h : allDig (s.extract 1 s.size).data.toList = false => show false = extB s by rw [extB, body_loop hp (zero_no hp (.inr (by rw [size_extract1]; omega))), h])
  have FY := Lib.hid (fun h : allDig (s.extract 1 s.size).data.toList = true => show true = extB s by rw [extB, body_loop hp (zero_no hp (.inr (by rw [size_extract1]; omega))), h])
  go_enter Tryd.func68, Tryd.ntmps68
  go_wp2_with fail
  go_loop [30, 3] (fun i _ => ∃ k : Nat, k ≤ s.size - 1 ∧ i = .int .i64 k ∧ allDig ((s.extract 1 s.size).data.toList.take k) = true) (fun i _ => s.size - 1 - (intOf i).toNat)
  case atStart => exact ⟨0, by omega, rfl, rfl⟩
  case round =>
    obtain ⟨k, hk, rfl, hd⟩ := hrel
    have HD := Lib.hid hd
    clear hd
    by_cases hlt : k < s.size - 1
    · have hlt' : k < (s.extract 1 s.size).size := by rw [size_extract1]; exact hlt
      have T := Lib.hid (take_succ_dig (s.extract 1 s.size) k hlt')
      have NO := Lib.hid (allDig_no (s.extract 1 s.size) k hlt')
      go_wp2
      · go_ret
        exact ⟨ret_bool (FN.out (NO.out (dig_low (by assumption)))), rfl⟩
      · go_ret
        exact ⟨ret_bool (FN.out (NO.out (dig_high (by assumption)))), rfl⟩
      · go_round
        case rel => exact ⟨k + 1, by omega, by go_num, by rw [T.out, HD.out, dig_yes (by omega) (by omega)]; rfl⟩
        case measure => simp [intOf]; omega
    · have E := Lib.hid (allDig_end (s.extract 1 s.size) k (by rw [size_extract1]; omega) HD.out)
      go_wp2
      go_ret
      exact ⟨ret_bool (FY.out E.out), rfl⟩
set_option maxHeartbeats 2000000 in
theorem right_n4 (s : ByteArray) (w : World) (hs : s.size ≤ 9223372036854775806) (h0 : 0 < s.size) (hm : ((s[0].toNat : Int) == 45) = true) (hz : ((s.extract 1 s.size).toList == [48]) = false) (he : (s.extract 1 s.size).toList.isEmpty = false)
    (hp : 0 < (s.extract 1 s.size).size) (hx : (((s.extract 1 s.size)[0].toNat : Int) == 48) = false) :
    Calls Tryd.prog 68 #[.string s] w (Ret (.bool (extB s)) w) := by
  have hs1 : 0 < s.size - 1 := by rw [size_extract1] at hp; exact hp
  have FN := Lib.hid (fun h : allDig (s.extract 1 s.size).data.toList = false => show false = extB s by rw [extB, body_loop hp (zero_no hp (.inl hx)), h])
  have FY := Lib.hid (fun h : allDig (s.extract 1 s.size).data.toList = true => show true = extB s by rw [extB, body_loop hp (zero_no hp (.inl hx)), h])
  go_enter Tryd.func68, Tryd.ntmps68
  go_wp2_with fail
  go_loop [30, 3] (fun i _ => ∃ k : Nat, k ≤ s.size - 1 ∧ i = .int .i64 k ∧ allDig ((s.extract 1 s.size).data.toList.take k) = true) (fun i _ => s.size - 1 - (intOf i).toNat)
  case atStart => exact ⟨0, by omega, rfl, rfl⟩
  case round =>
    obtain ⟨k, hk, rfl, hd⟩ := hrel
    have HD := Lib.hid hd
    clear hd
    by_cases hlt : k < s.size - 1
    · have hlt' : k < (s.extract 1 s.size).size := by rw [size_extract1]; exact hlt
      have T := Lib.hid (take_succ_dig (s.extract 1 s.size) k hlt')
      have NO := Lib.hid (allDig_no (s.extract 1 s.size) k hlt')
      go_wp2
      · go_ret
        exact ⟨ret_bool (FN.out (NO.out (dig_low (by assumption)))), rfl⟩
      · go_ret
        exact ⟨ret_bool (FN.out (NO.out (dig_high (by assumption)))), rfl⟩
      · go_round
        case rel => exact ⟨k + 1, by omega, by go_num, by rw [T.out, HD.out, dig_yes (by omega) (by omega)]; rfl⟩
        case measure => simp [intOf]; omega
    · have E := Lib.hid (allDig_end (s.extract 1 s.size) k (by rw [size_extract1]; omega) HD.out)
      go_wp2
      go_ret
      exact ⟨ret_bool (FY.out E.out), rfl⟩
theorem right_neg (s : ByteArray) (w : World) (hs : s.size ≤ 9223372036854775806) (h : negB s.data.toList = true) :
    Calls Tryd.prog 68 #[.string s] w (Ret (.bool (rightB s.data.toList)) w) := by
  have h0 : 0 < s.size := by
    rcases Nat.eq_zero_or_pos s.size with h0 | h0
    · rw [data_nil h0] at h; cases h
    · exact h0
  have hm : ((s[0].toNat : Int) == 45) = true := by
    cases hx : ((s[0].toNat : Int) == 45) with
    | true => rfl
    | false =>
      have := head_not h0 (n := 45) (c := 45) rfl hx
      rw [negB, decide_eq_false this] at h; cases h
  rw [rightB, h, if_pos rfl, ← tail_extract]
  cases hz : ((s.extract 1 s.size).toList == [48]) with
  | true =>
    rw [ByteArray.toList_eq] at hz
    rw [hz]
    exact right_n0 s w hs h0 hm (by rw [ByteArray.toList_eq]; exact hz)
  | false =>
    have hz' := hz
    rw [ByteArray.toList_eq] at hz'
    rw [hz', Bool.not_false, Bool.true_and]
    by_cases hp : 0 < (s.extract 1 s.size).size
    · have he := empty_no hp
      cases hx : (((s.extract 1 s.size)[0].toNat : Int) == 48) with
      | false => exact right_n4 s w hs h0 hm hz he hp hx
      | true =>
        by_cases h2 : 2 < s.size
        · rw [show bodyOk (s.extract 1 s.size).data.toList = false by rw [bodyOk, zero_yes hp hx (by rw [size_extract1]; omega)]; simp]
          exact right_n2 s w hs h0 hm hz he hp h2 hx
        · exact right_n3 s w hs h0 hm hz he hp (by omega) hx
    · have he := empty_yes (s := s.extract 1 s.size) (by omega)
      rw [show bodyOk (s.extract 1 s.size).data.toList = false by rw [data_nil (by omega)]; rfl]
      exact right_n1 s w hs h0 hm hz he
theorem nright_any (s : ByteArray) (w : World) (hs : s.size ≤ 9223372036854775806) :
    Calls Tryd.prog 68 #[.string s] w (Ret (.bool (rightB s.data.toList)) w) := by
  cases h : negB s.data.toList with
  | true => exact right_neg s w hs h
  | false => exact right_pos s w hs h
end Go.Proofs.YtefijgdbnjmifaaDoor
namespace Go.Proofs.YtefijgdbnjmifaaDoor
open Go.RowKit

/-- The library's error of range lies in its variable. -/
def RangeVar (w : World) : Prop := ∃ tp p, w.var? Tryd.prog "strconv.ErrRange" = some #[.iface tp p]
theorem RangeVar.below {w w' : World} (h : RangeVar w) (hb : Below w.heap.size w w') : RangeVar w' := by
  have hg : Tryd.prog.globalNamed "strconv.ErrRange" = some 3 := by kernel_rfl
  obtain ⟨tp, p, h⟩ := h
  refine ⟨tp, p, ?_⟩
  unfold World.var? at *
  rw [hg] at h ⊢
  simp only [Option.bind_some] at h ⊢
  have hlt : 3 < w.heap.size := by
    cases hh : w.heap[3]? with
    | none => rw [hh] at h; cases h
    | some o => exact (Array.getElem?_eq_some_iff.1 hh).1
  rw [hb.block _ hlt]; exact h

theorem read_no (s : ByteArray) (w : World) (hs : s.size ≤ 140737488351232) (h : rightB s.data.toList = false) :
    Calls Tryd.prog 55 #[.string s] w (RetB (.tuple #[.int .i64 0, .int .i64 9]) w) := by
  have H := Lib.hid h
  clear h
  go_enter Tryd.func55, Tryd.ntmps55
  go_wp2_with fail
  refine (nright_any s _ (by omega)).mono ?_; rintro e w1 ⟨rfl, rfl⟩
  rw [H.out]
  go_wp2_with fail
  go_ret2
  exact ⟨rfl, Below.refl _ _⟩
theorem read_ok (s : ByteArray) (w : World) (hs : s.size ≤ 140737488351232) (h : rightB s.data.toList = true) (v : Int) (hv : Lib.parseIntB 64 s.data.toList = .ok v) :
    Calls Tryd.prog 55 #[.string s] w (RetB (.tuple #[.int .i64 v, .int .i64 0]) w) := by
  have H := Lib.hid h
  have HV := Lib.hid hv
  clear h hv
  go_enter Tryd.func55, Tryd.ntmps55
  go_wp2_with fail
  refine (nright_any s _ (by omega)).mono ?_; rintro e w1 ⟨rfl, rfl⟩
  rw [H.out]
  go_wp2_with fail
  refine (Tryd.strconv_ParseInt_10_at64_ok s (by omega) v HV.out _).mono ?_; rintro e w1 ⟨rfl, hw⟩
  have hb : Below w.heap.size w w1 := by
    rcases hw with rfl | ⟨t, rfl⟩
    · exact Below.refl _ _
    · exact Joins.below_bytesWorld _ _ _ _ (Nat.le_refl _)
  clear hw
  go_wp2_with fail
  go_ret2
  exact ⟨rfl, hb⟩
theorem wread_long (s : ByteArray) (w : World) (hs : s.size ≤ 140737488351232) (h : rightB s.data.toList = true) (hv : Lib.parseIntB 64 s.data.toList = Lib.NumEnd.range) (hr : RangeVar w) :
    Calls Tryd.prog 55 #[.string s] w (RetB (.tuple #[.int .i64 0, .int .i64 2]) w) := by
  have H := Lib.hid h
  have HV := Lib.hid hv
  obtain ⟨tp, p, hr⟩ := hr
  have HR := Lib.hid hr
  clear h hv hr
  go_enter Tryd.func55, Tryd.ntmps55
  go_wp2_with fail
  refine (nright_any s _ (by omega)).mono ?_; rintro e w1 ⟨rfl, rfl⟩
  rw [H.out]
  go_wp2_with fail
  refine (Tryd.strconv_ParseInt_10_at64_range_var s (by omega) HV.out tp p _ HR.out).mono ?_; rintro e w1 ⟨N, rfl, _, _, hb⟩
  go_wp2_with fail
  go_ret2
  exact ⟨rfl, hb⟩
theorem wread_any (s : ByteArray) (w : World) (hs : s.size ≤ 140737488351232) (hr : RangeVar w) :
    Calls Tryd.prog 55 #[.string s] w (RetB (.tuple #[.int .i64 (readVal s.data.toList), .int .i64 (readErr s.data.toList)]) w) := by
  cases h : rightB s.data.toList with
  | false =>
    rw [readVal, readErr, h]
    exact read_no s w hs h
  | true =>
    have hp := parse_right _ h
    rw [readVal, readErr, h]
    cases h2 : readOk s.data.toList with
    | true =>
      rw [h2, if_pos rfl] at hp
      exact read_ok s w hs h _ hp
    | false =>
      rw [h2] at hp
      exact wread_long s w hs h hp hr
end Go.Proofs.YtefijgdbnjmifaaDoor

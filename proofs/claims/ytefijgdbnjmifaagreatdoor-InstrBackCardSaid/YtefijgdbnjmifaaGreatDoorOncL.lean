/- InstrOnce, walked: what is read of bytes, of a text, as code has just these bytes, this text. -/
import Derived.Test.YtefijgdbnjmifaaGreatDoorUnlH
import Derived.Test.YtefijgdbnjmifaaGreatDoorRdG
import Derived.Test.YtefijgdbnjmifaaGreatDoorLstC
import Derived.Test.YtefijgdbnjmifaaGreatDoorBytE
import Derived.Test.YtefijgdbnjmifaaGreatDoorCircA
import Derived.Test.YtefijgdbnjmifaaGreatDoorUnlI
namespace Go.Proofs.YtefijgdbnjmifaaGreatDoor
open Go.RowKit

/-- Bytes that came in, as a text. -/
theorem bs_conv {w : World} {A : Option Addr} {n cc : Nat} {l : List UInt8} (h : BS w A n cc l) : (convert 25 9 (.slice A n cc)).run Tryz.prog w = .ok (.string (sp l)) w := by
  have hl := h.len
  by_cases hn : 0 < n
  · obtain ⟨b, off, rfl, _, hc⟩ := h.bytes hn
    have hB : Go.Lib.Bytes w b off (strB l) := rd_bytes hl (fun j hj => hc j (by omega))
    have := Go.Lib.run_convert_window (P := Tryz.prog) w 25 5 9 Tryz.underlying25 Tryz.underlying5 Tryz.underlying9 b off (strB l) hB 0 n cc (by show 0 + n ≤ l.length; omega)
    rw [ext_take, List.drop_zero, List.take_of_length_le (by omega)] at this
    exact this
  · have h0 : l = [] := List.eq_nil_of_length_eq_zero (by omega)
    obtain rfl : n = 0 := by omega
    subst h0
    rw [run_convert_bytes_string w 25 9 5 A 0 cc Tryz.underlying25 Tryz.underlying5 Tryz.underlying9]
    cases A <;> simp [Conv.bytesToString, loadCells, go_sem] <;> rfl
/-- Telling right code's bytes, code's text. -/
def ByGood (l : List UInt8) (w : World) (e : Ending) (w' : World) : Prop := ∃ v, e = .returned (.tuple #[v, .int .i64 0]) ∧ OwnBy w' w.heap.size v l ∧ Below w.heap.size w w'
theorem by_is {c : List InsV} {w w' : World} {e : Ending} (hm : mayS c = 0) (h : ByPost c w e w') : ByGood (bytesS c) w e w' := by
  obtain ⟨v, h1, h2, h3⟩ := h
  rw [hm] at h1
  rw [if_pos hm] at h2
  exact ⟨v, h1, h2, h3⟩
theorem li_is {c : List InsV} {w w' : World} {e : Ending} (hm : mayS c = 0) (h : LiPost c w e w') : RetB (.tuple #[.string (sp (listS c)), .int .i64 0]) w e w' := by
  obtain ⟨h1, h2⟩ := h
  rw [hm] at h1
  unfold listV at h1
  rw [if_pos hm] at h1
  exact ⟨h1, h2⟩
/-- What is needed of code that was read. -/
structure Told (m : List InsV) : Prop where
  len : m.length ≤ 8192
  may : mayS m = 0
  ok : OkC m
  oi : OkI m
  tx : m.length ≤ 8192 → textsTo m m.length ≤ 1048576
theorem told_read {l : List UInt8} {m : List InsV} {q : Nat} (hl : l.length ≤ 20000) (h : readS l = (m, q, 0)) : Told m ∧ bytesS m = l := by
  obtain ⟨h1, h2, h3⟩ := readS_by h
  have hr : ∀ k, k < m.length → rightI (atV m k).ins m.length = true := fun k hk => (h3 _ (at_mem hk)).1
  refine ⟨⟨h2, mayS_of h2 fun x hx => (h3 x hx).1, fun k hk => ?_, fun k hk => ?_, fun _ => ?_⟩, h1⟩
  · have := h3 _ (at_mem hk); exact ⟨this.2.1, by omega⟩
  · have := h3 _ (at_mem hk); exact this.2.2.2
  · have := texts_bytes hr m.length (Nat.le_refl _)
    rw [bytesTo_all, h1] at this
    omega
theorem parse_int (k : Nat) (l : List UInt8) : -9223372036854775808 ≤ (parseS k l).1.int ∧ (parseS k l).1.int ≤ 9223372036854775807 := by
  unfold parseS parseO
  split
  · exact ⟨(by show (_ : Int) ≤ 0; omega), (by show (0 : Int) ≤ _; omega)⟩
  · exact intL_in _ _
theorem unlTo_int : ∀ (n : Nat) (c : List InsV) (l : List UInt8) (m : List InsV) (k : Nat), (∀ x, x ∈ c → -9223372036854775808 ≤ x.int ∧ x.int ≤ 9223372036854775807) → unlTo n c l = (m, k, 0) →
    ∀ x, x ∈ m → -9223372036854775808 ≤ x.int ∧ x.int ≤ 9223372036854775807
  | 0, c, l, m, k, hc, h => by
    obtain ⟨rfl, _⟩ := unlEnd_zero h
    exact hc
  | n + 1, c, l, m, k, hc, h => by
    unfold unlTo at h
    split at h
    · obtain ⟨rfl, _⟩ := unlEnd_zero h
      exact hc
    · split at h
      · simp at h
      · split at h
        · refine unlTo_int n _ _ m k (fun x hx => ?_) h
          rcases List.mem_append.1 hx with hx | hx
          · exact hc x hx
          · rw [List.mem_singleton.1 hx]; exact parse_int _ _
        · simp at h
theorem told_unlist {l : List UInt8} {m : List InsV} {q : Nat} (hl : l.length ≤ 20000) (h : unlS l = (m, q, 0)) : Told m ∧ listS m = l := by
  obtain ⟨h1, h2, hr⟩ := unlS_list h
  have hi : ∀ x, x ∈ m → -9223372036854775808 ≤ x.int ∧ x.int ≤ 9223372036854775807 := by
    unfold unlS at h
    split at h
    · simp at h
    · exact unlTo_int _ _ _ _ _ (fun x hx => absurd hx (by simp)) h
  have ht := texts_list hr m.length (Nat.le_refl _)
  have e : listTo m m.length = l := h1
  rw [e] at ht
  have ht1 : ∀ k, k < m.length → (atV m k).text.size ≤ 20000 := fun k hk => by
    have a := textsTo_mono m (show k + 1 ≤ m.length by omega)
    have b : textsTo m (k + 1) = textsTo m k + (atV m k).text.size := rfl
    omega
  refine ⟨⟨h2, may_good (by omega) hr, fun k hk => ⟨?_, ?_⟩, fun k hk => hi _ (at_mem hk), fun _ => by omega⟩, h1⟩
  · have := isK_lt (right_isK (hr k hk)); omega
  · have := ht1 k hk; omega
theorem sp_data (s : ByteArray) : sp s.data.toList = s := by simp [sp]
theorem data_size (s : ByteArray) : s.data.toList.length = s.size := Array.length_toList
set_option maxRecDepth 100000 in
set_option maxHeartbeats 2000000 in
theorem once_law (l : List UInt8) (A : Option Addr) (n cc : Nat) (s : ByteArray) (w : World) (hl : l.length = n) (hs : Sl w 1 A n (fun j => .int .u8 (byt l j : Int))) (hc : n ≤ cc) (hcb : cc ≤ 9223372036854775807) (hnil : A = none → cc = 0)
    (_hz : s.size ≤ maxLen) (hp : Pow10 w) (hv : SynVar w) (hr : RangeVar w) (hm : MaxVar w) :
    Calls Tryz.prog 4 #[.slice A n cc, .string s] w (RetB (.bool true) w) := by
  have HL := Lib.hid hl
  have HS := Lib.hid hs
  have HN := Lib.hid hnil
  have HP := Lib.hid hp
  have HV := Lib.hid hv
  have HR := Lib.hid hr
  have HM := Lib.hid hm
  clear hl hs hnil hp hv hr hm
  go_enter Tryz.func4, Tryz.ntmps4
  go_wp2_with fail
  refine (awake_any _).mono ?_
  rintro e w1 ⟨rfl, h1⟩
  by_cases hn : 20000 < n
  · have hnb : decide ((20000 : Int) < (n : Int)) = true := decide_eq_true (by omega)
    go_wp2_with fail
    go_ret
    exact ⟨rfl, h1⟩
  have hnb : decide ((20000 : Int) < (n : Int)) = false := decide_eq_false (by omega)
  by_cases hz : 20000 < s.size
  · have hzb : decide ((20000 : Int) < (s.size : Int)) = true := decide_eq_true (by omega)
    go_wp2_with fail
    go_ret
    exact ⟨rfl, h1⟩
  have hzb : decide ((20000 : Int) < (s.size : Int)) = false := decide_eq_false (by omega)
  have B1 := Lib.hid (show BS w1 A n cc l from ⟨HL.out, HS.out.keep h1, hc, hcb, HN.out, by omega⟩)
  have LS := Lib.hid (show l.length ≤ 20000 by rw [HL.out]; omega)
  have SS := Lib.hid (show s.data.toList.length ≤ 20000 by rw [data_size]; omega)
  have H1 := Lib.hid h1
  clear hc hcb hn hz h1
  go_wp2_with fail
  refine (read_any B1.out).mono ?_
  rintro e w2 ⟨A2, c2, rfl, hc2, h2⟩
  have B2 := Lib.hid (B1.out.below h2)
  have HC2 := Lib.hid hc2
  have H2 := Lib.hid (bthen H1.out h2)
  clear hc2 h2
  by_cases he : (readS l).2.2 = 0
  · have TB := Lib.hid (told_read LS.out (show readS l = ((readS l).1, (readS l).2.1, 0) by rw [← he]))
    have he1 : ((readS l).2.2 == 0) = true := beq_iff_eq.2 he
    clear he
    generalize (readS l).1 = c at *
    generalize (readS l).2.1 = q at *
    generalize (readS l).2.2 = er at *
    go_wp2_with fail
    refine (Calls.mono (bytes_any HC2.out rfl TB.out.1.ok TB.out.1.oi (by have := TB.out.1.len; omega) TB.out.1.tx) fun e w' h => by_is TB.out.1.may h).mono ?_
    rintro e w3 ⟨v3, rfl, ho3, h3⟩
    rw [TB.out.2] at ho3
    have k2 := own_str ho3
    have k3 := bs_conv (B2.out.below h3)
    have H3 := Lib.hid (bthen H2.out h3)
    clear ho3 h3 HC2 TB
    have z2 : ((sp l).toList == (sp l).toList) = true := beq_self_eq_true _
    generalize sp l = sb at *
    go_wp2_with fail
    refine (unlist_any s (by have := SS.out; rw [data_size] at this; omega) _ (HP.out.below H3.out) (HV.out.below H3.out) (HR.out.below H3.out) (HM.out.below H3.out)).mono ?_
    rintro e w4 ⟨A4, c4, rfl, hc4, h4⟩
    have HC4 := Lib.hid hc4
    have H4 := Lib.hid (bthen H3.out h4)
    clear hc4 h4 k2 k3
    by_cases hu : (unlS s.data.toList).2.2 = 0
    · have TL := Lib.hid (told_unlist SS.out (show unlS s.data.toList = ((unlS s.data.toList).1, (unlS s.data.toList).2.1, 0) by rw [← hu]))
      have hu1 : ((unlS s.data.toList).2.2 == 0) = true := beq_iff_eq.2 hu
      clear hu
      generalize (unlS s.data.toList).1 = d at *
      generalize (unlS s.data.toList).2.1 = p at *
      generalize (unlS s.data.toList).2.2 = eu at *
      go_wp2_with fail
      refine (Calls.mono (list_any HC4.out rfl TL.out.1.ok TL.out.1.oi (by have := TL.out.1.len; omega) TL.out.1.tx (HP.out.below H4.out)) fun e w' h => li_is TL.out.1.may h).mono ?_
      rw [TL.out.2, sp_data]
      rintro e w5 ⟨rfl, h5⟩
      have H5 := Lib.hid (bthen H4.out h5)
      clear h5 HC4 TL
      have z3 : (s.toList == s.toList) = true := beq_self_eq_true _
      go_wp2_with fail
      go_ret
      exact ⟨rfl, H5.out⟩
    · have hu1 : ((unlS s.data.toList).2.2 == 0) = false := beq_eq_false_iff_ne.2 hu
      clear hu
      generalize (unlS s.data.toList).1 = d at *
      generalize (unlS s.data.toList).2.1 = p at *
      generalize (unlS s.data.toList).2.2 = eu at *
      go_wp2_with fail
      go_ret
      exact ⟨rfl, H4.out⟩
  · have he1 : ((readS l).2.2 == 0) = false := beq_eq_false_iff_ne.2 he
    clear he
    generalize (readS l).1 = c at *
    generalize (readS l).2.1 = q at *
    generalize (readS l).2.2 = er at *
    go_wp2_with fail
    refine (unlist_any s (by have := SS.out; rw [data_size] at this; omega) _ (HP.out.below H2.out) (HV.out.below H2.out) (HR.out.below H2.out) (HM.out.below H2.out)).mono ?_
    rintro e w4 ⟨A4, c4, rfl, hc4, h4⟩
    have HC4 := Lib.hid hc4
    have H4 := Lib.hid (bthen H2.out h4)
    clear hc4 h4
    by_cases hu : (unlS s.data.toList).2.2 = 0
    · have TL := Lib.hid (told_unlist SS.out (show unlS s.data.toList = ((unlS s.data.toList).1, (unlS s.data.toList).2.1, 0) by rw [← hu]))
      have hu1 : ((unlS s.data.toList).2.2 == 0) = true := beq_iff_eq.2 hu
      clear hu
      generalize (unlS s.data.toList).1 = d at *
      generalize (unlS s.data.toList).2.1 = p at *
      generalize (unlS s.data.toList).2.2 = eu at *
      go_wp2_with fail
      refine (Calls.mono (list_any HC4.out rfl TL.out.1.ok TL.out.1.oi (by have := TL.out.1.len; omega) TL.out.1.tx (HP.out.below H4.out)) fun e w' h => li_is TL.out.1.may h).mono ?_
      rw [TL.out.2, sp_data]
      rintro e w5 ⟨rfl, h5⟩
      have H5 := Lib.hid (bthen H4.out h5)
      clear h5 HC4 TL
      have z3 : (s.toList == s.toList) = true := beq_self_eq_true _
      go_wp2_with fail
      go_ret
      exact ⟨rfl, H5.out⟩
    · have hu1 : ((unlS s.data.toList).2.2 == 0) = false := beq_eq_false_iff_ne.2 hu
      clear hu
      generalize (unlS s.data.toList).1 = d at *
      generalize (unlS s.data.toList).2.1 = p at *
      generalize (unlS s.data.toList).2.2 = eu at *
      go_wp2_with fail
      go_ret
      exact ⟨rfl, H4.out⟩
end Go.Proofs.YtefijgdbnjmifaaGreatDoor

/- InstrBack, walked: code is read of its bytes, and of its text, as it was; a beginning of its bytes ends too early. -/
import Derived.Test.YtefijgdbnjmifaaGreatDoorOncL
import Derived.Test.YtefijgdbnjmifaaGreatDoorSameA
namespace Go.Proofs.YtefijgdbnjmifaaGreatDoor
open Go.RowKit

/-- Bytes of the call's own, read as bytes that came in. -/
theorem own_bs {w : World} {base : Nat} {v : Value} {bs : List UInt8} (h : OwnBy w base v bs) (hl : bs.length ≤ 140737488351232) : ∃ (A : Option Addr) (cc : Nat), v = .slice A bs.length cc ∧ BS w A bs.length cc bs := by
  have h0 := h
  obtain ⟨_, ⟨h2, h3⟩ | ⟨g, cap, cur, h2, hb, hg, hn, hm, _, _⟩⟩ := h
  · have : bs = [] := List.eq_nil_of_length_eq_zero h3
    subst this
    exact ⟨none, 0, h2, rfl, Sl.nil, Nat.le_refl _, by omega, fun _ => rfl, by simp⟩
  · refine ⟨some ⟨g, 0, none⟩, cap, h2, rfl, ?_, hn, (by unfold maxLen at hm; omega), (fun e => by cases e), (by omega)⟩
    subst h2
    refine (Sl.of_own (d := .int .u8 0) h0).congr fun j hj => ?_
    have hj' : j < bs.length := by omega
    simp [List.getD_eq_getElem?_getD, hj', byteV, byt]
/-- The first of these bytes. -/
theorem BS.take {w : World} {A : Option Addr} {n cc : Nat} {l : List UInt8} (h : BS w A n cc l) {i : Nat} (hi : i ≤ n) : BS w A i cc (l.take i) where
  len := by rw [List.length_take, h.len]; omega
  bytes := fun hp => by
    obtain ⟨b, off, e, hlt, hc⟩ := h.bytes (by omega)
    refine ⟨b, off, e, hlt, fun j hj => ?_⟩
    rw [hc j (by omega)]
    have : byt (l.take i) j = byt l j := by
      unfold byt
      simp [List.getD_eq_getElem?_getD, show j < i by omega]
    show some (Value.int .u8 (byt l j : Int)) = some (.int .u8 (byt (l.take i) j : Int))
    rw [this]
  cap := by have := h.cap; omega
  capb := h.capb
  nil := h.nil
  small := by have := h.small; omega
/-- Reading a beginning: too short. -/
def ShortPost (i : Nat) (w : World) (e : Ending) (w' : World) : Prop := ∃ v, e = .returned (.tuple #[v, .int .i64 (i : Int), .int .i64 4]) ∧ Below w.heap.size w w'
theorem short_any {w : World} {A : Option Addr} {n cc : Nat} {c : List InsV} {i : Nat} (h : BS w A n cc (bytesS c)) (hi : i < n) (hc : c.length ≤ 8192) (hf : ∀ x, x ∈ c → Fld x c.length) :
    Calls Tryz.prog 9 #[.slice A i cc] w (ShortPost i w) := by
  refine (read_any (h.take (Nat.le_of_lt hi))).mono ?_
  rintro e w' ⟨B, k, rfl, _, hb⟩
  have hs := readS_short hc hf (i := i) (by have := h.len; omega)
  refine ⟨.slice B (readS ((bytesS c).take i)).1.length k, ?_, hb⟩
  rw [hs]
/-- Reading all. -/
def BackPost (c : List InsV) (n : Nat) (w : World) (e : Ending) (w' : World) : Prop := ∃ (A : Option Addr) (cc : Nat), e = .returned (.tuple #[.slice A c.length cc, .int .i64 (n : Int), .int .i64 0]) ∧ CodeIn w' A c ∧ Below w.heap.size w w'
theorem back_any {w : World} {A : Option Addr} {n cc : Nat} {c : List InsV} (h : BS w A n cc (bytesS c)) (hc : c.length ≤ 8192) (hf : ∀ x, x ∈ c → Fld x c.length) :
    Calls Tryz.prog 9 #[.slice A n cc] w (BackPost c n w) := by
  refine (read_any h).mono ?_
  rintro e w' ⟨B, k, rfl, hco, hb⟩
  have hs := readS_back hc hf
  rw [hs] at hco
  refine ⟨B, k, ?_, hco, hb⟩
  rw [hs, h.len]
theorem unback_any {w : World} {s : ByteArray} {c : List InsV} (hs : s.data.toList = listS c) (hl : s.size ≤ 1048576) (hc : c.length ≤ 8192) (hf : ∀ x, x ∈ c → Fld x c.length) (hp : Pow10 w) (hv : SynVar w) (hr : RangeVar w) (hm : MaxVar w) :
    Calls Tryz.prog 10 #[.string s] w (BackPost c 0 w) := by
  refine (unlist_any s (by omega) w hp hv hr hm).mono ?_
  rintro e w' ⟨B, k, rfl, hco, hb⟩
  have hu := unlS_back hc hf (by rw [← hs, data_size]; exact hl)
  rw [hs, hu] at hco
  refine ⟨B, k, ?_, hco, hb⟩
  rw [hs, hu]
/-- What is known of code that may be told. -/
theorem may_fld {c : List InsV} (hm : mayS c = 0) (hok : OkC c) (hoi : OkI c) : c.length ≤ 8192 ∧ ∀ x, x ∈ c → Fld x c.length := by
  obtain ⟨h1, h2⟩ := may_ok hm
  refine ⟨h1, fun x hx => ?_⟩
  obtain ⟨k, hk, rfl⟩ := List.mem_iff_getElem.1 hx
  have e : atV c k = c[k] := by unfold atV; rw [List.getD_eq_getElem?_getD, List.getElem?_eq_getElem hk]; rfl
  have a := hok k hk
  have b := hoi k hk
  have d := h2 k hk
  rw [e] at a b d
  exact ⟨a.1, d, by omega, b.1, b.2, by omega⟩
theorem may_small {c : List InsV} (h : c.length ≤ 400) (hm : mayS c ≠ 0) : mayS c = 3 := by
  unfold mayS at *
  rw [if_neg (by omega)] at *
  split at hm
  · exact absurd rfl hm
  · rename_i h2; rw [if_neg h2]
set_option maxRecDepth 100000 in
set_option maxHeartbeats 2000000 in
theorem back_law (cs : List InsV) (A : Option Addr) (n cc : Nat) (w : World) (hn : n ≤ 9223372036854775807) (hl : cs.length = n) (hcode : CodeIn w A cs) (hok : OkC cs) (hoi : OkI cs) (hp : Pow10 w) (hv : SynVar w) (hr : RangeVar w) (hm : MaxVar w) :
    Calls Tryz.prog 3 #[.slice A n cc] w (RetB (.bool true) w) := by
  have HP := Lib.hid hp
  have HV := Lib.hid hv
  have HR := Lib.hid hr
  have HM := Lib.hid hm
  have HC := Lib.hid hcode
  have HL := Lib.hid hl
  have HO := Lib.hid hok
  have HOI := Lib.hid hoi
  clear hp hv hr hm hcode hl hok hoi
  go_enter Tryz.func3, Tryz.ntmps3
  go_wp2_with fail
  refine (awake_any _).mono ?_
  rintro e w1 ⟨rfl, h1⟩
  have HC1 := Lib.hid (HC.out.keep h1)
  have H1 := Lib.hid h1
  clear h1
  by_cases h400 : 400 < n
  · have hb4 : decide ((400 : Int) < (n : Int)) = true := decide_eq_true (by omega)
    go_wp2_with fail
    go_ret
    exact ⟨rfl, H1.out⟩
  have hb4 : decide ((400 : Int) < (n : Int)) = false := decide_eq_false (by omega)
  go_wp2_with fail
  refine (heavy_any HC1.out HL.out HO.out hn).mono ?_
  rintro e w2 ⟨hvy, rfl, hh, rfl⟩
  cases hvy with
  | true =>
    clear hh
    go_wp2_with fail
    go_ret
    exact ⟨rfl, H1.out⟩
  | false =>
    have TX := Lib.hid (show textsTo cs n ≤ 1048576 ∧ textsTo cs n ≤ 20000 from by have := hh rfl (by rw [HL.out]; omega); rw [HL.out] at this; omega)
    have N4 := Lib.hid (show n ≤ 400 by omega)
    clear hh h400
    go_wp2_with fail
    refine (bytes_any HC1.out HL.out HO.out HOI.out hn (fun _ => TX.out.1)).mono ?_
    rintro e w2 ⟨v2, rfl, ho2, h2⟩
    have HC2 := Lib.hid (HC1.out.keep h2)
    have HO2 := Lib.hid ho2
    have H2 := Lib.hid (bthen H1.out h2)
    clear ho2 h2
    go_wp2_with fail
    refine (list_any HC2.out HL.out HO.out HOI.out hn (fun _ => TX.out.1) (HP.out.below H2.out)).mono ?_
    rintro e w3 ⟨rfl, h3⟩
    have HC3 := Lib.hid (HC2.out.keep h3)
    have HO3 := Lib.hid (HO2.out.keep h3)
    have H3 := Lib.hid (bthen H2.out h3)
    clear h3
    by_cases hmay : mayS cs = 0
    · have MF := Lib.hid (may_fld hmay HO.out HOI.out)
      have LT := Lib.hid (show (listS cs).length ≤ 1048576 from by
        have := listTo_len (may_ok hmay).2 (by have := N4.out; rw [HL.out]; omega) HOI.out cs.length (Nat.le_refl _)
        have a := TX.out.2
        have b := N4.out
        rw [HL.out] at this
        unfold listS
        rw [HL.out]
        omega)
      have LB := Lib.hid (show (bytesS cs).length ≤ 1048576 from by
        have := bytesTo_len (may_ok hmay).2 (by have := N4.out; rw [HL.out]; omega) HO.out HOI.out cs.length (Nat.le_refl _)
        have a := TX.out.2
        have b := N4.out
        rw [HL.out] at this
        rw [← bytesTo_all, HL.out]
        omega)
      have ho := HO3.out
      rw [if_pos hmay] at ho
      obtain ⟨B, bc, rfl, hbs⟩ := own_bs ho (by have := LB.out; omega)
      have HB := Lib.hid hbs
      have ST := Lib.hid (show (sp (listV cs)).data.toList = listS cs from by unfold listV; rw [if_pos hmay]; simp [sp])
      have SZ := Lib.hid (show (sp (listV cs)).size ≤ 1048576 from by rw [← data_size, ST.out]; exact LT.out)
      have hm1 : (mayS cs != mayS cs) = false := bne_self_eq_false _
      have hm2 : (mayS cs != 0) = false := by rw [hmay]; rfl
      clear ho hbs hmay HO3
      generalize sp (listV cs) = st at *
      generalize mayS cs = mm at *
      generalize (bytesS cs).length = bl at *
      go_wp2_with fail
      refine (back_any HB.out MF.out.1 MF.out.2).mono ?_
      rintro e w4 ⟨A4, c4, rfl, hc4, h4⟩
      have HB4 := Lib.hid (HB.out.below h4)
      have HC4 := Lib.hid (HC3.out.keep h4)
      have HD4 := Lib.hid hc4
      have H4 := Lib.hid (bthen H3.out h4)
      clear hc4 h4
      go_wp2_with fail
      refine (unback_any ST.out SZ.out MF.out.1 MF.out.2 (HP.out.below H4.out) (HV.out.below H4.out) (HR.out.below H4.out) (HM.out.below H4.out)).mono ?_
      rintro e w5 ⟨A5, c5, rfl, hc5, h5⟩
      have HB5 := Lib.hid (HB4.out.below h5)
      have HC5 := Lib.hid (HC4.out.keep h5)
      have HD5 := Lib.hid (HD4.out.keep h5)
      have HE5 := Lib.hid hc5
      have H5 := Lib.hid (bthen H4.out h5)
      clear hc5 h5
      have hbb : ((bl : Int) != (bl : Int)) = false := bne_self_eq_false _
      have hL0 := HL.out
      rw [hL0]
      go_wp2_with fail
      refine (same_any HD5.out HC5.out HL.out hn).mono ?_
      rintro e w6 ⟨rfl, h6⟩
      have HB6 := Lib.hid (HB5.out.below h6)
      have HC6 := Lib.hid (HC5.out.keep h6)
      have HE6 := Lib.hid (HE5.out.keep h6)
      have H6 := Lib.hid (bthen H5.out h6)
      clear h6
      go_wp2_with fail
      refine (same_any HE6.out HC6.out HL.out hn).mono ?_
      rintro e w7 ⟨rfl, h7⟩
      have HB7 := Lib.hid (HB6.out.below h7)
      have H7 := Lib.hid (bthen H6.out h7)
      clear h7
      have BL := Lib.hid (show bl ≤ 1048576 from LB.out)
      by_cases h500 : 500 < bl
      · have hb5 : decide ((500 : Int) < (bl : Int)) = true := decide_eq_true (by omega)
        clear h500
        go_wp2_with fail
        go_loopw [12] (fun i wr => ∃ k : Nat, i = .int .i64 k ∧ k ≤ bl + 50 ∧ Hid (BS wr B bl bc (bytesS cs)) ∧ Below w.heap.size w wr) (fun i _ => bl - (intOf i).toNat)
        case atStart => exact ⟨0, rfl, by omega, HB7, H7.out⟩
        case round =>
          obtain ⟨k, rfl, hk, hbs, hw⟩ := hrel
          have HW := Lib.hid hw
          clear hw
          have hbl := BL.out
          by_cases hlt : k < bl
          · obtain ⟨b0, o0, hB, _, _⟩ := hbs.out.bytes (by omega)
            subst hB
            have p0 : (0 : Int) ≤ (k : Int) := by omega
            have p1 : (k : Int) ≤ (bc : Int) := by have := hbs.out.cap; omega
            have hkk : ((k : Int) != (k : Int)) = false := bne_self_eq_false _
            go_wp2_with fail
            refine (short_any hbs.out hlt MF.out.1 MF.out.2).mono ?_
            rintro e w8 ⟨v8, rfl, h8⟩
            have HS8 := Lib.hid (hbs.out.below h8)
            have HW8 := Lib.hid (bthen HW.out h8)
            clear h8
            go_wp2_with fail
            go_roundw
            case rel => exact ⟨k + 50, by go_num, by omega, HS8, HW8.out⟩
            case measure => simp [intOf]; omega
          · go_wp2_with fail
            go_ret
            exact ⟨rfl, HW.out⟩
      · have hb5 : decide ((500 : Int) < (bl : Int)) = false := decide_eq_false (by omega)
        clear h500
        go_wp2_with fail
        go_loopw [12] (fun i wr => ∃ k : Nat, i = .int .i64 k ∧ k ≤ bl + 50 ∧ Hid (BS wr B bl bc (bytesS cs)) ∧ Below w.heap.size w wr) (fun i _ => bl - (intOf i).toNat)
        case atStart => exact ⟨0, rfl, by omega, HB7, H7.out⟩
        case round =>
          obtain ⟨k, rfl, hk, hbs, hw⟩ := hrel
          have HW := Lib.hid hw
          clear hw
          have hbl := BL.out
          by_cases hlt : k < bl
          · obtain ⟨b0, o0, hB, _, _⟩ := hbs.out.bytes (by omega)
            subst hB
            have p0 : (0 : Int) ≤ (k : Int) := by omega
            have p1 : (k : Int) ≤ (bc : Int) := by have := hbs.out.cap; omega
            have hkk : ((k : Int) != (k : Int)) = false := bne_self_eq_false _
            go_wp2_with fail
            refine (short_any hbs.out hlt MF.out.1 MF.out.2).mono ?_
            rintro e w8 ⟨v8, rfl, h8⟩
            have HS8 := Lib.hid (hbs.out.below h8)
            have HW8 := Lib.hid (bthen HW.out h8)
            clear h8
            go_wp2_with fail
            go_roundw
            case rel => exact ⟨k + 1, by go_num, by omega, HS8, HW8.out⟩
            case measure => simp [intOf]; omega
          · go_wp2_with fail
            go_ret
            exact ⟨rfl, HW.out⟩
    · have hm3 := may_small (by have := N4.out; rw [HL.out]; exact this) hmay
      have ho := HO3.out
      rw [if_neg hmay] at ho
      obtain ⟨B, bc, rfl, hbs⟩ := own_bs ho (by simp)
      have SE : sp (listV cs) = ⟨#[]⟩ := by unfold listV; rw [if_neg hmay]; rfl
      have hm1 : (mayS cs != mayS cs) = false := bne_self_eq_false _
      clear ho hbs hmay HO3
      rw [SE, hm3]
      go_wp2_with fail
      go_ret
      exact ⟨rfl, H3.out⟩
end Go.Proofs.YtefijgdbnjmifaaGreatDoor

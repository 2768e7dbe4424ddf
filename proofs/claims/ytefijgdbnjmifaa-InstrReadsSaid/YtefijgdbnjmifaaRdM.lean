/- The reference's reading of code, and the comparison of code, walked. The statement InstrReads, walked. -/
import Derived.Test.YtefijgdbnjmifaaRdL
import Derived.Test.YtefijgdbnjmifaaRdH
import Derived.Laws.StructEq
import Derived.Deep.QuietTactic
import Derived.BigQuiet
import Derived.Test.YtefijgdbnjmifaaLookG
namespace Go.Proofs.Ytefijgdbnjmifaa
open Go.RowKit

set_option maxRecDepth 100000 in
set_option maxHeartbeats 1000000 in
theorem rread_any {w : World} {A : Option Addr} {n cc : Nat} {l : List UInt8} (h : BS w A n cc l) :
    Calls Try.prog 16 #[.slice A n cc] w (CPost14 l w) := by
  have HI := Lib.hid infoIns
  have H := Lib.hid h
  have LE := Lib.hid h.len
  have hsm := h.small
  clear h
  have PO := Lib.hid (@num_pos l)
  have hlt64 := num_lt l
  have D0 := Lib.hid (show l.drop 0 = l from rfl)
  go_enter Try.func16, Try.ntmps16
  go_wp2_with fail
  refine (ruint_z H.out 0 (by omega) (by rfl)).mono ?_
  rw [D0.out, Nat.zero_add]
  rintro e w1 ⟨rfl, hb⟩
  have HB := Lib.hid hb
  by_cases he : (numS l).2.2 = 0
  · have he1 : ((numS l).2.2 != 0) = false := by rw [he]; rfl
    have HE := Lib.hid he
    clear he hb
    by_cases hl : 8192 < (numS l).1
    · have R := Lib.hid (read_long HE.out hl)
      go_wp2_with fail
      go_ret3
      exact cpost_none R.out rfl HB.out
    · have M := Lib.hid (Mid.start HE.out hl)
      have hN : (numS l).1 ≤ 8192 := by omega
      have P0 := Lib.hid (show (numS l).2.1 ≤ n by rw [← LE.out]; exact PO.out)
      obtain ⟨i0, hi, hz0, hz1, hz2⟩ := info_parts HI.out
      have HI0 := Lib.hid hi
      have HZ0 := Lib.hid hz0
      have HZ1 := Lib.hid hz1
      have HZ2 := Lib.hid hz2
      clear hi hz0 hz1 hz2 hlt64 hl
      go_wp2_with fail
      go_loopw [9, 6, 8] (fun i t v wr => ∃ (k p : Nat) (c : List InsV), i = .int .i64 k ∧ t = .int .i64 p ∧ k ≤ (numS l).1 ∧ p ≤ n ∧ Mid l k p c ∧ wr.ownsRow w.heap.size 36 4 v k (codeCells c) ∧ Below w.heap.size w wr) (fun i _ _ _ => (numS l).1 - (intOf i).toNat)
      case atStart => exact ⟨0, (numS l).2.1, [], rfl, rfl, Nat.zero_le _, P0.out, M.out, ⟨rfl, .inl ⟨rfl, rfl⟩⟩, HB.out⟩
      case round =>
        obtain ⟨k, p, c, rfl, rfl, hk, hp, hm, hown, hb⟩ := hrel
        have HM := Lib.hid hm
        have HO := Lib.hid hown
        have HB2 := Lib.hid hb
        clear hm hown
        by_cases hlt : k < (numS l).1
        · go_wp2_with fail
          have HBS := Lib.hid (H.out.below HB2.out)
          refine (rone_any HBS.out p hp (numS l).1 hN).mono ?_
          rintro e w2 ⟨x, hev, hb2, hx⟩
          rw [show x.val = (.agg #[.int .u8 (x.op : Int), .int .i64 x.a, .int .i64 x.int, .string x.text] : Value) from rfl] at hev
          subst hev
          have HX := Lib.hid hx
          have HB3 := Lib.hid (show Below w.heap.size w w2 from (HB2.out.trans (hb2.mono HB2.out.size)))
          have OP := Lib.hid (show p + (oneS (l.drop p) (numS l).1).2.1 ≤ n by have := @one_pos (l.drop p) (numS l).1; rw [List.length_drop, LE.out] at this; omega)
          have BW := hb2
          have hsw := HB3.out.size
          have hsr := HB2.out.size
          have hsb := hb2.size
          have HB3b := HB3.out
          clear hb2 hx hb
          by_cases he : (oneS (l.drop p) (numS l).1).2.2 = 0
          · have he2 : ((oneS (l.drop p) (numS l).1).2.2 != 0) = false := by rw [he]; rfl
            have HM2 := Lib.hid (HM.out.more hlt he)
            have HXE := Lib.hid (HX.out he)
            clear he
            go_wp2_with (at_builtin; refine wpList_append_own _ rfl _ _ 22 rfl w.heap.size 36 i0 (.agg #[.int .u8 0, .int .i64 0, .int .i64 0, .string ⟨#[]⟩]) 4 40 Try.underlying22 HI0.out HZ0.out HZ1.out HZ2.out rfl (by decide) _ k (codeCells c) rfl ?own ⟨w2.heap.size + 1, 0, none⟩ 1 1 x.cells rfl rfl ?c1 ?c2 ?c3 ?c4 ?c5 ?_)
            case own => exact own_below HO.out (by go_grown)
            case c1 => exact cell_four_new _ _ _ _ _ _ _ (by first | rfl | simp)
            case c2 => intro u hu; simp [InsV.cells] at hu; rcases hu with rfl | rfl | rfl | rfl <;> rfl
            case c3 => unfold maxLen; omega
            case c4 => omega
            case c5 => have := HB3.out.size; simp; omega
            intro v' w3 hown' hgrow _
            have HBW := Lib.hid (show Below w.heap.size w w3 from Below.grown (by go_grown) hgrow (by have := HB3.out.size; simp; omega) (fun q e => own_base HO.out e))
            go_wp2_with fail
            go_roundw
            case rel => exact ⟨k + 1, p + (oneS (l.drop p) (numS l).1).2.1, c ++ [x], by go_num, by go_num, by omega, OP.out, by rw [HXE.out]; exact HM2.out, by rw [codeCells_snoc]; exact hown', HBW.out⟩
            case measure => simp [intOf]; omega
          · have he2 : ((oneS (l.drop p) (numS l).1).2.2 != 0) = true := bne_iff_ne.2 he
            have R := Lib.hid (HM.out.bad hlt he)
            clear he
            go_wp2_with fail
            go_ret3
            exact cpost_none R.out (by omega) (by go_grown)
        · by_cases hpn : p < n
          · have R := Lib.hid (HM.out.left hlt (by rw [LE.out]; exact hpn))
            go_wp2_with fail
            go_ret3
            exact cpost_none R.out rfl HB2.out
          · have R := Lib.hid (HM.out.done hlt (by rw [LE.out]; exact hpn))
            obtain ⟨A', cc', rfl⟩ := own_slice HO.out
            have KL := Lib.hid HM.out.len
            go_wp2_with fail
            go_ret3
            exact cpost_some R.out KL.out (own_code HO.out KL.out) HB2.out
  · have he1 : ((numS l).2.2 != 0) = true := bne_iff_ne.2 he
    have R := Lib.hid (read_bad he)
    clear he hb
    go_wp2_with fail
    go_ret3
    exact cpost_none R.out rfl HB.out
theorem ins_same (w : World) (op a int : Int) (text : ByteArray) :
    (binOp .neq 36 (.agg #[.int .u8 op, .int .i64 a, .int .i64 int, .string text]) (.agg #[.int .u8 op, .int .i64 a, .int .i64 int, .string text])).run Try.prog w = .ok (.bool false) w := by
  simp [go_sem]
set_option maxRecDepth 100000 in
set_option maxHeartbeats 1000000 in
theorem same_any {w : World} {A B : Option Addr} {n cc dc : Nat} {c : List InsV} (ha : CodeIn w A c) (hb : CodeIn w B c) (hl : c.length = n) (hn : n ≤ 9223372036854775807) :
    Calls Try.prog 17 #[.slice A n cc, .slice B n dc] w (RetB (.bool true) w) := by
  have heq : ((n : Int) != (n : Int)) = false := by simp
  have HA := Lib.hid ha
  have HB := Lib.hid hb
  have HL := Lib.hid hl
  have HS := Lib.hid ins_same
  clear ha hb hl
  go_enter Try.func17, Try.ntmps17
  go_wp2_with fail
  go_loopw [5] (fun i wr => ∃ (k q : Nat), i = .int .i64 k ∧ k ≤ n ∧ wr = w.drewN q) (fun i _ => n - (intOf i).toNat)
  case atStart => exact ⟨0, 0, rfl, Nat.zero_le _, rfl⟩
  case round =>
    obtain ⟨k, q, rfl, hk, rfl⟩ := hrel
    by_cases hlt : k < n
    · obtain ⟨b1, o1, rfl, hb1, hc1⟩ := HA.out (by rw [HL.out]; omega)
      obtain ⟨b2, o2, rfl, hb2, hc2⟩ := HB.out (by rw [HL.out]; omega)
      obtain ⟨c0, c1, c2, c3⟩ := hc1 k (by rw [HL.out]; exact hlt)
      obtain ⟨d0, d1, d2, d3⟩ := hc2 k (by rw [HL.out]; exact hlt)
      have hS := HS.out
      clear hc1 hc2
      generalize atV c k = x at *
      have p0 : (0 : Int) ≤ (k : Int) := by omega
      have p1 : (k : Int) < (n : Int) := by omega
      go_wp2_with fail
      go_quiet (fail)
      go_wp2_with fail
      go_roundw
      case rel => exact ⟨k + 1, _, by go_num, by omega, rfl⟩
      case measure => simp [intOf]; omega
    · go_wp2_with fail
      go_ret
      exact ⟨rfl, below_drewN (Below.refl _ _) q⟩
end Go.Proofs.Ytefijgdbnjmifaa
namespace Go.Proofs.Ytefijgdbnjmifaa
open Go.RowKit

theorem readGo_len (l : List UInt8) (n : Int) : ∀ (k p : Nat) (c : List InsV), (readGo l n k p c).1.length ≤ c.length + k := by
  intro k
  induction k with
  | zero =>
    intro p c
    by_cases h : p < l.length
    · rw [readGo_left h]; exact Nat.zero_le _
    · rw [readGo_end h]; exact Nat.le_refl _
  | succ k ih =>
    intro p c
    by_cases h : (oneS (l.drop p) n).2.2 = 0
    · rw [readGo_more h]
      have := ih (p + (oneS (l.drop p) n).2.1) (c ++ [(oneS (l.drop p) n).1])
      rw [List.length_append] at this
      simp only [List.length_cons, List.length_nil] at this
      omega
    · rw [readGo_bad h]; exact Nat.zero_le _
theorem read_len (l : List UInt8) : (readS l).1.length ≤ 8192 := by
  by_cases h : (numS l).2.2 = 0
  · by_cases h1 : 8192 < (numS l).1
    · rw [read_long h h1]; exact Nat.zero_le _
    · rw [read_go h h1]
      have := readGo_len l (numS l).1 (numS l).1 (numS l).2.1 []
      simp only [List.length_nil] at this
      omega
  · rw [read_bad h]; exact Nat.zero_le _
set_option maxRecDepth 100000 in
set_option maxHeartbeats 1000000 in
theorem reads_law (l : List UInt8) (A : Option Addr) (n cc : Nat) (w : World) (hl : l.length = n) (hs : Sl w 1 A n (fun j => .int .u8 (byt l j : Int))) (hc : n ≤ cc) (hcb : cc ≤ 9223372036854775807) (hnil : A = none → cc = 0) :
    Calls Try.prog 5 #[.slice A n cc] w (RetB (.bool true) w) := by
  have HL := Lib.hid hl
  have HS := Lib.hid hs
  have HN := Lib.hid hnil
  clear hl hs hnil
  go_enter Try.func5, Try.ntmps5
  go_wp2_with fail
  refine (awake_any _).mono ?_
  rintro e w1 ⟨rfl, h1⟩
  by_cases hn : 20000 < n
  · have hnb : decide ((20000 : Int) < (n : Int)) = true := decide_eq_true (by omega)
    go_wp2_with fail
    go_ret
    exact ⟨rfl, h1⟩
  · have hnb : decide ((20000 : Int) < (n : Int)) = false := decide_eq_false (by omega)
    have B1 := Lib.hid (show BS w1 A n cc l from ⟨HL.out, HS.out.keep h1, hc, hcb, HN.out, by omega⟩)
    clear hc hcb hn
    go_wp2_with fail
    refine (read_any B1.out).mono ?_
    rintro e w2 ⟨A2, c2, rfl, hc2, h2⟩
    have B2 := Lib.hid (B1.out.below h2)
    have HC2 := Lib.hid hc2
    clear hc2
    go_wp2_with fail
    refine (rread_any B2.out).mono ?_
    rintro e w3 ⟨A3, c3, rfl, hc3, h3⟩
    have HC3 := Lib.hid hc3
    have HC2b := Lib.hid (HC2.out.keep h3)
    have H123 := Lib.hid (bthen h1 (bthen h2 h3))
    have HLN := Lib.hid (show (readS l).1.length ≤ 9223372036854775807 from by have := read_len l; omega)
    clear hc3 h1 h2 h3 hnb
    generalize (readS l).1 = c at *
    generalize (readS l).2.1 = p at *
    generalize (readS l).2.2 = er at *
    go_wp2_with fail
    refine (same_any HC2b.out HC3.out rfl HLN.out).mono ?_
    rintro e w4 ⟨rfl, h4⟩
    have H1234 := Lib.hid (bthen H123.out h4)
    clear h4
    have hpp : ((p : Int) == (p : Int)) = true := beq_self_eq_true _
    have hee : (er == er) = true := beq_self_eq_true _
    go_wp2_with fail
    go_ret
    exact ⟨rfl, H1234.out⟩
end Go.Proofs.Ytefijgdbnjmifaa

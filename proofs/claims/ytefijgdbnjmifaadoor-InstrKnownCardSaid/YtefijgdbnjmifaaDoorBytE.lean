/- The bytes of code, the program's, walked. Printed by a program. -/
import Derived.Test.YtefijgdbnjmifaaDoorBytC
import Derived.Deep.DeepCutAuto
namespace Go.Proofs.YtefijgdbnjmifaaDoor
open Go.RowKit

theorem bkind_agg (op : Nat) (h : op < 256) (w : World) : Calls Tryd.prog 19 #[.int .u8 (op : Int)] w (RetB (.agg #[.string (wordK op), .int .u8 (aB op), .bool (numK op), .int .u8 (tB op), .int .i64 (takesK op), .int .i64 (leaveK op), .bool (manyK op), .bool (endsK op)]) w) := kind_any op h w

/-- What telling code's bytes comes to. -/
def ByPost (c : List InsV) (w : World) (e : Ending) (w' : World) : Prop :=
  ∃ v, e = .returned (.tuple #[v, .int .i64 (mayS c)]) ∧ OwnBy w' w.heap.size v (if mayS c = 0 then bytesS c else []) ∧ Below w.heap.size w w'
theorem by_bad {c : List InsV} {w w' : World} (h : ¬ mayS c = 0) (hb : Below w.heap.size w w') {z : Int} (hz : mayS c = z) : ByPost c w (.returned (.tuple #[.slice none 0 0, .int .i64 z])) w' := by
  subst hz
  exact ⟨_, rfl, by rw [if_neg h]; exact OwnBy.nil _ _, hb⟩
theorem by_good {c : List InsV} {w w' : World} {v : Value} (h : mayS c = 0) (ho : OwnBy w' w.heap.size v (bytesS c)) (hb : Below w.heap.size w w') : ByPost c w (.returned (.tuple #[v, .int .i64 0])) w' :=
  ⟨v, by rw [h], by rw [if_pos h]; exact ho, hb⟩
set_option maxRecDepth 100000 in
set_option maxHeartbeats 4000000 in
theorem bytes_any {w : World} {A : Option Addr} {n cc : Nat} {cs : List InsV} (hcode : CodeIn w A cs) (hl : cs.length = n) (hok : OkC cs) (hoi : OkI cs) (hn : n ≤ 9223372036854775807) (ht : n ≤ 8192 → textsTo cs n ≤ 1048576) :
    Calls Tryd.prog 8 #[.slice A n cc] w (ByPost cs w) := by
  obtain ⟨i0, hi, hz0, hz1, hz2⟩ := info_parts infoB
  have HI0 := Lib.hid hi
  have HZ0 := Lib.hid hz0
  have HZ1 := Lib.hid hz1
  have HZ2 := Lib.hid hz2
  have HC := Lib.hid hcode
  have HL := Lib.hid hl
  have HO := Lib.hid hok
  have HOI := Lib.hid hoi
  have HT := Lib.hid ht
  clear hi hz0 hz1 hz2 hcode hl hok hoi ht
  go_enter Tryd.func8, Tryd.ntmps8
  go_wp2_with fail
  refine (all_may HC.out HL.out HO.out hn).mono ?_
  rintro e w1 ⟨rfl, hb1⟩
  have HB1 := Lib.hid hb1
  clear hb1
  by_cases hm : mayS cs = 0
  · have hmb : (mayS cs != 0) = false := by rw [hm]; rfl
    obtain ⟨hl8, hri⟩ := may_ok hm
    have HM := Lib.hid hm
    have HRI := Lib.hid hri
    have hn8 : n ≤ 8192 := by have := HL.out; omega
    have HTT := Lib.hid (HT.out hn8)
    clear hm hri hl8
    go_wp2_with fail
    refine (putu_any n (by omega) _).mono ?_
    rintro e w2 ⟨v0, rfl, ho0, hb2⟩
    have HO0 := Lib.hid (show OwnBy w2 w.heap.size v0 (bytesTo cs 0) by rw [bytesTo_zero, HL.out]; exact own_base_le ho0 HB1.out.size)
    have HB2 := Lib.hid (bthen HB1.out hb2)
    clear ho0 hb2 hmb
    go_wp2_with fail
    go_loopw [20, 5] (fun i v wr => ∃ k : Nat, i = .int .i64 k ∧ k ≤ n ∧ OwnBy wr w.heap.size v (bytesTo cs k) ∧ Below w.heap.size w wr) (fun i _ _ => n - (intOf i).toNat)
    case atStart => exact ⟨0, rfl, Nat.zero_le _, HO0.out, HB2.out⟩
    case round =>
      obtain ⟨k, rfl, hk, hov, hbw⟩ := hrel
      have HV := Lib.hid hov
      have HB := Lib.hid hbw
      clear hov
      by_cases hlt : k < n
      · obtain ⟨b, off, rfl, hbl, hcell⟩ := HC.out (by rw [HL.out]; omega)
        obtain ⟨q0, q1, q2, q3⟩ := hcell k (by rw [HL.out]; omega)
        have hkk := fun o => hbw.cell (p := ⟨b, o, none⟩) hbl
        have q0 := (hkk _).trans q0
        have q1 := (hkk _).trans q1
        have q2 := (hkk _).trans q2
        have q3 := (hkk _).trans q3
        obtain ⟨ok1, ok2⟩ := HO.out k (by rw [HL.out]; omega)
        obtain ⟨oi1, oi2⟩ := HOI.out k (by rw [HL.out]; omega)
        have RN := right_nn (HRI.out k (by rw [HL.out]; omega)) (by have := HL.out; omega)
        have LN := Lib.hid (bytesTo_len HRI.out (by have := HL.out; omega) HO.out HOI.out (k + 1) (by rw [HL.out]; omega))
        have LT := Lib.hid (show textsTo cs (k + 1) ≤ 1048576 from Nat.le_trans (textsTo_mono cs (show k + 1 ≤ n by omega)) HTT.out)
        have ST := Lib.hid (bytesTo_succ cs k (by rw [HL.out]; omega))
        have hsz := hbw.size
        clear hkk hcell hbw
        generalize bytesTo cs k = b0 at *
        generalize atV cs k = x at *
        obtain ⟨op, a, int, text⟩ := x
        simp only at q0 q1 q2 q3 ok1 ok2 oi1 oi2
        have ha0 : 0 ≤ a := RN.1
        have ha8 : a ≤ 8192 := RN.2
        have SL := Lib.hid (show b0.length + 1 + (aBy op a).length + (iBy op int).length + (tBy op text).length ≤ 1302538 by
          have h1 := LN.out
          rw [ST.out] at h1
          simp only [insB, List.length_append, List.length_cons] at h1
          have := LT.out
          omega)
        have OB := Lib.hid (op_byte ok1)
        clear LN LT RN
        go_wp2_with fail
        refine (bkind_agg op ok1 _).mono ?_
        rintro e w3 ⟨rfl, hb3⟩
        have hz3 := hb3.size
        simp only [World.size_alloc] at hz3
        have y0 := (hb3.cell (p := ⟨wr.heap.size, 0, none⟩) (by simp)).trans (cells_of (alloc_new wr _) 0)
        simp at y0
        have hz4 : wr.heap.size < w3.heap.size := by omega
        have R0 : Rd w (w3.alloc (.cells #[.string (wordK op), .int .u8 (aB op), .bool (numK op), .int .u8 (tB op), .int .i64 (takesK op), .int .i64 (leaveK op), .bool (manyK op), .bool (endsK op)] 46)) wr.heap.size w3.heap.size ⟨op, a, int, text⟩ (#[.string (wordK op), .int .u8 (aB op), .bool (numK op), .int .u8 (tB op), .int .i64 (takesK op), .int .i64 (leaveK op), .bool (manyK op), .bool (endsK op)]) 46 u5 b0 := by
          have hx0 : (wr.alloc (.cells #[.int .u8 (op : Int), .int .i64 a, .int .i64 int, .string text] 36)).heap[wr.heap.size]? = some (.cells #[.int .u8 (op : Int), .int .i64 a, .int .i64 int, .string text] 36 (0, 0)) := alloc_new _ _
          have hB : Below wr.heap.size wr w3 := bthen' ((Below.refl _ wr).alloc (Nat.le_refl _) _) hb3 (Nat.le_refl _)
          have hk0 : (w3.alloc (.cells #[.string (wordK op), .int .u8 (aB op), .bool (numK op), .int .u8 (tB op), .int .i64 (takesK op), .int .i64 (leaveK op), .bool (manyK op), .bool (endsK op)] 46)).heap[w3.heap.size]? = some (.cells #[.string (wordK op), .int .u8 (aB op), .bool (numK op), .int .u8 (tB op), .int .i64 (takesK op), .int .i64 (leaveK op), .bool (manyK op), .bool (endsK op)] 46 (0, 0)) := alloc_new _ _
          have hx1 := (Below.heap_alloc w3 (.cells #[.string (wordK op), .int .u8 (aB op), .bool (numK op), .int .u8 (tB op), .int .i64 (takesK op), .int .i64 (leaveK op), .bool (manyK op), .bool (endsK op)] 46) wr.heap.size (by omega)).trans ((hb3.block wr.heap.size (by simp)).trans hx0)
          exact ⟨((HB.out.trans (hB.mono hsz)).alloc (by omega) _), (HV.out.keep hB).alloc _, hx1, hk0⟩
        have HR0 := Lib.hid R0
        have zk := HR0.out.klt
        clear R0 hb3 q0 q1 q2 q3
        go_wp2_with (at_builtin; refine wpList_append_own _ rfl _ _ 25 rfl w.heap.size 5 i0 (.int .u8 0) 1 1 Tryd.underlying25 HI0.out HZ0.out HZ1.out HZ2.out rfl (by decide) _ b0.length (b0.map byteV) rfl ?own ⟨w3.heap.size + 1, 0, none⟩ 1 1 [.int .u8 (op : Int)] rfl ?hl ?c1 ?c2 ?c3 ?c4 ?c5 ?_)
        case own => exact own_below HR0.out.own (by go_grown)
        case hl => rfl
        case c1 => exact cell_byte_new _ _ _ _ (by first | rfl | simp)
        case c2 => intro u hu; simp at hu; subst hu; rfl
        case c3 => unfold maxLen; have := SL.out; omega
        case c4 => have := SL.out; omega
        case c5 => simp; omega
        intro v1 w4 hown1 hgrow1 _
        have HR1 := Lib.hid (HR0.out.put (by decide) (by go_grown) hgrow1 (OwnBy.snoc OB.out hown1))
        clear hown1 hgrow1 HR0 zk
        generalize w3.heap.size = kb at *
        generalize wr.heap.size = xb at *
        clear y0 hz4
        have c0 := cells_of HR1.out.hx 0
        have c1 := cells_of HR1.out.hx 1
        have c2 := cells_of HR1.out.hx 2
        have c3 := cells_of HR1.out.hx 3
        have e1 := cells_of HR1.out.hk 1
        have e2 := cells_of HR1.out.hk 2
        have e3 := cells_of HR1.out.hk 3
        simp only [List.getElem?_toArray, List.getElem?_cons_zero, List.getElem?_cons_succ] at c0 c1 c2 c3 e1 e2 e3
        go_upto_if 34 with fail
        go_cut [5] (fun s5 wx => Rd w wx xb kb ⟨op, a, int, text⟩ (#[.string (wordK op), .int .u8 (aB op), .bool (numK op), .int .u8 (tB op), .int .i64 (takesK op), .int .i64 (leaveK op), .bool (manyK op), .bool (endsK op)]) 46 s5 (b0 ++ [UInt8.ofNat op] ++ aBy op a))
        case first =>
          by_cases hA : aK op = 0
          · have hAb : (aB op != 0) = false := by rw [aB_ne]; simp [hA]
            have E := Lib.hid (aBy_no (a := a) hA)
            clear hA
            go_wp2_with fail
            go_meet
            exact by rw [E.out, List.append_nil]; exact HR1.out
          · have hAb : (aB op != 0) = true := by rw [aB_ne]; simp [hA]
            have E := Lib.hid (aBy_is (a := a) hA)
            clear hA
            go_wp2_with fail
            refine (putu_z a.toNat (by omega) (by omega) _).mono ?_
            rintro e w5 ⟨v2, rfl, ho2, hb5⟩
            obtain ⟨g2, cap2, rfl, hsrc⟩ := ho2.src (uintB_pos _)
            have HR2 := Lib.hid (HR1.out.below hb5)
            have HS := Lib.hid hsrc
            have hz5 := HR2.out.low.size
            clear ho2 hb5 hsrc c0 c1 c2 c3 e1 e2 e3
            rw [E.out] at SL
            go_wp2_with (at_builtin; refine wpList_append_own _ rfl _ _ 25 rfl w.heap.size 5 i0 (.int .u8 0) 1 1 Tryd.underlying25 HI0.out HZ0.out HZ1.out HZ2.out rfl (by decide) _ (b0 ++ [UInt8.ofNat op]).length ((b0 ++ [UInt8.ofNat op]).map byteV) rfl ?own ⟨g2, 0, none⟩ (uintB a.toNat).length cap2 ((uintB a.toNat).map byteV) rfl ?hl ?c1 ?c2 ?c3 ?c4 ?c5 ?_)
            case own => exact HR2.out.own
            case hl => simp
            case c1 => exact HS.out
            case c2 => exact one_cells _
            case c3 => unfold maxLen; have := SL.out; simp; omega
            case c4 => have := SL.out; simp; omega
            case c5 => exact hz5
            intro v3 w6 hown3 hgrow3 _
            have HR3 := Lib.hid (HR2.out.put (by decide) (Below.refl _ _) hgrow3 (OwnBy.of (bs := b0 ++ [UInt8.ofNat op] ++ uintB a.toNat) hown3 (by simp; try omega) (by simp)))
            clear hown3 hgrow3
            go_wp2_with fail
            go_meet
            exact by rw [E.out]; exact HR3.out
        case rest =>
          have HRA := Lib.hid hcut
          clear hcut HR1 c0 c1 c2 c3 e1 e2 e3
          have c0 := cells_of HRA.out.hx 0
          have c1 := cells_of HRA.out.hx 1
          have c2 := cells_of HRA.out.hx 2
          have c3 := cells_of HRA.out.hx 3
          have e1 := cells_of HRA.out.hk 1
          have e2 := cells_of HRA.out.hk 2
          have e3 := cells_of HRA.out.hk 3
          simp only [List.getElem?_toArray, List.getElem?_cons_zero, List.getElem?_cons_succ] at c0 c1 c2 c3 e1 e2 e3
          go_upto_if 42 with fail
          go_cut [5] (fun s5 wx => Rd w wx xb kb ⟨op, a, int, text⟩ (#[.string (wordK op), .int .u8 (aB op), .bool (numK op), .int .u8 (tB op), .int .i64 (takesK op), .int .i64 (leaveK op), .bool (manyK op), .bool (endsK op)]) 46 s5 (b0 ++ [UInt8.ofNat op] ++ aBy op a ++ iBy op int))
          case first =>
            cases hI : numK op with
            | false =>
              have E := Lib.hid (iBy_no (x := int) hI)
              rw [hI] at e2
              clear hI
              go_wp2_with fail
              go_meet
              exact by rw [E.out, List.append_nil]; exact HRA.out
            | true =>
              have E := Lib.hid (iBy_is (x := int) hI)
              rw [hI] at e2
              clear hI
              go_wp2_with fail
              refine (puti_any int oi1 oi2 _).mono ?_
              rintro e w5 ⟨v2, rfl, ho2, hb5⟩
              obtain ⟨g2, cap2, rfl, hsrc⟩ := ho2.src (uintB_pos _)
              have HR2 := Lib.hid (HRA.out.below hb5)
              have HS := Lib.hid hsrc
              have hz5 := HR2.out.low.size
              clear ho2 hb5 hsrc c0 c1 c2 c3 e1 e2 e3
              rw [E.out] at SL
              go_wp2_with (at_builtin; refine wpList_append_own _ rfl _ _ 25 rfl w.heap.size 5 i0 (.int .u8 0) 1 1 Tryd.underlying25 HI0.out HZ0.out HZ1.out HZ2.out rfl (by decide) _ (b0 ++ [UInt8.ofNat op] ++ aBy op a).length ((b0 ++ [UInt8.ofNat op] ++ aBy op a).map byteV) rfl ?own ⟨g2, 0, none⟩ (uintB (zigN int)).length cap2 ((uintB (zigN int)).map byteV) rfl ?hl ?c1 ?c2 ?c3 ?c4 ?c5 ?_)
              case own => exact HR2.out.own
              case hl => simp
              case c1 => exact HS.out
              case c2 => exact one_cells _
              case c3 => unfold maxLen; have := SL.out; simp; omega
              case c4 => have := SL.out; simp; omega
              case c5 => exact hz5
              intro v3 w6 hown3 hgrow3 _
              have HR3 := Lib.hid (HR2.out.put (by decide) (Below.refl _ _) hgrow3 (OwnBy.of (bs := b0 ++ [UInt8.ofNat op] ++ aBy op a ++ uintB (zigN int)) hown3 (by simp; try omega) (by simp)))
              clear hown3 hgrow3
              go_wp2_with fail
              go_meet
              exact by rw [E.out]; exact HR3.out
          case rest =>
            have HRI2 := Lib.hid hcut
            clear hcut HRA c0 c1 c2 c3 e1 e2 e3
            have c0 := cells_of HRI2.out.hx 0
            have c1 := cells_of HRI2.out.hx 1
            have c2 := cells_of HRI2.out.hx 2
            have c3 := cells_of HRI2.out.hx 3
            have e1 := cells_of HRI2.out.hk 1
            have e2 := cells_of HRI2.out.hk 2
            have e3 := cells_of HRI2.out.hk 3
            simp only [List.getElem?_toArray, List.getElem?_cons_zero, List.getElem?_cons_succ] at c0 c1 c2 c3 e1 e2 e3
            go_upto_if 50 with fail
            by_cases hT : textK op = 0
            · have hTb : (tB op != 0) = false := by rw [tB_ne]; simp [hT]
              have E := Lib.hid (tBy_no (t := text) hT)
              clear hT
              have HRT := Lib.hid (show Rd w _ xb kb ⟨op, a, int, text⟩ (#[.string (wordK op), .int .u8 (aB op), .bool (numK op), .int .u8 (tB op), .int .i64 (takesK op), .int .i64 (leaveK op), .bool (manyK op), .bool (endsK op)]) 46 _ (b0 ++ [UInt8.ofNat op] ++ aBy op a ++ iBy op int ++ tBy op text) from (by rw [E.out, List.append_nil]; exact HRI2.out))
              go_wp2_with fail
              go_roundw
              case rel => exact ⟨k + 1, by go_num, by omega, by rw [ST.out]; show OwnBy _ _ _ (b0 ++ (UInt8.ofNat op :: (aBy op a ++ iBy op int ++ tBy op text))); rw [show b0 ++ (UInt8.ofNat op :: (aBy op a ++ iBy op int ++ tBy op text)) = b0 ++ [UInt8.ofNat op] ++ aBy op a ++ iBy op int ++ tBy op text by simp]; exact HRT.out.own, HRT.out.low⟩
              case measure => simp [intOf]; omega
            · have hTb : (tB op != 0) = true := by rw [tB_ne]; simp [hT]
              have E := Lib.hid (tBy_is (t := text) hT)
              have hts : text.size ≤ 1302538 := by have := SL.out; rw [E.out, List.length_append] at this; have e : text.data.toList.length = text.size := by simp
                                                   omega
              clear hT
              go_wp2_with fail
              refine (putt_any text (by omega) _).mono ?_
              rintro e w5 ⟨v2, rfl, ho2, hb5⟩
              obtain ⟨g2, cap2, rfl, hsrc⟩ := ho2.src (by have := uintB_pos text.size; rw [List.length_append]; omega)
              have HR2 := Lib.hid (HRI2.out.below hb5)
              have HS := Lib.hid hsrc
              have hz5 := HR2.out.low.size
              clear ho2 hb5 hsrc c0 c1 c2 c3 e1 e2 e3
              rw [E.out] at SL
              have EL := Lib.hid (show (uintB text.size ++ text.data.toList).length = (uintB text.size ++ text.data.toList).length from rfl)
              generalize uintB text.size ++ text.data.toList = tb at *
              go_wp2_with (at_builtin; refine wpList_append_own _ rfl _ _ 25 rfl w.heap.size 5 i0 (.int .u8 0) 1 1 Tryd.underlying25 HI0.out HZ0.out HZ1.out HZ2.out rfl (by decide) _ (b0 ++ [UInt8.ofNat op] ++ aBy op a ++ iBy op int).length ((b0 ++ [UInt8.ofNat op] ++ aBy op a ++ iBy op int).map byteV) rfl ?own ⟨g2, 0, none⟩ tb.length cap2 (tb.map byteV) rfl ?hl ?c1 ?c2 ?c3 ?c4 ?c5 ?_)
              case own => exact HR2.out.own
              case hl => simp
              case c1 => exact HS.out
              case c2 => exact one_cells _
              case c3 => unfold maxLen; have := SL.out; simp; omega
              case c4 => have := SL.out; simp; omega
              case c5 => exact hz5
              intro v3 w6 hown3 hgrow3 _
              have HR3 := Lib.hid (HR2.out.put (by decide) (Below.refl _ _) hgrow3 (OwnBy.of (bs := b0 ++ [UInt8.ofNat op] ++ aBy op a ++ iBy op int ++ tb) hown3 (by simp; try omega) (by simp)))
              clear hown3 hgrow3
              have HRT := Lib.hid (show Rd w _ xb kb ⟨op, a, int, text⟩ (#[.string (wordK op), .int .u8 (aB op), .bool (numK op), .int .u8 (tB op), .int .i64 (takesK op), .int .i64 (leaveK op), .bool (manyK op), .bool (endsK op)]) 46 _ (b0 ++ [UInt8.ofNat op] ++ aBy op a ++ iBy op int ++ tBy op text) from (by rw [E.out]; exact HR3.out))
              go_wp2_with fail
              go_roundw
              case rel => exact ⟨k + 1, by go_num, by omega, by rw [ST.out]; show OwnBy _ _ _ (b0 ++ (UInt8.ofNat op :: (aBy op a ++ iBy op int ++ tBy op text))); rw [show b0 ++ (UInt8.ofNat op :: (aBy op a ++ iBy op int ++ tBy op text)) = b0 ++ [UInt8.ofNat op] ++ aBy op a ++ iBy op int ++ tBy op text by simp]; exact HRT.out.own, HRT.out.low⟩
              case measure => simp [intOf]; omega
      · have hkn : k = n := by omega
        have KB := Lib.hid (show OwnBy wr w.heap.size u5 (bytesS cs) by rw [← bytesTo_all, HL.out, ← hkn]; exact HV.out)
        clear hkn
        go_wp2_with fail
        go_ret2
        exact by_good HM.out KB.out HB.out
  · have hmb : (mayS cs != 0) = true := bne_iff_ne.2 hm
    have HM := Lib.hid hm
    clear hm
    go_wp2_with fail
    go_ret2
    exact by_bad HM.out HB1.out rfl
end Go.Proofs.YtefijgdbnjmifaaDoor

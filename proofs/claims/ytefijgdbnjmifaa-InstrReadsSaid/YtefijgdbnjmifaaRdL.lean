/- The reference's reading of one instruction, walked. Printed by a program. -/
import Derived.Test.YtefijgdbnjmifaaRdI
import Derived.Test.YtefijgdbnjmifaaRdG
import Derived.Deep.DeepCutAuto
namespace Go.Proofs.Ytefijgdbnjmifaa
open Go.RowKit

theorem row_agg (op : Nat) (h : op < 256) (w : World) : Calls Try.prog 14 #[.int .u8 (op : Int)] w (RetB (.agg #[.string (wordK op), .int .i64 (aK op), .bool (numK op), .bool (decide (textK op = 1)), .bool (decide (textK op = 2)), .int .i64 (takesK op), .int .i64 (leaveK op)]) w) := row_any op h w
set_option maxRecDepth 100000 in
set_option maxHeartbeats 600000 in
theorem rone_end {w : World} {A : Option Addr} {n cc : Nat} {l : List UInt8} (h : BS w A n cc l) (N : Nat) :
    Calls Try.prog 29 #[.slice A n cc, .int .i64 n, .int .i64 N] w (OPost l n N w) := by
  go_enter Try.func29, Try.ntmps29
  go_wp2_with fail
  exact bodyPost_ret (v := .tuple #[zV.val, .int .i64 n, .int .i64 4]) (by simp [results, Try.results29, go_sem]; rfl) rfl
    ⟨zV, by rw [one_short (by rw [List.length_drop, h.len]; omega)]; rfl, by go_grown, fun _ => by rw [one_short (by rw [List.length_drop, h.len]; omega)]⟩
section
variable {w : World} {A : Option Addr} {n cc : Nat} {l : List UInt8} {z : Int}
theorem ruint_z (h : BS w A n cc l) (p : Nat) (hp : p ≤ n) (hz : z = (p : Int)) :
    Calls Try.prog 28 #[.slice A n cc, .int .i64 z] w (RetB (.tuple #[.int .u64 ((numS (l.drop p)).1 : Int), .int .i64 ((p + (numS (l.drop p)).2.1 : Nat) : Int), .int .i64 (numS (l.drop p)).2.2]) w) := by subst hz; exact ruint_any h p hp
end
theorem fA_no {op : Nat} (h : aK op = 0) (l : List UInt8) : fA op l = (0, 0, 0) := by unfold fA ifS; rw [if_neg (by simp [h])]
theorem fA_is {op : Nat} (h : ¬ aK op = 0) (l : List UInt8) : fA op l = numS l := by unfold fA ifS; rw [if_pos (by simp [h])]
theorem fI_no {op : Nat} (h : numK op = false) (l : List UInt8) : fI op l = (0, 0, 0) := by unfold fI ifS; rw [if_neg (by simp [h])]
theorem fI_is {op : Nat} (h : numK op = true) (l : List UInt8) : fI op l = (zagI (numS l).1, (numS l).2) := by unfold fI ifS; rw [if_pos (by simp [h])]
theorem fT_no {op : Nat} (h : textK op = 0) (l : List UInt8) : fT op l = ([], 0, 0) := by unfold fT ifS; rw [if_neg (by simp [h])]
theorem fT_is {op : Nat} (h : ¬ textK op = 0) (l : List UInt8) : fT op l = textS l := by unfold fT ifS; rw [if_pos (by simp [h])]
theorem great_wrong {l : List UInt8} {p op N : Nat} (hop : byt l p = op) (hN : N ≤ 8192) (h : 1099511627776 < (fA op (l.drop (p + 1))).1) : rightI (xAt l p op).ins N = false := by
  have := @xS_great (l.drop p) N (by omega) (by rw [byt0 hop, List.drop_drop]; exact h)
  rw [xS_at hop] at this
  simpa using this
/-- What stands behind the fields. -/
def CutA (w : World) (k : Nat) (l : List UInt8) (p op : Nat) (s11 s13 : Value) (wx : World) : Prop :=
  s11 = .int .i64 (qA l p op : Int) ∧ s13 = .int .u64 ((fA op (l.drop (p + 1))).1 : Int) ∧ (fA op (l.drop (p + 1))).2.2 = 0 ∧ Q1 w wx k ⟨op, 0, 0, ⟨#[]⟩⟩ op
def CutI (w : World) (k : Nat) (l : List UInt8) (p op : Nat) (s11 : Value) (wx : World) : Prop :=
  s11 = .int .i64 (qI l p op : Int) ∧ (fI op (l.drop (qA l p op))).2.2 = 0 ∧ Q1 w wx k ⟨op, 0, (fI op (l.drop (qA l p op))).1, ⟨#[]⟩⟩ op
def CutT (w : World) (k : Nat) (l : List UInt8) (p op : Nat) (s11 : Value) (wx : World) : Prop :=
  s11 = .int .i64 (qT l p op : Int) ∧ (fT op (l.drop (qI l p op))).2.2 = 0 ∧ Q1 w wx k ⟨op, 0, (fI op (l.drop (qA l p op))).1, strB (fT op (l.drop (qI l p op))).1⟩ op
set_option maxRecDepth 100000 in
set_option maxHeartbeats 4000000 in
theorem rone_in {w : World} {A : Option Addr} {n cc : Nat} {l : List UInt8} (h : BS w A n cc l) (p : Nat) (hp : p < n) (N : Nat) (hN : N ≤ 8192) :
    Calls Try.prog 29 #[.slice A n cc, .int .i64 p, .int .i64 N] w (OPost l p N w) := by
  have hsm := h.small
  have hc8 := byt_lt l p
  have BYT := Lib.hid h.bytes
  obtain ⟨b, off, rfl, hbl, hcell⟩ := BYT.out (by omega)
  have cb : w.cell? ⟨b, off + p, none⟩ = some (.int .u8 (byt l p : Int)) := hcell p (by omega)
  have H := Lib.hid h
  clear h hcell BYT
  have hw1 : IntKind.i64.wrap ((p : Int) + 1) = (p : Int) + 1 := IntWalk.i64_in _ (by omega)
  have hp0 : (0 : Int) ≤ (p : Int) := by omega
  have hp1 : (p : Int) < (n : Int) := by omega
  have LE := Lib.hid H.out.len
  have HL := Lib.hid (show p < l.length by rw [LE.out]; omega)
  have QA := Lib.hid (show qA l p (byt l p) ≤ n by rw [← LE.out]; exact qA_le HL.out)
  have QI := Lib.hid (show qI l p (byt l p) ≤ n by rw [← LE.out]; exact qI_le HL.out)
  generalize hop : byt l p = op at *
  go_enter Try.func29, Try.ntmps29
  go_wp2_with fail
  refine (row_agg op hc8 _).mono ?_
  rintro e w1 ⟨rfl, hb⟩
  have hs1 : w.heap.size + 1 + 1 ≤ w1.heap.size := by have := hb.size; simpa using this
  go_upto_if 33 with fail
  have Q : Q1 w (w1.alloc (.cells #[.string (wordK op), .int .i64 (aK op), .bool (numK op), .bool (decide (textK op = 1)), .bool (decide (textK op = 2)), .int .i64 (takesK op), .int .i64 (leaveK op)] 42)) w1.heap.size ⟨op, 0, 0, ⟨#[]⟩⟩ op := Q1.start _ _ _ _ _ _ hb
  have HQ := Lib.hid Q
  clear hb
  generalize w1.heap.size = k at *
  generalize w1.alloc (.cells #[.string (wordK op), .int .i64 (aK op), .bool (numK op), .bool (decide (textK op = 1)), .bool (decide (textK op = 2)), .int .i64 (takesK op), .int .i64 (leaveK op)] 42) = W1 at *
  go_cut [11, 13] (fun s11 s13 wx => CutA w k l p op s11 s13 wx)
  case first =>
    by_cases hA : aK op = 0
    · have hAb : ((aK op : Int) != 0) = false := by rw [hA]; rfl
      have E := Lib.hid (fA_no hA (l.drop (p + 1)))
      clear hA
      go_wp2_with fail
      go_meet
      exact ⟨int_eq (by unfold qA; rw [E.out]; simp), by rw [E.out]; rfl, by rw [E.out], HQ.out⟩
    · have hAb : ((aK op : Int) != 0) = true := bne_iff_ne.2 (by omega)
      have E := Lib.hid (fA_is hA (l.drop (p + 1)))
      have EQ := Lib.hid (show qA l p op = p + 1 + (numS (l.drop (p + 1))).2.1 by unfold qA; rw [E.out])
      have HBS := Lib.hid (H.out.below HQ.out.bel)
      clear hA
      go_wp2_with fail
      refine (ruint_z HBS.out (p + 1) (by omega) (by omega)).mono ?_
      rintro e w2 ⟨rfl, hb2⟩
      have Q2 := HQ.out.below hb2
      have HQ2 := Lib.hid Q2
      clear hb2 Q
      have x0 := Q2.x0
      have x1 := Q2.x1
      have x2 := Q2.x2
      have x3 := Q2.x3
      have y0 := Q2.y0
      have y1 := Q2.y1
      have y2 := Q2.y2
      have y3 := Q2.y3
      have r2 := Q2.r2
      have r3 := Q2.r3
      have r4 := Q2.r4
      have fy0 := Q2.fy 0
      have fy1 := Q2.fy 1
      have fy2 := Q2.fy 2
      have fy3 := Q2.fy 3
      have fx1 := Q2.fx 1
      have fx2 := Q2.fx 2
      have fx3 := Q2.fx 3
      have kl := Q2.klo
      have kh := Q2.khi
      clear Q2
      by_cases he : (numS (l.drop (p + 1))).2.2 = 0
      · have he1 : ((numS (l.drop (p + 1))).2.2 != 0) = false := by rw [he]; rfl
        have HE := Lib.hid (show (fA op (l.drop (p + 1))).2.2 = 0 by rw [E.out]; exact he)
        clear he
        go_wp2_with fail
        go_meet
        exact ⟨int_eq (by rw [EQ.out]; omega), by rw [E.out], HE.out, HQ2.out⟩
      · have he1 : ((numS (l.drop (p + 1))).2.2 != 0) = true := bne_iff_ne.2 he
        have HE := Lib.hid (show (fA op (l.drop (p + 1))).2.2 ≠ 0 by rw [E.out]; exact he)
        have R := Lib.hid (fun (x : InsV) (w' : World) (B : Below w.heap.size w w') => op_a (N := N) HL.out hop HE.out x B)
        rw [EQ.out, E.out] at R
        clear he
        go_wp2_with fail
        generalize hW6 : World.setCell _ ⟨w.heap.size, 3, none⟩ _ = W6
        obtain ⟨z0, z1, z2, z3, zb⟩ := HQ2.out.answer hW6.symm
        clear hW6
        clear x0 x1 x2 x3 y0 y1 y2 y3 r2 r3 r4 fy0 fy1 fy2 fy3 fx1 fx2 fx3 kl kh
        exact bodyPost_ret (v := .tuple #[(InsV.mk op 0 0 ⟨#[]⟩).val, .int .i64 ((p + 1 + (numS (l.drop (p + 1))).2.1 : Nat) : Int), .int .i64 (numS (l.drop (p + 1))).2.2]) (by simp [results, Try.results29, go_sem, z0, z1, z2, z3, InsV.val]) rfl (R.out _ _ zb)
  case rest =>
    obtain ⟨rfl, rfl, hea, hq⟩ := hcut
    rename_i wx
    have HEA := Lib.hid hea
    clear hea HQ Q hw1
    have HQ := Lib.hid hq
    have x0 := hq.x0
    have x1 := hq.x1
    have x2 := hq.x2
    have x3 := hq.x3
    have y0 := hq.y0
    have y1 := hq.y1
    have y2 := hq.y2
    have y3 := hq.y3
    have r2 := hq.r2
    have r3 := hq.r3
    have r4 := hq.r4
    have fy0 := hq.fy 0
    have fy1 := hq.fy 1
    have fy2 := hq.fy 2
    have fy3 := hq.fy 3
    have fx1 := hq.fx 1
    have fx2 := hq.fx 2
    have fx3 := hq.fx 3
    have kl := hq.klo
    have kh := hq.khi
    clear hq
    go_upto_if 47 with fail
    go_cut [11] (fun s11 wx => CutI w k l p op s11 wx)
    case first =>
      cases hI : numK op with
      | false =>
        have E := Lib.hid (fI_no hI (l.drop (qA l p op)))
        clear hI
        go_wp2_with fail
        go_meet
        exact ⟨int_eq (by unfold qI; rw [E.out]; simp), by rw [E.out], by rw [E.out]; exact HQ.out⟩
      | true =>
        have E := Lib.hid (fI_is hI (l.drop (qA l p op)))
        have EQ := Lib.hid (show qI l p op = qA l p op + (numS (l.drop (qA l p op))).2.1 by unfold qI; rw [E.out])
        have HBS := Lib.hid (H.out.below HQ.out.bel)
        clear hI
        go_wp2_with fail
        refine (rint_any HBS.out (qA l p op) QA.out).mono ?_
        rintro e w2 ⟨rfl, hb2⟩
        have Q2 := HQ.out.below hb2
        have HQ2 := Lib.hid Q2
        clear hb2
        clear x0 x1 x2 x3 y0 y1 y2 y3 r2 r3 r4 fy0 fy1 fy2 fy3 fx1 fx2 fx3 kl kh
        have x0 := Q2.x0
        have x1 := Q2.x1
        have x2 := Q2.x2
        have x3 := Q2.x3
        have y0 := Q2.y0
        have y1 := Q2.y1
        have y2 := Q2.y2
        have y3 := Q2.y3
        have r2 := Q2.r2
        have r3 := Q2.r3
        have r4 := Q2.r4
        have fy0 := Q2.fy 0
        have fy1 := Q2.fy 1
        have fy2 := Q2.fy 2
        have fy3 := Q2.fy 3
        have fx1 := Q2.fx 1
        have fx2 := Q2.fx 2
        have fx3 := Q2.fx 3
        have kl := Q2.klo
        have kh := Q2.khi
        clear Q2
        by_cases he : (numS (l.drop (qA l p op))).2.2 = 0
        · have he1 : ((numS (l.drop (qA l p op))).2.2 != 0) = false := by rw [he]; rfl
          have HE := Lib.hid (show (fI op (l.drop (qA l p op))).2.2 = 0 by rw [E.out]; exact he)
          clear he
          go_wp2_with fail
          go_meet
          exact ⟨int_eq (by rw [EQ.out]; omega), HE.out, by rw [E.out]; exact HQ2.out.setInt _⟩
        · have he1 : ((numS (l.drop (qA l p op))).2.2 != 0) = true := bne_iff_ne.2 he
          have HE := Lib.hid (show (fI op (l.drop (qA l p op))).2.2 ≠ 0 by rw [E.out]; exact he)
          have R := Lib.hid (fun (x : InsV) (w' : World) (B : Below w.heap.size w w') => op_i (N := N) HL.out hop HEA.out HE.out x B)
          rw [EQ.out, E.out] at R
          have HQ3 := Lib.hid (HQ2.out.setInt (zagI (numS (l.drop (qA l p op))).1))
          clear he
          go_wp2_with fail
          generalize hW6 : World.setCell _ ⟨w.heap.size, 3, none⟩ _ = W6
          obtain ⟨z0, z1, z2, z3, zb⟩ := HQ3.out.answer hW6.symm
          clear hW6
          clear x0 x1 x2 x3 y0 y1 y2 y3 r2 r3 r4 fy0 fy1 fy2 fy3 fx1 fx2 fx3 kl kh
          exact bodyPost_ret (v := .tuple #[(InsV.mk op 0 (zagI (numS (l.drop (qA l p op))).1) ⟨#[]⟩).val, .int .i64 ((qA l p op + (numS (l.drop (qA l p op))).2.1 : Nat) : Int), .int .i64 (numS (l.drop (qA l p op))).2.2]) (by simp [results, Try.results29, go_sem, z0, z1, z2, z3, InsV.val]) rfl (R.out _ _ zb)
    case rest =>
      obtain ⟨rfl, hei, hq⟩ := hcut
      have HEI := Lib.hid hei
      clear hei HQ
      have HQ := Lib.hid hq
      clear x0 x1 x2 x3 y0 y1 y2 y3 r2 r3 r4 fy0 fy1 fy2 fy3 fx1 fx2 fx3 kl kh
      have x0 := hq.x0
      have x1 := hq.x1
      have x2 := hq.x2
      have x3 := hq.x3
      have y0 := hq.y0
      have y1 := hq.y1
      have y2 := hq.y2
      have y3 := hq.y3
      have r2 := hq.r2
      have r3 := hq.r3
      have r4 := hq.r4
      have fy0 := hq.fy 0
      have fy1 := hq.fy 1
      have fy2 := hq.fy 2
      have fy3 := hq.fy 3
      have fx1 := hq.fx 1
      have fx2 := hq.fx 2
      have fx3 := hq.fx 3
      have kl := hq.klo
      have kh := hq.khi
      clear hq
      go_upto_region 16 with fail
      go_cut [66] (fun s66 wx => s66 = .bool (decide (textK op ≠ 0)) ∧ Q1 w wx k ⟨op, 0, (fI op (l.drop (qA l p op))).1, ⟨#[]⟩⟩ op)
      case first =>
        have T3 : textK op = 0 ∨ textK op = 1 ∨ textK op = 2 := by unfold textK; (repeat' split) <;> simp
        rcases T3 with e | e | e
        · have e1 : decide (textK op = 1) = false := by rw [e]; rfl
          have e2 : decide (textK op = 2) = false := by rw [e]; rfl
          have E3 := Lib.hid (show decide (textK op ≠ 0) = false by rw [e]; rfl)
          rw [e1] at r3
          rw [e2] at r4
          clear e e1 e2
          go_wp2_with fail
          go_meet
          exact ⟨by rw [E3.out], HQ.out⟩
        · have e1 : decide (textK op = 1) = true := by rw [e]; rfl
          have e2 : decide (textK op = 2) = false := by rw [e]; rfl
          have E3 := Lib.hid (show decide (textK op ≠ 0) = true by rw [e]; rfl)
          rw [e1] at r3
          rw [e2] at r4
          clear e e1 e2
          go_wp2_with fail
          go_meet
          exact ⟨by rw [E3.out], HQ.out⟩
        · have e1 : decide (textK op = 1) = false := by rw [e]; rfl
          have e2 : decide (textK op = 2) = true := by rw [e]; rfl
          have E3 := Lib.hid (show decide (textK op ≠ 0) = true by rw [e]; rfl)
          rw [e1] at r3
          rw [e2] at r4
          clear e e1 e2
          go_wp2_with fail
          go_meet
          exact ⟨by rw [E3.out], HQ.out⟩
      case rest =>
        obtain ⟨rfl, hq⟩ := hcut
        clear HQ
        have HQ := Lib.hid hq
        clear x0 x1 x2 x3 y0 y1 y2 y3 r2 r3 r4 fy0 fy1 fy2 fy3 fx1 fx2 fx3 kl kh
        clear hq
        go_upto_if 66 with fail
        go_cut [11] (fun s11 wx => CutT w k l p op s11 wx)
        case first =>
          cases hT : decide (textK op ≠ 0) with
          | false =>
            have E := Lib.hid (fT_no (by simpa using hT) (l.drop (qI l p op)))
            clear hT
            go_wp2_with fail
            go_meet
            exact ⟨int_eq (by unfold qT; rw [E.out]; simp), by rw [E.out], by rw [E.out]; exact HQ.out⟩
          | true =>
            have E := Lib.hid (fT_is (by simpa using hT) (l.drop (qI l p op)))
            have EQ := Lib.hid (show qT l p op = qI l p op + (textS (l.drop (qI l p op))).2.1 by unfold qT; rw [E.out])
            have HBS := Lib.hid (H.out.below HQ.out.bel)
            clear hT
            go_wp2_with fail
            refine (rtext_any HBS.out (qI l p op) QI.out).mono ?_
            rintro e w2 ⟨rfl, hb2⟩
            have Q2 := HQ.out.below hb2
            have HQ2 := Lib.hid Q2
            clear hb2
            have x0 := Q2.x0
            have x1 := Q2.x1
            have x2 := Q2.x2
            have x3 := Q2.x3
            have y0 := Q2.y0
            have y1 := Q2.y1
            have y2 := Q2.y2
            have y3 := Q2.y3
            have r2 := Q2.r2
            have r3 := Q2.r3
            have r4 := Q2.r4
            have fy0 := Q2.fy 0
            have fy1 := Q2.fy 1
            have fy2 := Q2.fy 2
            have fy3 := Q2.fy 3
            have fx1 := Q2.fx 1
            have fx2 := Q2.fx 2
            have fx3 := Q2.fx 3
            have kl := Q2.klo
            have kh := Q2.khi
            clear Q2
            by_cases he : (textS (l.drop (qI l p op))).2.2 = 0
            · have he1 : ((textS (l.drop (qI l p op))).2.2 != 0) = false := by rw [he]; rfl
              have HE := Lib.hid (show (fT op (l.drop (qI l p op))).2.2 = 0 by rw [E.out]; exact he)
              clear he
              go_wp2_with fail
              go_meet
              exact ⟨int_eq (by rw [EQ.out]; omega), HE.out, by rw [E.out]; exact HQ2.out.setText _⟩
            · have he1 : ((textS (l.drop (qI l p op))).2.2 != 0) = true := bne_iff_ne.2 he
              have HE := Lib.hid (show (fT op (l.drop (qI l p op))).2.2 ≠ 0 by rw [E.out]; exact he)
              have R := Lib.hid (fun (x : InsV) (w' : World) (B : Below w.heap.size w w') => op_t (N := N) HL.out hop HEA.out HEI.out HE.out x B)
              rw [EQ.out, E.out] at R
              have HQ3 := Lib.hid (HQ2.out.setText (strB (textS (l.drop (qI l p op))).1))
              clear he
              go_wp2_with fail
              generalize hW6 : World.setCell _ ⟨w.heap.size, 3, none⟩ _ = W6
              obtain ⟨z0, z1, z2, z3, zb⟩ := HQ3.out.answer hW6.symm
              clear hW6
              clear x0 x1 x2 x3 y0 y1 y2 y3 r2 r3 r4 fy0 fy1 fy2 fy3 fx1 fx2 fx3 kl kh
              exact bodyPost_ret (v := .tuple #[(InsV.mk op 0 (fI op (l.drop (qA l p op))).1 (strB (textS (l.drop (qI l p op))).1)).val, .int .i64 ((qI l p op + (textS (l.drop (qI l p op))).2.1 : Nat) : Int), .int .i64 (textS (l.drop (qI l p op))).2.2]) (by simp [results, Try.results29, go_sem, z0, z1, z2, z3, InsV.val]) rfl (R.out _ _ zb)
        case rest =>
          obtain ⟨rfl, het, hq⟩ := hcut
          have HET := Lib.hid het
          clear het HQ
          have HQ := Lib.hid hq
          have x0 := hq.x0
          have x1 := hq.x1
          have x2 := hq.x2
          have x3 := hq.x3
          have y0 := hq.y0
          have y1 := hq.y1
          have y2 := hq.y2
          have y3 := hq.y3
          have r2 := hq.r2
          have r3 := hq.r3
          have r4 := hq.r4
          have fy0 := hq.fy 0
          have fy1 := hq.fy 1
          have fy2 := hq.fy 2
          have fy3 := hq.fy 3
          have fx1 := hq.fx 1
          have fx2 := hq.fx 2
          have fx3 := hq.fx 3
          have kl := hq.klo
          have kh := hq.khi
          clear hq
          by_cases hg : 1099511627776 < (fA op (l.drop (p + 1))).1
          · have HG := Lib.hid (great_wrong hop hN hg)
            have hgb : decide ((1099511627776 : Int) < ((fA op (l.drop (p + 1))).1 : Int)) = true := decide_eq_true (by omega)
            have R := Lib.hid (fun (x : InsV) (w' : World) (B : Below w.heap.size w w') => op_w (N := N) HL.out hop HEA.out HEI.out HET.out HG.out x B)
            clear hg
            go_wp2_with fail
            generalize hW6 : World.setCell _ ⟨w.heap.size, 3, none⟩ _ = W6
            obtain ⟨z0, z1, z2, z3, zb⟩ := HQ.out.answer hW6.symm
            clear hW6
            clear x0 x1 x2 x3 y0 y1 y2 y3 r2 r3 r4 fy0 fy1 fy2 fy3 fx1 fx2 fx3 kl kh
            exact bodyPost_ret (v := .tuple #[(InsV.mk op 0 (fI op (l.drop (qA l p op))).1 (strB (fT op (l.drop (qI l p op))).1)).val, .int .i64 (p : Int), .int .i64 3]) (by simp [results, Try.results29, go_sem, z0, z1, z2, z3, InsV.val]) rfl (R.out _ _ zb)
          · have hgb : decide ((1099511627776 : Int) < ((fA op (l.drop (p + 1))).1 : Int)) = false := decide_eq_false (by omega)
            have hgs : (fA op (l.drop (p + 1))).1 ≤ 1099511627776 := by omega
            have HX := Lib.hid (show (⟨op, ((fA op (l.drop (p + 1))).1 : Int), (fI op (l.drop (qA l p op))).1, strB (fT op (l.drop (qI l p op))).1⟩ : InsV) = xAt l p op by unfold xAt; rw [show min (fA op (l.drop (p + 1))).1 4611686018427387904 = (fA op (l.drop (p + 1))).1 by omega])
            have Q2 := HQ.out.setA ((fA op (l.drop (p + 1))).1 : Int)
            have HQ2 := Lib.hid (show Q1 w _ k (xAt l p op) op from HX.out ▸ Q2)
            have TL := Lib.hid (show (xAt l p op).text.size ≤ 9223372036854775807 from tx_le LE.out (by omega))
            have RR := Lib.hid (fun w => rright_any (xAt l p op) N hc8 TL.out w)
            rw [← HX.out] at RR
            clear hg Q2
            go_wp2_with fail
            refine (RR.out _).mono ?_
            rintro e w3 ⟨rfl, hb3⟩
            rw [HX.out]
            have Q3 := HQ2.out.below hb3
            have HQ3 := Lib.hid Q3
            clear x0 x1 x2 x3 y0 y1 y2 y3 r2 r3 r4 fy0 fy1 fy2 fy3 fx1 fx2 fx3 kl kh
            clear hb3 hgb hgs
            have x0 := Q3.x0
            have x1 := Q3.x1
            have x2 := Q3.x2
            have x3 := Q3.x3
            have y0 := Q3.y0
            have y1 := Q3.y1
            have y2 := Q3.y2
            have y3 := Q3.y3
            have r2 := Q3.r2
            have r3 := Q3.r3
            have r4 := Q3.r4
            have fy0 := Q3.fy 0
            have fy1 := Q3.fy 1
            have fy2 := Q3.fy 2
            have fy3 := Q3.fy 3
            have fx1 := Q3.fx 1
            have fx2 := Q3.fx 2
            have fx3 := Q3.fx 3
            have kl := Q3.klo
            have kh := Q3.khi
            clear Q3
            cases hr : rightI (xAt l p op).ins N with
            | false =>
              have R := Lib.hid (fun (x : InsV) (w' : World) (B : Below w.heap.size w w') => op_w (N := N) HL.out hop HEA.out HEI.out HET.out hr x B)
              clear hr
              go_wp2_with fail
              generalize hW6 : World.setCell _ ⟨w.heap.size, 3, none⟩ _ = W6
              obtain ⟨z0, z1, z2, z3, zb⟩ := HQ3.out.answer hW6.symm
              clear hW6
              clear x0 x1 x2 x3 y0 y1 y2 y3 r2 r3 r4 fy0 fy1 fy2 fy3 fx1 fx2 fx3 kl kh
              exact bodyPost_ret (v := .tuple #[(xAt l p op).val, .int .i64 (p : Int), .int .i64 3]) (by simp [results, Try.results29, go_sem, z0, z1, z2, z3, InsV.val]) rfl (R.out _ _ zb)
            | true =>
              have R := Lib.hid (fun (w' : World) (B : Below w.heap.size w w') => op_g (N := N) HL.out hop HEA.out HEI.out HET.out hr B)
              clear hr
              go_wp2_with fail
              generalize hW6 : World.setCell _ ⟨w.heap.size, 3, none⟩ _ = W6
              obtain ⟨z0, z1, z2, z3, zb⟩ := HQ3.out.answer hW6.symm
              clear hW6
              clear x0 x1 x2 x3 y0 y1 y2 y3 r2 r3 r4 fy0 fy1 fy2 fy3 fx1 fx2 fx3 kl kh
              exact bodyPost_ret (v := .tuple #[(xAt l p op).val, .int .i64 (qT l p op : Int), .int .i64 0]) (by simp [results, Try.results29, go_sem, z0, z1, z2, z3, InsV.val]) rfl (R.out _ zb)
theorem rone_any {w : World} {A : Option Addr} {n cc : Nat} {l : List UInt8} (h : BS w A n cc l) (p : Nat) (hp : p ≤ n) (N : Nat) (hN : N ≤ 8192) :
    Calls Try.prog 29 #[.slice A n cc, .int .i64 p, .int .i64 N] w (OPost l p N w) := by
  by_cases hlt : p < n
  · exact rone_in h p hlt N hN
  · obtain rfl : p = n := by omega
    exact rone_end h N
end Go.Proofs.Ytefijgdbnjmifaa

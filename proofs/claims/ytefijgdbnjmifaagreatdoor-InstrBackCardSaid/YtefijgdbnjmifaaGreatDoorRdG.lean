/- Reading one instruction, walked. Reading code, walked. -/
import Derived.Test.YtefijgdbnjmifaaGreatDoorRdQ
import Derived.Test.YtefijgdbnjmifaaGreatDoorInstrK
import Derived.Test.YtefijgdbnjmifaaGreatDoorRightD
import Derived.RegionTactic
import Derived.Deep.RegionWith
import Derived.Test.YtefijgdbnjmifaaGreatDoorCodeC
namespace Go.Proofs.YtefijgdbnjmifaaGreatDoor
open Go.RowKit

theorem kind_agg (op : Nat) (h : op < 256) (w : World) : Calls Tryz.prog 16 #[.int .u8 (op : Int)] w (RetB (.agg #[.string (wordK op), .int .u8 (aB op), .bool (numK op), .int .u8 (tB op), .int .i64 (takesK op), .int .i64 (leaveK op), .bool (manyK op), .bool (endsK op)]) w) := kind_any op h w
set_option maxRecDepth 100000 in
set_option maxHeartbeats 600000 in
theorem one_end {w : World} {A : Option Addr} {n cc : Nat} {l : List UInt8} (h : BS w A n cc l) (N : Nat) :
    Calls Tryz.prog 24 #[.slice A n cc, .int .i64 n, .int .i64 N] w (OPost l n N w) := by
  have heq : ((n : Int) == (n : Int)) = true := beq_self_eq_true _
  go_enter Tryz.func24, Tryz.ntmps24
  go_wp2_with fail
  exact bodyPost_ret (v := .tuple #[zV.val, .int .i64 n, .int .i64 4]) (by simp [results, Tryz.results24, go_sem]; rfl) rfl
    ⟨zV, by rw [one_short (by rw [List.length_drop, h.len]; omega)]; rfl, ((Below.refl _ w).alloc (Nat.le_refl _) _).alloc (by simp) _, fun _ => by rw [one_short (by rw [List.length_drop, h.len]; omega)]⟩
theorem tx_le {l : List UInt8} {n p op : Nat} (hl : l.length = n) (hn : (n : Int) ≤ 9223372036854775807) : (xAt l p op).text.size ≤ 9223372036854775807 := by
  show (strB (fT op (l.drop (qI l p op))).1).size ≤ _
  have h1 : (fT op (l.drop (qI l p op))).1.length ≤ l.length := by
    have h2 := fT_len op (l.drop (qI l p op))
    rw [List.length_drop] at h2
    omega
  show (fT op (l.drop (qI l p op))).1.toArray.size ≤ _
  rw [List.size_toArray]
  omega
set_option maxRecDepth 100000 in
set_option maxHeartbeats 1000000 in
theorem one_in {w : World} {A : Option Addr} {n cc : Nat} {l : List UInt8} (h : BS w A n cc l) (p : Nat) (hp : p < n) (N : Nat) :
    Calls Tryz.prog 24 #[.slice A n cc, .int .i64 p, .int .i64 N] w (OPost l p N w) := by
  have hne : ((p : Int) == (n : Int)) = false := beq_eq_false_iff_ne.2 (by omega)
  have hsm := h.small
  have hc8 := byt_lt l p
  obtain ⟨b, off, rfl, hbl, hcell⟩ := h.bytes (by omega)
  have cb : w.cell? ⟨b, off + p, none⟩ = some (.int .u8 (byt l p : Int)) := hcell p (by omega)
  have H := Lib.hid h
  clear h hcell
  have hw1 : IntKind.i64.wrap ((p : Int) + 1) = (p : Int) + 1 := IntWalk.i64_in _ (by omega)
  have hp0 : (0 : Int) ≤ (p : Int) := by omega
  have hp1 : (p : Int) < (n : Int) := by omega
  have nb0 : b ≠ w.heap.size := by omega
  have nb1 : b ≠ w.heap.size + 1 := by omega
  generalize hop : byt l p = op at *
  go_enter Tryz.func24, Tryz.ntmps24
  go_wp2_with fail
  refine (kind_agg op hc8 _).mono ?_
  rintro e w1 ⟨rfl, hb⟩
  have hs1 : w.heap.size + 1 + 1 ≤ w1.heap.size := by have := hb.size; simpa using this
  go_wp2_with fail
  have O : O1 w (w1.alloc (.cells #[.string (wordK op), .int .u8 (aB op), .bool (numK op), .int .u8 (tB op), .int .i64 (takesK op), .int .i64 (leaveK op), .bool (manyK op), .bool (endsK op)] 45)) w1.heap.size ⟨op, 0, 0, ⟨#[]⟩⟩ (p + 1) op := O1.start (by simp) _ _ _ _ _ _ _ _ _ hb
  have HB := Lib.hid (H.out.below O.bel)
  have HL := Lib.hid (show p < l.length by rw [H.out.len]; omega)
  have LE := Lib.hid H.out.len
  have QA := Lib.hid (show qA l p op ≤ n by rw [← LE.out]; exact qA_le HL.out)
  have QI := Lib.hid (show qI l p op ≤ n by rw [← LE.out]; exact qI_le HL.out)
  refine (fieldA op HB.out O.t0 O.ft (by have := O.klo; have := O.khi; omega) (by omega)).mono ?_
  rintro e w2 ⟨rfl, hat⟩
  have O2 := O.at hat
  have HB2 := Lib.hid (H.out.below O2.bel)
  clear O hat HB hb hw1
  change O1 w w2 w1.heap.size _ (qA l p op) op at O2
  have x0 := O2.x0
  have x1 := O2.x1
  have x2 := O2.x2
  have x3 := O2.x3
  have t0 := O2.t0
  have k2 := O2.k2
  have k3 := O2.k3
  have fx0 := O2.fx 0
  have fx1 := O2.fx 1
  have fx2 := O2.fx 2
  have fx3 := O2.fx 3
  have ft := O2.ft
  have HO := Lib.hid O2
  clear O2
  by_cases hz : (fA op (l.drop (p + 1))).2.2 = 0
  · have hz1 : ((fA op (l.drop (p + 1))).2.2 != 0) = false := by rw [hz]; rfl
    have HZ := Lib.hid hz
    clear hz
    go_wp2_with fail
    refine (fieldI op HB2.out t0 ft (by have := HO.out.klo; have := HO.out.khi; omega) QA.out).mono ?_
    rintro e w3 ⟨rfl, hat⟩
    have O2 := HO.out.at hat
    clear HO hat HB2 hz1 
    clear x0 x1 x2 x3 t0 k2 k3 fx0 fx1 fx2 fx3 ft
    change O1 w w3 w1.heap.size _ (qI l p op) op at O2
    have HB3 := Lib.hid (H.out.below O2.bel)
    have x0 := O2.x0
    have x1 := O2.x1
    have x2 := O2.x2
    have x3 := O2.x3
    have t0 := O2.t0
    have k2 := O2.k2
    have k3 := O2.k3
    have fx0 := O2.fx 0
    have fx1 := O2.fx 1
    have fx2 := O2.fx 2
    have fx3 := O2.fx 3
    have ft := O2.ft
    have HO := Lib.hid O2
    clear O2
    by_cases hz : (fI op (l.drop (qA l p op))).2.2 = 0
    · have hz1 : ((fI op (l.drop (qA l p op))).2.2 != 0) = false := by rw [hz]; rfl
      have HZ2 := Lib.hid hz
      clear hz
      go_wp2_with fail
      have O3 := HO.out.setInt (fI op (l.drop (qA l p op))).1
      have HB4 := Lib.hid (H.out.below O3.bel)
      refine (fieldT op HB4.out O3.t0 O3.ft (by have := O3.klo; have := O3.khi; omega) QI.out).mono ?_
      rintro e w4 ⟨rfl, hat⟩
      have O2 := O3.at hat
      clear HO hat HB3 HB4 hz1 O3
      clear x0 x1 x2 x3 t0 k2 k3 fx0 fx1 fx2 fx3 ft
      change O1 w w4 w1.heap.size ⟨op, 0, (fI op (l.drop (qA l p op))).1, ⟨#[]⟩⟩ (qT l p op) op at O2
      have x0 := O2.x0
      have x1 := O2.x1
      have x2 := O2.x2
      have x3 := O2.x3
      have t0 := O2.t0
      have fx0 := O2.fx 0
      have fx1 := O2.fx 1
      have fx2 := O2.fx 2
      have fx3 := O2.fx 3
      have ft := O2.ft
      have HO := Lib.hid O2
      clear O2
      by_cases hz : (fT op (l.drop (qI l p op))).2.2 = 0
      · have hz1 : ((fT op (l.drop (qI l p op))).2.2 != 0) = false := by rw [hz]; rfl
        have HZ3 := Lib.hid hz
        clear hz
        have hlt := fA_lt op (l.drop (p + 1))
        go_wp2_with fail
        have O4 : O1 w _ w1.heap.size (xAt l p op) (qT l p op) op := (HO.out.setText (strB (fT op (l.drop (qI l p op))).1)).setA ((min (fA op (l.drop (p + 1))).1 4611686018427387904 : Nat) : Int)
        have TL := Lib.hid (show (xAt l p op).text.size ≤ 9223372036854775807 from tx_le LE.out (by omega))
        have HMIN : (min ((fA op (l.drop (p + 1))).1 : Int) 4611686018427387904) = ((min (fA op (l.drop (p + 1))).1 4611686018427387904 : Nat) : Int) := by omega
        rw [HMIN]
        clear HMIN hlt hz1 x0 x1 x2 x3 t0 fx0 fx1 fx2 fx3 ft
        revert O4
        generalize (w4.setCell ⟨w.heap.size, 3, none⟩ (.string (strB (fT op (l.drop (qI l p op))).1))).setCell ⟨w.heap.size, 1, none⟩ (.int .i64 ((min (fA op (l.drop (p + 1))).1 4611686018427387904 : Nat) : Int)) = W5
        intro O4
        refine (right_any (xAt l p op) N hc8 TL.out _).mono ?_
        rintro e w5 ⟨rfl, hb5⟩
        have O5 := O4.below hb5
        have x0 := O5.x0
        have x1 := O5.x1
        have x2 := O5.x2
        have x3 := O5.x3
        have t0 := O5.t0
        have fx0 := O5.fx 0
        have fx1 := O5.fx 1
        have fx2 := O5.fx 2
        have fx3 := O5.fx 3
        have ft := O5.ft
        have HO5 := Lib.hid O5
        clear O4 O5 HO hb5
        cases hr : rightI (xAt l p op).ins N with
        | false =>
          have HR := Lib.hid hr
          clear hr
          go_wp2_with fail
          have OA := ((((HO5.out.setOp.setA (xAt l p op).a).setInt (xAt l p op).int).setText (xAt l p op).text).setT (z := (p : Int)) p rfl)
          clear x0 x1 x2 x3 t0 fx0 fx1 fx2 fx3 ft
          revert OA
          generalize World.setCell _ ⟨w.heap.size + 1, 0, none⟩ (.int .i64 (p : Int)) = W6
          intro OA
          have y0 := OA.x0
          have y1 := OA.x1
          have y2 := OA.x2
          have y3 := OA.x3
          have yt := OA.t0
          exact bodyPost_ret (v := (.tuple #[(xAt l p op).val, .int .i64 (p : Int), .int .i64 3])) (by simp [results, Tryz.results24, go_sem, y0, y1, y2, y3, yt, InsV.val]) rfl (op_w HL.out hop HZ.out HZ2.out HZ3.out HR.out _ OA.bel)
        | true =>
          have HR := Lib.hid hr
          clear hr
          go_wp2_with fail
          go_region
          go_wp2_with fail
          have OA := (HO5.out.again rfl).drew
          clear x0 x1 x2 x3 t0 fx0 fx1 fx2 fx3 ft
          revert OA
          generalize World.drew _ = W6
          intro OA
          have y0 := OA.x0
          have y1 := OA.x1
          have y2 := OA.x2
          have y3 := OA.x3
          have yt := OA.t0
          exact bodyPost_ret (v := (.tuple #[(xAt l p op).val, .int .i64 (qT l p op : Int), .int .i64 0])) (by simp [results, Tryz.results24, go_sem, y0, y1, y2, y3, yt, InsV.val]) rfl (op_g HL.out hop HZ.out HZ2.out HZ3.out HR.out OA.bel)
      · have hz1 : ((fT op (l.drop (qI l p op))).2.2 != 0) = true := bne_iff_ne.2 hz
        have HZ3 := Lib.hid hz
        clear hz
        go_wp2_with fail
        go_region
        go_wp2_with fail
        have OA := ((HO.out.setText (strB (fT op (l.drop (qI l p op))).1)).again rfl).drew
        clear x0 x1 x2 x3 t0 fx0 fx1 fx2 fx3 ft
        revert OA
        generalize World.drew _ = W6
        intro OA
        have y0 := OA.x0
        have y1 := OA.x1
        have y2 := OA.x2
        have y3 := OA.x3
        have yt := OA.t0
        exact bodyPost_ret (v := (.tuple #[(InsV.mk op 0 (fI op (l.drop (qA l p op))).1 (strB (fT op (l.drop (qI l p op))).1)).val, .int .i64 (qT l p op : Int), .int .i64 (fT op (l.drop (qI l p op))).2.2])) (by simp [results, Tryz.results24, go_sem, y0, y1, y2, y3, yt, InsV.val]) rfl (op_t HL.out hop HZ.out HZ2.out HZ3.out _ OA.bel)
    · have hz1 : ((fI op (l.drop (qA l p op))).2.2 != 0) = true := bne_iff_ne.2 hz
      have HZ2 := Lib.hid hz
      clear hz
      go_wp2_with fail
      go_region
      go_wp2_with fail
      have OA := ((HO.out.setInt (fI op (l.drop (qA l p op))).1).again rfl).drew
      clear x0 x1 x2 x3 t0 k2 k3 fx0 fx1 fx2 fx3 ft
      revert OA
      generalize World.drew _ = W6
      intro OA
      have y0 := OA.x0
      have y1 := OA.x1
      have y2 := OA.x2
      have y3 := OA.x3
      have yt := OA.t0
      exact bodyPost_ret (v := (.tuple #[(InsV.mk op 0 (fI op (l.drop (qA l p op))).1 ⟨#[]⟩).val, .int .i64 (qI l p op : Int), .int .i64 (fI op (l.drop (qA l p op))).2.2])) (by simp [results, Tryz.results24, go_sem, y0, y1, y2, y3, yt, InsV.val]) rfl (op_i HL.out hop HZ.out HZ2.out _ OA.bel)
  · have hz1 : ((fA op (l.drop (p + 1))).2.2 != 0) = true := bne_iff_ne.2 hz
    have HZ := Lib.hid hz
    clear hz
    go_wp2_with fail
    go_region
    go_wp2_with fail
    have OA := (HO.out.again rfl).drew
    clear x0 x1 x2 x3 t0 k2 k3 fx0 fx1 fx2 fx3 ft
    revert OA
    generalize World.drew _ = W6
    intro OA
    have y0 := OA.x0
    have y1 := OA.x1
    have y2 := OA.x2
    have y3 := OA.x3
    have yt := OA.t0
    exact bodyPost_ret (v := (.tuple #[(InsV.mk op 0 0 ⟨#[]⟩).val, .int .i64 (qA l p op : Int), .int .i64 (fA op (l.drop (p + 1))).2.2])) (by simp [results, Tryz.results24, go_sem, y0, y1, y2, y3, yt, InsV.val]) rfl (op_a HL.out hop HZ.out _ OA.bel)
theorem one_any {w : World} {A : Option Addr} {n cc : Nat} {l : List UInt8} (h : BS w A n cc l) (p : Nat) (hp : p ≤ n) (N : Nat) :
    Calls Tryz.prog 24 #[.slice A n cc, .int .i64 p, .int .i64 N] w (OPost l p N w) := by
  by_cases hlt : p < n
  · exact one_in h p hlt N
  · obtain rfl : p = n := by omega
    exact one_end h N
end Go.Proofs.YtefijgdbnjmifaaGreatDoor
namespace Go.Proofs.YtefijgdbnjmifaaGreatDoor
open Go.RowKit

/-- What reading code comes to. -/
def CPost14 (l : List UInt8) (w : World) (e : Ending) (w' : World) : Prop :=
  ∃ (A : Option Addr) (cc : Nat), e = .returned (.tuple #[.slice A (readS l).1.length cc, .int .i64 ((readS l).2.1 : Int), .int .i64 (readS l).2.2]) ∧ CodeIn w' A (readS l).1 ∧ Below w.heap.size w w'
theorem cpost_none {l : List UInt8} {w w' : World} {p : Nat} {er z : Int} (h : readS l = ([], p, er)) (hz : z = (p : Int)) (hb : Below w.heap.size w w') : CPost14 l w (.returned (.tuple #[.slice none 0 0, .int .i64 z, .int .i64 er])) w' := by
  subst hz
  refine ⟨none, 0, ?_, ?_, hb⟩
  · rw [h]; rfl
  · rw [h]; exact fun hn => absurd hn (by simp)
theorem cpost_some {l : List UInt8} {w w' : World} {p k cc : Nat} {A : Option Addr} {c : List InsV} (h : readS l = (c, p, 0)) (hl : c.length = k) (hc : CodeIn w' A c) (hb : Below w.heap.size w w') : CPost14 l w (.returned (.tuple #[.slice A k cc, .int .i64 (p : Int), .int .i64 0])) w' := by
  subst hl
  refine ⟨A, cc, ?_, ?_, hb⟩
  · rw [h]
  · rw [h]; exact hc
theorem infoIns : (Tryz.prog.info? 40).map (fun i => (i.zero, i.size, i.bytes)) = some (some (.agg #[.int .u8 0, .int .i64 0, .int .i64 0, .string ⟨#[]⟩]), 4, 40) := by kernel_rfl
set_option maxRecDepth 100000 in
set_option maxHeartbeats 1000000 in
theorem read_any {w : World} {A : Option Addr} {n cc : Nat} {l : List UInt8} (h : BS w A n cc l) :
    Calls Tryz.prog 9 #[.slice A n cc] w (CPost14 l w) := by
  have HI := Lib.hid infoIns
  have H := Lib.hid h
  have LE := Lib.hid h.len
  have hsm := h.small
  clear h
  have PO := Lib.hid (@num_pos l)
  have hlt64 := num_lt l
  go_enter Tryz.func9, Tryz.ntmps9
  go_wp2_with fail
  refine (cuint_any H.out).mono ?_
  rintro e w1 ⟨rfl, hb⟩
  have HB := Lib.hid hb
  by_cases he : (numS l).2.2 = 0
  · have he1 : ((numS l).2.2 != 0) = false := by rw [he]; rfl
    have HE := Lib.hid he
    clear he hb
    by_cases hl : 8192 < (numS l).1
    · have R := Lib.hid (read_long HE.out hl)
      go_wp2_with fail
      go_ret3
      exact cpost_none R.out rfl HB.out
    · have M := Lib.hid (Mid.start HE.out hl)
      have hN : (numS l).1 ≤ 8192 := by omega
      have NN := Lib.hid (show (numS l).1 = (numS l).1 from rfl)
      have P0 := Lib.hid (show (numS l).2.1 ≤ n by rw [← LE.out]; exact PO.out)
      obtain ⟨i0, hi, hz0, hz1, hz2⟩ := info_parts HI.out
      have HI0 := Lib.hid hi
      have HZ0 := Lib.hid hz0
      have HZ1 := Lib.hid hz1
      have HZ2 := Lib.hid hz2
      clear hi hz0 hz1 hz2 hlt64 hl
      go_wp2_with fail
      go_loopw [25, 6, 8] (fun i t v wr => ∃ (k p : Nat) (c : List InsV), i = .int .u64 k ∧ t = .int .i64 p ∧ k ≤ (numS l).1 ∧ p ≤ n ∧ Mid l k p c ∧ wr.ownsRow w.heap.size 40 4 v k (codeCells c) ∧ Below w.heap.size w wr) (fun i _ _ _ => (numS l).1 - (intOf i).toNat)
      case atStart => exact ⟨0, (numS l).2.1, [], rfl, rfl, Nat.zero_le _, P0.out, M.out, ⟨rfl, .inl ⟨rfl, rfl⟩⟩, HB.out⟩
      case round =>
        obtain ⟨k, p, c, rfl, rfl, hk, hp, hm, hown, hb⟩ := hrel
        have HM := Lib.hid hm
        have HO := Lib.hid hown
        have HB2 := Lib.hid hb
        clear hm hown
        by_cases hlt : k < (numS l).1
        · go_wp2_with fail
          have HBS := Lib.hid (H.out.below (HB2.out.alloc HB2.out.size (.cells #[.int .u8 0, .int .i64 0, .int .i64 0, .string ⟨#[]⟩] 40)))
          refine (one_any HBS.out p hp (numS l).1).mono ?_
          rintro e w2 ⟨x, hev, hb2, hx⟩
          rw [show x.val = (.agg #[.int .u8 (x.op : Int), .int .i64 x.a, .int .i64 x.int, .string x.text] : Value) from rfl] at hev
          subst hev
          have HX := Lib.hid hx
          have HB3 := Lib.hid (show Below w.heap.size w w2 from (HB2.out.alloc HB2.out.size _).trans (hb2.mono (by have := HB2.out.size; simp; omega)))
          have OP := Lib.hid (show p + (oneS (l.drop p) (numS l).1).2.1 ≤ n by have := @one_pos (l.drop p) (numS l).1; rw [List.length_drop, LE.out] at this; omega)
          have hz2 : wr.heap.size < w2.heap.size := by have := hb2.size; simp at this; omega
          have HO2 := Lib.hid (own_below (HO.out.alloc (.cells #[.int .u8 0, .int .i64 0, .int .i64 0, .string ⟨#[]⟩] 40)) hb2)
          have kc := fun j => hb2.cell (p := ⟨wr.heap.size, j, none⟩) (by simp)
          have kf := fun j => hb2.frozen (p := ⟨wr.heap.size, j, none⟩) (by simp)
          have x0 := kc 0
          have x1 := kc 1
          have x2 := kc 2
          have x3 := kc 3
          have fx0 := kf 0
          have fx1 := kf 1
          have fx2 := kf 2
          have fx3 := kf 3
          simp at x0 x1 x2 x3 fx0 fx1 fx2 fx3
          have BW := (show Below wr.heap.size wr w2 from (((Below.refl _ wr).alloc (Nat.le_refl _) _).trans (hb2.mono (by simp))))
          have hsw := HB3.out.size
          have hsr := HB2.out.size
          have HB3b := HB3.out
          clear hb2 kc kf hx hb
          by_cases he : (oneS (l.drop p) (numS l).1).2.2 = 0
          · have he2 : ((oneS (l.drop p) (numS l).1).2.2 != 0) = false := by rw [he]; rfl
            have HM2 := Lib.hid (HM.out.more hlt he)
            have HXE := Lib.hid (HX.out he)
            clear he
            go_wp2_with (at_builtin; refine wpList_append_own _ rfl _ _ 22 rfl w.heap.size 40 i0 (.agg #[.int .u8 0, .int .i64 0, .int .i64 0, .string ⟨#[]⟩]) 4 40 Tryz.underlying22 HI0.out HZ0.out HZ1.out HZ2.out rfl (by decide) _ k (codeCells c) rfl ?own ⟨w2.heap.size, 0, none⟩ 1 1 x.cells rfl rfl ?c1 ?c2 ?c3 ?c4 ?c5 ?_)
            case own => exact own_below HO.out (by go_grown)
            case c1 => exact cell_four_new _ _ _ _ _ _ _ (by first | rfl | simp)
            case c2 => intro u hu; simp [InsV.cells] at hu; rcases hu with rfl | rfl | rfl | rfl <;> rfl
            case c3 => unfold maxLen; omega
            case c4 => omega
            case c5 => have := HB3.out.size; simp; omega
            intro v' w3 hown' hgrow _
            have HBW := Lib.hid (show Below w.heap.size w w3 from Below.grown (by go_grown) hgrow (by have := HB3.out.size; simp; omega) (fun q e => own_base HO.out e))
            go_wp2_with fail
            go_roundw
            case rel => exact ⟨k + 1, p + (oneS (l.drop p) (numS l).1).2.1, c ++ [x], by go_num, by go_num, by omega, OP.out, by rw [HXE.out]; exact HM2.out, by rw [codeCells_snoc]; exact hown', HBW.out⟩
            case measure => simp [intOf]; omega
          · have he2 : ((oneS (l.drop p) (numS l).1).2.2 != 0) = true := bne_iff_ne.2 he
            have R := Lib.hid (HM.out.bad hlt he)
            clear he
            go_wp2_with fail
            go_ret3
            exact cpost_none R.out (by omega) (by go_grown)
        · by_cases hpn : p < n
          · have R := Lib.hid (HM.out.left hlt (by rw [LE.out]; exact hpn))
            go_wp2_with fail
            go_ret3
            exact cpost_none R.out rfl HB2.out
          · have R := Lib.hid (HM.out.done hlt (by rw [LE.out]; exact hpn))
            obtain ⟨A', cc', rfl⟩ := own_slice HO.out
            have KL := Lib.hid HM.out.len
            go_wp2_with fail
            go_ret3
            exact cpost_some R.out KL.out (own_code HO.out KL.out) HB2.out
  · have he1 : ((numS l).2.2 != 0) = true := bne_iff_ne.2 he
    have R := Lib.hid (read_bad he)
    clear he hb
    go_wp2_with fail
    go_ret3
    exact cpost_none R.out rfl HB.out
end Go.Proofs.YtefijgdbnjmifaaGreatDoor

/- compile: a twig's own instruction, walked. -/
import Derived.Test.YtjfdokoigkdciaaCplA
namespace Go.Proofs.Ytjfdokoigkdciaa
open Go.RowKit

theorem plain_row (op : Nat) (a int : Int) (text : ByteArray) (slot : Int) : plainI ⟨op, a, int, text⟩ slot =
  if op = 3 then [] else if op = 4 ∨ op = 5 then [insA 27 slot] else if op = 26 then [insA 26 slot] else if op = 11 then [insO 6]
  else if op = 23 then [⟨23, 0, int, ⟨#[]⟩⟩] else if op = 24 then [⟨24, 0, 0, text⟩] else if op = 25 then [insA 25 a]
  else if op = 50 ∨ op = 51 then [⟨op, a, 0, text⟩] else if op = 56 then [⟨56, 0, 0, text⟩] else [insO op] := rfl
set_option maxRecDepth 100000 in
set_option maxHeartbeats 4000000 in
theorem plain_3 {x : GB} (hd : GD x) {code : List InsV} {at_ : Nat} {w : World} (h : CW x code at_ w) (_hl : code.length ≤ 100000) (op : Nat) (a int : Int) (text : ByteArray) (slot : Int) (ho : op = 3) :
    Calls Try.prog 24 #[.pointer (some ⟨x.gb, 0, none⟩), .agg #[.int .u8 (op : Int), .int .i64 a, .int .i64 int, .string text], .int .i64 slot] w (KPost x (.tuple #[]) (code ++ plainI ⟨op, a, int, text⟩ slot) at_ w) := by
  have E := Lib.hid (show plainI ⟨op, a, int, text⟩ slot = [] by rw [plain_row]; subst ho; rfl)
  have hb := (Below.refl _ w).alloc (Nat.le_refl _) (.cells #[.int .u8 (op : Int), .int .i64 a, .int .i64 int, .string text] 31)
  have H1 := Lib.hid (h.low hd hb)
  have HK := Lib.hid (GK.of_below (gb := x.gb) (base := x.base) hb)
  have o3 : ((op : Int) == 3) = true := by simp; omega
  have HO := Lib.hid ho
  have HD := Lib.hid hd
  clear h ho hb hd
  go_enter Try.func24, Try.ntmps24
  go_wp2_with fail
  go_end0
  exact ⟨rfl, by rw [E.out, List.append_nil]; exact H1.out, HK.out⟩
set_option maxRecDepth 100000 in
set_option maxHeartbeats 4000000 in
theorem plain_4 {x : GB} (hd : GD x) {code : List InsV} {at_ : Nat} {w : World} (h : CW x code at_ w) (hl : code.length ≤ 100000) (op : Nat) (a int : Int) (text : ByteArray) (slot : Int) (ho : op = 4) :
    Calls Try.prog 24 #[.pointer (some ⟨x.gb, 0, none⟩), .agg #[.int .u8 (op : Int), .int .i64 a, .int .i64 int, .string text], .int .i64 slot] w (KPost x (.tuple #[]) (code ++ plainI ⟨op, a, int, text⟩ slot) at_ w) := by
  have E := Lib.hid (show plainI ⟨op, a, int, text⟩ slot = [insA 27 slot] by rw [plain_row]; subst ho; rfl)
  have hb := (Below.refl _ w).alloc (Nat.le_refl _) (.cells #[.int .u8 (op : Int), .int .i64 a, .int .i64 int, .string text] 31)
  have H1 := Lib.hid (h.low hd hb)
  have HK := Lib.hid (GK.of_below (gb := x.gb) (base := x.base) hb)
  have o3 : ((op : Int) == 3) = false := by simp; omega
  have o4 : ((op : Int) == 4) = true := by simp; omega
  have HO := Lib.hid ho
  have HD := Lib.hid hd
  clear h ho hb hd
  have HP := Lib.hid (fun W (h : CW x code at_ W) => put_any HD.out h hl ⟨27, slot, 0, ⟨#[]⟩⟩)
  simp only [InsV.val] at HP
  go_enter Try.func24, Try.ntmps24
  go_wp2_with fail
  refine (HP.out _ H1.out).mono ?_
  rintro e w5 ⟨rfl, h1, h2⟩
  have G1 := Lib.hid h1
  have G2 := Lib.hid h2
  clear h1 h2
  go_wp2_with fail
  go_end0
  exact ⟨rfl, by rw [E.out]; exact G1.out, HK.out.trans G2.out⟩
set_option maxRecDepth 100000 in
set_option maxHeartbeats 4000000 in
theorem plain_5 {x : GB} (hd : GD x) {code : List InsV} {at_ : Nat} {w : World} (h : CW x code at_ w) (hl : code.length ≤ 100000) (op : Nat) (a int : Int) (text : ByteArray) (slot : Int) (ho : op = 5) :
    Calls Try.prog 24 #[.pointer (some ⟨x.gb, 0, none⟩), .agg #[.int .u8 (op : Int), .int .i64 a, .int .i64 int, .string text], .int .i64 slot] w (KPost x (.tuple #[]) (code ++ plainI ⟨op, a, int, text⟩ slot) at_ w) := by
  have E := Lib.hid (show plainI ⟨op, a, int, text⟩ slot = [insA 27 slot] by rw [plain_row]; subst ho; rfl)
  have hb := (Below.refl _ w).alloc (Nat.le_refl _) (.cells #[.int .u8 (op : Int), .int .i64 a, .int .i64 int, .string text] 31)
  have H1 := Lib.hid (h.low hd hb)
  have HK := Lib.hid (GK.of_below (gb := x.gb) (base := x.base) hb)
  have o3 : ((op : Int) == 3) = false := by simp; omega
  have o4 : ((op : Int) == 4) = false := by simp; omega
  have o5 : ((op : Int) == 5) = true := by simp; omega
  have HO := Lib.hid ho
  have HD := Lib.hid hd
  clear h ho hb hd
  have HP := Lib.hid (fun W (h : CW x code at_ W) => put_any HD.out h hl ⟨27, slot, 0, ⟨#[]⟩⟩)
  simp only [InsV.val] at HP
  go_enter Try.func24, Try.ntmps24
  go_wp2_with fail
  refine (HP.out _ H1.out).mono ?_
  rintro e w5 ⟨rfl, h1, h2⟩
  have G1 := Lib.hid h1
  have G2 := Lib.hid h2
  clear h1 h2
  go_wp2_with fail
  go_end0
  exact ⟨rfl, by rw [E.out]; exact G1.out, HK.out.trans G2.out⟩
set_option maxRecDepth 100000 in
set_option maxHeartbeats 4000000 in
theorem plain_26 {x : GB} (hd : GD x) {code : List InsV} {at_ : Nat} {w : World} (h : CW x code at_ w) (hl : code.length ≤ 100000) (op : Nat) (a int : Int) (text : ByteArray) (slot : Int) (ho : op = 26) :
    Calls Try.prog 24 #[.pointer (some ⟨x.gb, 0, none⟩), .agg #[.int .u8 (op : Int), .int .i64 a, .int .i64 int, .string text], .int .i64 slot] w (KPost x (.tuple #[]) (code ++ plainI ⟨op, a, int, text⟩ slot) at_ w) := by
  have E := Lib.hid (show plainI ⟨op, a, int, text⟩ slot = [insA 26 slot] by rw [plain_row]; subst ho; rfl)
  have hb := (Below.refl _ w).alloc (Nat.le_refl _) (.cells #[.int .u8 (op : Int), .int .i64 a, .int .i64 int, .string text] 31)
  have H1 := Lib.hid (h.low hd hb)
  have HK := Lib.hid (GK.of_below (gb := x.gb) (base := x.base) hb)
  have o3 : ((op : Int) == 3) = false := by simp; omega
  have o4 : ((op : Int) == 4) = false := by simp; omega
  have o5 : ((op : Int) == 5) = false := by simp; omega
  have o26 : ((op : Int) == 26) = true := by simp; omega
  have HO := Lib.hid ho
  have HD := Lib.hid hd
  clear h ho hb hd
  have HP := Lib.hid (fun W (h : CW x code at_ W) => put_any HD.out h hl ⟨26, slot, 0, ⟨#[]⟩⟩)
  simp only [InsV.val] at HP
  go_enter Try.func24, Try.ntmps24
  go_wp2_with fail
  refine (HP.out _ H1.out).mono ?_
  rintro e w5 ⟨rfl, h1, h2⟩
  have G1 := Lib.hid h1
  have G2 := Lib.hid h2
  clear h1 h2
  go_wp2_with fail
  go_end0
  exact ⟨rfl, by rw [E.out]; exact G1.out, HK.out.trans G2.out⟩
set_option maxRecDepth 100000 in
set_option maxHeartbeats 4000000 in
theorem plain_11 {x : GB} (hd : GD x) {code : List InsV} {at_ : Nat} {w : World} (h : CW x code at_ w) (hl : code.length ≤ 100000) (op : Nat) (a int : Int) (text : ByteArray) (slot : Int) (ho : op = 11) :
    Calls Try.prog 24 #[.pointer (some ⟨x.gb, 0, none⟩), .agg #[.int .u8 (op : Int), .int .i64 a, .int .i64 int, .string text], .int .i64 slot] w (KPost x (.tuple #[]) (code ++ plainI ⟨op, a, int, text⟩ slot) at_ w) := by
  have E := Lib.hid (show plainI ⟨op, a, int, text⟩ slot = [insO 6] by rw [plain_row]; subst ho; rfl)
  have hb := (Below.refl _ w).alloc (Nat.le_refl _) (.cells #[.int .u8 (op : Int), .int .i64 a, .int .i64 int, .string text] 31)
  have H1 := Lib.hid (h.low hd hb)
  have HK := Lib.hid (GK.of_below (gb := x.gb) (base := x.base) hb)
  have o3 : ((op : Int) == 3) = false := by simp; omega
  have o4 : ((op : Int) == 4) = false := by simp; omega
  have o5 : ((op : Int) == 5) = false := by simp; omega
  have o26 : ((op : Int) == 26) = false := by simp; omega
  have o11 : ((op : Int) == 11) = true := by simp; omega
  have HO := Lib.hid ho
  have HD := Lib.hid hd
  clear h ho hb hd
  have HP := Lib.hid (fun W (h : CW x code at_ W) => op_any HD.out h hl (6))
  have e6 : ((6 : Nat) : Int) = 6 := rfl
  rw [e6] at HP
  go_enter Try.func24, Try.ntmps24
  go_wp2_with fail
  refine (HP.out _ H1.out).mono ?_
  rintro e w5 ⟨rfl, h1, h2⟩
  have G1 := Lib.hid h1
  have G2 := Lib.hid h2
  clear h1 h2
  go_wp2_with fail
  go_end0
  exact ⟨rfl, by rw [E.out]; exact G1.out, HK.out.trans G2.out⟩
set_option maxRecDepth 100000 in
set_option maxHeartbeats 4000000 in
theorem plain_23 {x : GB} (hd : GD x) {code : List InsV} {at_ : Nat} {w : World} (h : CW x code at_ w) (hl : code.length ≤ 100000) (op : Nat) (a int : Int) (text : ByteArray) (slot : Int) (ho : op = 23) :
    Calls Try.prog 24 #[.pointer (some ⟨x.gb, 0, none⟩), .agg #[.int .u8 (op : Int), .int .i64 a, .int .i64 int, .string text], .int .i64 slot] w (KPost x (.tuple #[]) (code ++ plainI ⟨op, a, int, text⟩ slot) at_ w) := by
  have E := Lib.hid (show plainI ⟨op, a, int, text⟩ slot = [⟨23, 0, int, ⟨#[]⟩⟩] by rw [plain_row]; subst ho; rfl)
  have hb := (Below.refl _ w).alloc (Nat.le_refl _) (.cells #[.int .u8 (op : Int), .int .i64 a, .int .i64 int, .string text] 31)
  have H1 := Lib.hid (h.low hd hb)
  have HK := Lib.hid (GK.of_below (gb := x.gb) (base := x.base) hb)
  have o3 : ((op : Int) == 3) = false := by simp; omega
  have o4 : ((op : Int) == 4) = false := by simp; omega
  have o5 : ((op : Int) == 5) = false := by simp; omega
  have o26 : ((op : Int) == 26) = false := by simp; omega
  have o11 : ((op : Int) == 11) = false := by simp; omega
  have o23 : ((op : Int) == 23) = true := by simp; omega
  have HO := Lib.hid ho
  have HD := Lib.hid hd
  clear h ho hb hd
  have HP := Lib.hid (fun W (h : CW x code at_ W) => put_any HD.out h hl ⟨23, 0, int, ⟨#[]⟩⟩)
  simp only [InsV.val] at HP
  go_enter Try.func24, Try.ntmps24
  go_upto_region 12 with fail
  obtain ⟨w1, hw1⟩ : ∃ w1, w1 = w.alloc (.cells #[.int .u8 (op : Int), .int .i64 a, .int .i64 int, .string text] 31) := ⟨_, rfl⟩
  have hbd : Below w1.heap.size w1 w1.drew := (Below.refl _ w1).drew
  have x0 : w1.drew.cell? ⟨w.heap.size, 0, none⟩ = some (.int .u8 (op : Int)) := (hbd.cell (p := ⟨w.heap.size, 0, none⟩) (by rw [hw1]; simp)).trans (by rw [hw1]; simp)
  have x1 : w1.drew.cell? ⟨w.heap.size, 1, none⟩ = some (.int .i64 a) := (hbd.cell (p := ⟨w.heap.size, 1, none⟩) (by rw [hw1]; simp)).trans (by rw [hw1]; simp)
  have x2 : w1.drew.cell? ⟨w.heap.size, 2, none⟩ = some (.int .i64 int) := (hbd.cell (p := ⟨w.heap.size, 2, none⟩) (by rw [hw1]; simp)).trans (by rw [hw1]; simp)
  have x3 : w1.drew.cell? ⟨w.heap.size, 3, none⟩ = some (.string text) := (hbd.cell (p := ⟨w.heap.size, 3, none⟩) (by rw [hw1]; simp)).trans (by rw [hw1]; simp)
  rw [← hw1] at H1 HK ⊢
  have H2 := Lib.hid (H1.out.low HD.out hbd)
  have HK2 := Lib.hid (HK.out.trans (GK.of_below (gb := x.gb) (base := x.base) hbd))
  clear hw1 hbd H1 HK
  go_still_tail 6, (by kernel_rfl)
  change wpList _ _ _ _ _ w1.drew
  generalize w1.drew = wd at *
  go_wp2_with fail
  refine (HP.out _ H2.out).mono ?_
  rintro e w5 ⟨rfl, h1, h2⟩
  have G1 := Lib.hid h1
  have G2 := Lib.hid h2
  clear h1 h2
  go_wp2_with fail
  go_end0
  exact ⟨rfl, by rw [E.out]; exact G1.out, HK2.out.trans G2.out⟩
set_option maxRecDepth 100000 in
set_option maxHeartbeats 4000000 in
theorem plain_24 {x : GB} (hd : GD x) {code : List InsV} {at_ : Nat} {w : World} (h : CW x code at_ w) (hl : code.length ≤ 100000) (op : Nat) (a int : Int) (text : ByteArray) (slot : Int) (ho : op = 24) :
    Calls Try.prog 24 #[.pointer (some ⟨x.gb, 0, none⟩), .agg #[.int .u8 (op : Int), .int .i64 a, .int .i64 int, .string text], .int .i64 slot] w (KPost x (.tuple #[]) (code ++ plainI ⟨op, a, int, text⟩ slot) at_ w) := by
  have E := Lib.hid (show plainI ⟨op, a, int, text⟩ slot = [⟨24, 0, 0, text⟩] by rw [plain_row]; subst ho; rfl)
  have hb := (Below.refl _ w).alloc (Nat.le_refl _) (.cells #[.int .u8 (op : Int), .int .i64 a, .int .i64 int, .string text] 31)
  have H1 := Lib.hid (h.low hd hb)
  have HK := Lib.hid (GK.of_below (gb := x.gb) (base := x.base) hb)
  have o3 : ((op : Int) == 3) = false := by simp; omega
  have o4 : ((op : Int) == 4) = false := by simp; omega
  have o5 : ((op : Int) == 5) = false := by simp; omega
  have o26 : ((op : Int) == 26) = false := by simp; omega
  have o11 : ((op : Int) == 11) = false := by simp; omega
  have o23 : ((op : Int) == 23) = false := by simp; omega
  have o24 : ((op : Int) == 24) = true := by simp; omega
  have HO := Lib.hid ho
  have HD := Lib.hid hd
  clear h ho hb hd
  have HP := Lib.hid (fun W (h : CW x code at_ W) => put_any HD.out h hl ⟨24, 0, 0, text⟩)
  simp only [InsV.val] at HP
  go_enter Try.func24, Try.ntmps24
  go_upto_region 14 with fail
  obtain ⟨w1, hw1⟩ : ∃ w1, w1 = w.alloc (.cells #[.int .u8 (op : Int), .int .i64 a, .int .i64 int, .string text] 31) := ⟨_, rfl⟩
  have hbd : Below w1.heap.size w1 w1.drew := (Below.refl _ w1).drew
  have x0 : w1.drew.cell? ⟨w.heap.size, 0, none⟩ = some (.int .u8 (op : Int)) := (hbd.cell (p := ⟨w.heap.size, 0, none⟩) (by rw [hw1]; simp)).trans (by rw [hw1]; simp)
  have x1 : w1.drew.cell? ⟨w.heap.size, 1, none⟩ = some (.int .i64 a) := (hbd.cell (p := ⟨w.heap.size, 1, none⟩) (by rw [hw1]; simp)).trans (by rw [hw1]; simp)
  have x2 : w1.drew.cell? ⟨w.heap.size, 2, none⟩ = some (.int .i64 int) := (hbd.cell (p := ⟨w.heap.size, 2, none⟩) (by rw [hw1]; simp)).trans (by rw [hw1]; simp)
  have x3 : w1.drew.cell? ⟨w.heap.size, 3, none⟩ = some (.string text) := (hbd.cell (p := ⟨w.heap.size, 3, none⟩) (by rw [hw1]; simp)).trans (by rw [hw1]; simp)
  rw [← hw1] at H1 HK ⊢
  have H2 := Lib.hid (H1.out.low HD.out hbd)
  have HK2 := Lib.hid (HK.out.trans (GK.of_below (gb := x.gb) (base := x.base) hbd))
  clear hw1 hbd H1 HK
  go_still_tail 6, (by kernel_rfl)
  change wpList _ _ _ _ _ w1.drew
  generalize w1.drew = wd at *
  go_wp2_with fail
  refine (HP.out _ H2.out).mono ?_
  rintro e w5 ⟨rfl, h1, h2⟩
  have G1 := Lib.hid h1
  have G2 := Lib.hid h2
  clear h1 h2
  go_wp2_with fail
  go_end0
  exact ⟨rfl, by rw [E.out]; exact G1.out, HK2.out.trans G2.out⟩
set_option maxRecDepth 100000 in
set_option maxHeartbeats 4000000 in
theorem plain_25 {x : GB} (hd : GD x) {code : List InsV} {at_ : Nat} {w : World} (h : CW x code at_ w) (hl : code.length ≤ 100000) (op : Nat) (a int : Int) (text : ByteArray) (slot : Int) (ho : op = 25) :
    Calls Try.prog 24 #[.pointer (some ⟨x.gb, 0, none⟩), .agg #[.int .u8 (op : Int), .int .i64 a, .int .i64 int, .string text], .int .i64 slot] w (KPost x (.tuple #[]) (code ++ plainI ⟨op, a, int, text⟩ slot) at_ w) := by
  have E := Lib.hid (show plainI ⟨op, a, int, text⟩ slot = [insA 25 a] by rw [plain_row]; subst ho; rfl)
  have hb := (Below.refl _ w).alloc (Nat.le_refl _) (.cells #[.int .u8 (op : Int), .int .i64 a, .int .i64 int, .string text] 31)
  have H1 := Lib.hid (h.low hd hb)
  have HK := Lib.hid (GK.of_below (gb := x.gb) (base := x.base) hb)
  have o3 : ((op : Int) == 3) = false := by simp; omega
  have o4 : ((op : Int) == 4) = false := by simp; omega
  have o5 : ((op : Int) == 5) = false := by simp; omega
  have o26 : ((op : Int) == 26) = false := by simp; omega
  have o11 : ((op : Int) == 11) = false := by simp; omega
  have o23 : ((op : Int) == 23) = false := by simp; omega
  have o24 : ((op : Int) == 24) = false := by simp; omega
  have o25 : ((op : Int) == 25) = true := by simp; omega
  have HO := Lib.hid ho
  have HD := Lib.hid hd
  clear h ho hb hd
  have HP := Lib.hid (fun W (h : CW x code at_ W) => put_any HD.out h hl ⟨25, a, 0, ⟨#[]⟩⟩)
  simp only [InsV.val] at HP
  go_enter Try.func24, Try.ntmps24
  go_upto_region 16 with fail
  obtain ⟨w1, hw1⟩ : ∃ w1, w1 = w.alloc (.cells #[.int .u8 (op : Int), .int .i64 a, .int .i64 int, .string text] 31) := ⟨_, rfl⟩
  have hbd : Below w1.heap.size w1 w1.drew := (Below.refl _ w1).drew
  have x0 : w1.drew.cell? ⟨w.heap.size, 0, none⟩ = some (.int .u8 (op : Int)) := (hbd.cell (p := ⟨w.heap.size, 0, none⟩) (by rw [hw1]; simp)).trans (by rw [hw1]; simp)
  have x1 : w1.drew.cell? ⟨w.heap.size, 1, none⟩ = some (.int .i64 a) := (hbd.cell (p := ⟨w.heap.size, 1, none⟩) (by rw [hw1]; simp)).trans (by rw [hw1]; simp)
  have x2 : w1.drew.cell? ⟨w.heap.size, 2, none⟩ = some (.int .i64 int) := (hbd.cell (p := ⟨w.heap.size, 2, none⟩) (by rw [hw1]; simp)).trans (by rw [hw1]; simp)
  have x3 : w1.drew.cell? ⟨w.heap.size, 3, none⟩ = some (.string text) := (hbd.cell (p := ⟨w.heap.size, 3, none⟩) (by rw [hw1]; simp)).trans (by rw [hw1]; simp)
  rw [← hw1] at H1 HK ⊢
  have H2 := Lib.hid (H1.out.low HD.out hbd)
  have HK2 := Lib.hid (HK.out.trans (GK.of_below (gb := x.gb) (base := x.base) hbd))
  clear hw1 hbd H1 HK
  go_still_tail 6, (by kernel_rfl)
  change wpList _ _ _ _ _ w1.drew
  generalize w1.drew = wd at *
  go_wp2_with fail
  refine (HP.out _ H2.out).mono ?_
  rintro e w5 ⟨rfl, h1, h2⟩
  have G1 := Lib.hid h1
  have G2 := Lib.hid h2
  clear h1 h2
  go_wp2_with fail
  go_end0
  exact ⟨rfl, by rw [E.out]; exact G1.out, HK2.out.trans G2.out⟩
set_option maxRecDepth 100000 in
set_option maxHeartbeats 4000000 in
theorem plain_50 {x : GB} (hd : GD x) {code : List InsV} {at_ : Nat} {w : World} (h : CW x code at_ w) (hl : code.length ≤ 100000) (op : Nat) (a int : Int) (text : ByteArray) (slot : Int) (ho : op = 50) :
    Calls Try.prog 24 #[.pointer (some ⟨x.gb, 0, none⟩), .agg #[.int .u8 (op : Int), .int .i64 a, .int .i64 int, .string text], .int .i64 slot] w (KPost x (.tuple #[]) (code ++ plainI ⟨op, a, int, text⟩ slot) at_ w) := by
  have E := Lib.hid (show plainI ⟨op, a, int, text⟩ slot = [⟨op, a, 0, text⟩] by rw [plain_row]; subst ho; rfl)
  have hb := (Below.refl _ w).alloc (Nat.le_refl _) (.cells #[.int .u8 (op : Int), .int .i64 a, .int .i64 int, .string text] 31)
  have H1 := Lib.hid (h.low hd hb)
  have HK := Lib.hid (GK.of_below (gb := x.gb) (base := x.base) hb)
  have o3 : ((op : Int) == 3) = false := by simp; omega
  have o4 : ((op : Int) == 4) = false := by simp; omega
  have o5 : ((op : Int) == 5) = false := by simp; omega
  have o26 : ((op : Int) == 26) = false := by simp; omega
  have o11 : ((op : Int) == 11) = false := by simp; omega
  have o23 : ((op : Int) == 23) = false := by simp; omega
  have o24 : ((op : Int) == 24) = false := by simp; omega
  have o25 : ((op : Int) == 25) = false := by simp; omega
  have o50 : ((op : Int) == 50) = true := by simp; omega
  have HO := Lib.hid ho
  have HD := Lib.hid hd
  clear h ho hb hd
  have HP := Lib.hid (fun W (h : CW x code at_ W) => put_any HD.out h hl ⟨op, a, 0, text⟩)
  simp only [InsV.val] at HP
  go_enter Try.func24, Try.ntmps24
  go_upto_region 19 with fail
  obtain ⟨w1, hw1⟩ : ∃ w1, w1 = w.alloc (.cells #[.int .u8 (op : Int), .int .i64 a, .int .i64 int, .string text] 31) := ⟨_, rfl⟩
  have hbd : Below w1.heap.size w1 w1.drew := (Below.refl _ w1).drew
  have x0 : w1.drew.cell? ⟨w.heap.size, 0, none⟩ = some (.int .u8 (op : Int)) := (hbd.cell (p := ⟨w.heap.size, 0, none⟩) (by rw [hw1]; simp)).trans (by rw [hw1]; simp)
  have x1 : w1.drew.cell? ⟨w.heap.size, 1, none⟩ = some (.int .i64 a) := (hbd.cell (p := ⟨w.heap.size, 1, none⟩) (by rw [hw1]; simp)).trans (by rw [hw1]; simp)
  have x2 : w1.drew.cell? ⟨w.heap.size, 2, none⟩ = some (.int .i64 int) := (hbd.cell (p := ⟨w.heap.size, 2, none⟩) (by rw [hw1]; simp)).trans (by rw [hw1]; simp)
  have x3 : w1.drew.cell? ⟨w.heap.size, 3, none⟩ = some (.string text) := (hbd.cell (p := ⟨w.heap.size, 3, none⟩) (by rw [hw1]; simp)).trans (by rw [hw1]; simp)
  rw [← hw1] at H1 HK ⊢
  have H2 := Lib.hid (H1.out.low HD.out hbd)
  have HK2 := Lib.hid (HK.out.trans (GK.of_below (gb := x.gb) (base := x.base) hbd))
  clear hw1 hbd H1 HK
  go_still_tail 10, (by kernel_rfl)
  change wpList _ _ _ _ _ w1.drew
  generalize w1.drew = wd at *
  go_wp2_with fail
  refine (HP.out _ H2.out).mono ?_
  rintro e w5 ⟨rfl, h1, h2⟩
  have G1 := Lib.hid h1
  have G2 := Lib.hid h2
  clear h1 h2
  go_wp2_with fail
  go_end0
  exact ⟨rfl, by rw [E.out]; exact G1.out, HK2.out.trans G2.out⟩
set_option maxRecDepth 100000 in
set_option maxHeartbeats 4000000 in
theorem plain_51 {x : GB} (hd : GD x) {code : List InsV} {at_ : Nat} {w : World} (h : CW x code at_ w) (hl : code.length ≤ 100000) (op : Nat) (a int : Int) (text : ByteArray) (slot : Int) (ho : op = 51) :
    Calls Try.prog 24 #[.pointer (some ⟨x.gb, 0, none⟩), .agg #[.int .u8 (op : Int), .int .i64 a, .int .i64 int, .string text], .int .i64 slot] w (KPost x (.tuple #[]) (code ++ plainI ⟨op, a, int, text⟩ slot) at_ w) := by
  have E := Lib.hid (show plainI ⟨op, a, int, text⟩ slot = [⟨op, a, 0, text⟩] by rw [plain_row]; subst ho; rfl)
  have hb := (Below.refl _ w).alloc (Nat.le_refl _) (.cells #[.int .u8 (op : Int), .int .i64 a, .int .i64 int, .string text] 31)
  have H1 := Lib.hid (h.low hd hb)
  have HK := Lib.hid (GK.of_below (gb := x.gb) (base := x.base) hb)
  have o3 : ((op : Int) == 3) = false := by simp; omega
  have o4 : ((op : Int) == 4) = false := by simp; omega
  have o5 : ((op : Int) == 5) = false := by simp; omega
  have o26 : ((op : Int) == 26) = false := by simp; omega
  have o11 : ((op : Int) == 11) = false := by simp; omega
  have o23 : ((op : Int) == 23) = false := by simp; omega
  have o24 : ((op : Int) == 24) = false := by simp; omega
  have o25 : ((op : Int) == 25) = false := by simp; omega
  have o50 : ((op : Int) == 50) = false := by simp; omega
  have o51 : ((op : Int) == 51) = true := by simp; omega
  have HO := Lib.hid ho
  have HD := Lib.hid hd
  clear h ho hb hd
  have HP := Lib.hid (fun W (h : CW x code at_ W) => put_any HD.out h hl ⟨op, a, 0, text⟩)
  simp only [InsV.val] at HP
  go_enter Try.func24, Try.ntmps24
  go_upto_region 19 with fail
  obtain ⟨w1, hw1⟩ : ∃ w1, w1 = w.alloc (.cells #[.int .u8 (op : Int), .int .i64 a, .int .i64 int, .string text] 31) := ⟨_, rfl⟩
  have hbd : Below w1.heap.size w1 w1.drew := (Below.refl _ w1).drew
  have x0 : w1.drew.cell? ⟨w.heap.size, 0, none⟩ = some (.int .u8 (op : Int)) := (hbd.cell (p := ⟨w.heap.size, 0, none⟩) (by rw [hw1]; simp)).trans (by rw [hw1]; simp)
  have x1 : w1.drew.cell? ⟨w.heap.size, 1, none⟩ = some (.int .i64 a) := (hbd.cell (p := ⟨w.heap.size, 1, none⟩) (by rw [hw1]; simp)).trans (by rw [hw1]; simp)
  have x2 : w1.drew.cell? ⟨w.heap.size, 2, none⟩ = some (.int .i64 int) := (hbd.cell (p := ⟨w.heap.size, 2, none⟩) (by rw [hw1]; simp)).trans (by rw [hw1]; simp)
  have x3 : w1.drew.cell? ⟨w.heap.size, 3, none⟩ = some (.string text) := (hbd.cell (p := ⟨w.heap.size, 3, none⟩) (by rw [hw1]; simp)).trans (by rw [hw1]; simp)
  rw [← hw1] at H1 HK ⊢
  have H2 := Lib.hid (H1.out.low HD.out hbd)
  have HK2 := Lib.hid (HK.out.trans (GK.of_below (gb := x.gb) (base := x.base) hbd))
  clear hw1 hbd H1 HK
  go_still_tail 10, (by kernel_rfl)
  change wpList _ _ _ _ _ w1.drew
  generalize w1.drew = wd at *
  go_wp2_with fail
  refine (HP.out _ H2.out).mono ?_
  rintro e w5 ⟨rfl, h1, h2⟩
  have G1 := Lib.hid h1
  have G2 := Lib.hid h2
  clear h1 h2
  go_wp2_with fail
  go_end0
  exact ⟨rfl, by rw [E.out]; exact G1.out, HK2.out.trans G2.out⟩
set_option maxRecDepth 100000 in
set_option maxHeartbeats 4000000 in
theorem plain_56 {x : GB} (hd : GD x) {code : List InsV} {at_ : Nat} {w : World} (h : CW x code at_ w) (hl : code.length ≤ 100000) (op : Nat) (a int : Int) (text : ByteArray) (slot : Int) (ho : op = 56) :
    Calls Try.prog 24 #[.pointer (some ⟨x.gb, 0, none⟩), .agg #[.int .u8 (op : Int), .int .i64 a, .int .i64 int, .string text], .int .i64 slot] w (KPost x (.tuple #[]) (code ++ plainI ⟨op, a, int, text⟩ slot) at_ w) := by
  have E := Lib.hid (show plainI ⟨op, a, int, text⟩ slot = [⟨56, 0, 0, text⟩] by rw [plain_row]; subst ho; rfl)
  have hb := (Below.refl _ w).alloc (Nat.le_refl _) (.cells #[.int .u8 (op : Int), .int .i64 a, .int .i64 int, .string text] 31)
  have H1 := Lib.hid (h.low hd hb)
  have HK := Lib.hid (GK.of_below (gb := x.gb) (base := x.base) hb)
  have o3 : ((op : Int) == 3) = false := by simp; omega
  have o4 : ((op : Int) == 4) = false := by simp; omega
  have o5 : ((op : Int) == 5) = false := by simp; omega
  have o26 : ((op : Int) == 26) = false := by simp; omega
  have o11 : ((op : Int) == 11) = false := by simp; omega
  have o23 : ((op : Int) == 23) = false := by simp; omega
  have o24 : ((op : Int) == 24) = false := by simp; omega
  have o25 : ((op : Int) == 25) = false := by simp; omega
  have o50 : ((op : Int) == 50) = false := by simp; omega
  have o51 : ((op : Int) == 51) = false := by simp; omega
  have o56 : ((op : Int) == 56) = true := by simp; omega
  have HO := Lib.hid ho
  have HD := Lib.hid hd
  clear h ho hb hd
  have HP := Lib.hid (fun W (h : CW x code at_ W) => put_any HD.out h hl ⟨56, 0, 0, text⟩)
  simp only [InsV.val] at HP
  go_enter Try.func24, Try.ntmps24
  go_upto_region 21 with fail
  obtain ⟨w1, hw1⟩ : ∃ w1, w1 = w.alloc (.cells #[.int .u8 (op : Int), .int .i64 a, .int .i64 int, .string text] 31) := ⟨_, rfl⟩
  have hbd : Below w1.heap.size w1 w1.drew := (Below.refl _ w1).drew
  have x0 : w1.drew.cell? ⟨w.heap.size, 0, none⟩ = some (.int .u8 (op : Int)) := (hbd.cell (p := ⟨w.heap.size, 0, none⟩) (by rw [hw1]; simp)).trans (by rw [hw1]; simp)
  have x1 : w1.drew.cell? ⟨w.heap.size, 1, none⟩ = some (.int .i64 a) := (hbd.cell (p := ⟨w.heap.size, 1, none⟩) (by rw [hw1]; simp)).trans (by rw [hw1]; simp)
  have x2 : w1.drew.cell? ⟨w.heap.size, 2, none⟩ = some (.int .i64 int) := (hbd.cell (p := ⟨w.heap.size, 2, none⟩) (by rw [hw1]; simp)).trans (by rw [hw1]; simp)
  have x3 : w1.drew.cell? ⟨w.heap.size, 3, none⟩ = some (.string text) := (hbd.cell (p := ⟨w.heap.size, 3, none⟩) (by rw [hw1]; simp)).trans (by rw [hw1]; simp)
  rw [← hw1] at H1 HK ⊢
  have H2 := Lib.hid (H1.out.low HD.out hbd)
  have HK2 := Lib.hid (HK.out.trans (GK.of_below (gb := x.gb) (base := x.base) hbd))
  clear hw1 hbd H1 HK
  go_still_tail 6, (by kernel_rfl)
  change wpList _ _ _ _ _ w1.drew
  generalize w1.drew = wd at *
  go_wp2_with fail
  refine (HP.out _ H2.out).mono ?_
  rintro e w5 ⟨rfl, h1, h2⟩
  have G1 := Lib.hid h1
  have G2 := Lib.hid h2
  clear h1 h2
  go_wp2_with fail
  go_end0
  exact ⟨rfl, by rw [E.out]; exact G1.out, HK2.out.trans G2.out⟩
set_option maxRecDepth 100000 in
set_option maxHeartbeats 4000000 in
theorem plain_rest {x : GB} (hd : GD x) {code : List InsV} {at_ : Nat} {w : World} (h : CW x code at_ w) (hl : code.length ≤ 100000) (op : Nat) (a int : Int) (text : ByteArray) (slot : Int) (ho : op ≠ 3 ∧ op ≠ 4 ∧ op ≠ 5 ∧ op ≠ 26 ∧ op ≠ 11 ∧ op ≠ 23 ∧ op ≠ 24 ∧ op ≠ 25 ∧ op ≠ 50 ∧ op ≠ 51 ∧ op ≠ 56) :
    Calls Try.prog 24 #[.pointer (some ⟨x.gb, 0, none⟩), .agg #[.int .u8 (op : Int), .int .i64 a, .int .i64 int, .string text], .int .i64 slot] w (KPost x (.tuple #[]) (code ++ plainI ⟨op, a, int, text⟩ slot) at_ w) := by
  have E := Lib.hid (show plainI ⟨op, a, int, text⟩ slot = [insO op] by rw [plain_row]; (repeat rw [if_neg (by omega)]))
  have hb := (Below.refl _ w).alloc (Nat.le_refl _) (.cells #[.int .u8 (op : Int), .int .i64 a, .int .i64 int, .string text] 31)
  have H1 := Lib.hid (h.low hd hb)
  have HK := Lib.hid (GK.of_below (gb := x.gb) (base := x.base) hb)
  have o3 : ((op : Int) == 3) = false := by simp; omega
  have o4 : ((op : Int) == 4) = false := by simp; omega
  have o5 : ((op : Int) == 5) = false := by simp; omega
  have o26 : ((op : Int) == 26) = false := by simp; omega
  have o11 : ((op : Int) == 11) = false := by simp; omega
  have o23 : ((op : Int) == 23) = false := by simp; omega
  have o24 : ((op : Int) == 24) = false := by simp; omega
  have o25 : ((op : Int) == 25) = false := by simp; omega
  have o50 : ((op : Int) == 50) = false := by simp; omega
  have o51 : ((op : Int) == 51) = false := by simp; omega
  have o56 : ((op : Int) == 56) = false := by simp; omega
  have HO := Lib.hid ho
  have HD := Lib.hid hd
  clear h ho hb hd
  have HP := Lib.hid (fun W (h : CW x code at_ W) => op_any HD.out h hl (op))
  go_enter Try.func24, Try.ntmps24
  go_upto_region 2 with fail
  obtain ⟨w1, hw1⟩ : ∃ w1, w1 = w.alloc (.cells #[.int .u8 (op : Int), .int .i64 a, .int .i64 int, .string text] 31) := ⟨_, rfl⟩
  have hbd : Below w1.heap.size w1 w1.drew := (Below.refl _ w1).drew
  have x0 : w1.drew.cell? ⟨w.heap.size, 0, none⟩ = some (.int .u8 (op : Int)) := (hbd.cell (p := ⟨w.heap.size, 0, none⟩) (by rw [hw1]; simp)).trans (by rw [hw1]; simp)
  have x1 : w1.drew.cell? ⟨w.heap.size, 1, none⟩ = some (.int .i64 a) := (hbd.cell (p := ⟨w.heap.size, 1, none⟩) (by rw [hw1]; simp)).trans (by rw [hw1]; simp)
  have x2 : w1.drew.cell? ⟨w.heap.size, 2, none⟩ = some (.int .i64 int) := (hbd.cell (p := ⟨w.heap.size, 2, none⟩) (by rw [hw1]; simp)).trans (by rw [hw1]; simp)
  have x3 : w1.drew.cell? ⟨w.heap.size, 3, none⟩ = some (.string text) := (hbd.cell (p := ⟨w.heap.size, 3, none⟩) (by rw [hw1]; simp)).trans (by rw [hw1]; simp)
  rw [← hw1] at H1 HK ⊢
  have H2 := Lib.hid (H1.out.low HD.out hbd)
  have HK2 := Lib.hid (HK.out.trans (GK.of_below (gb := x.gb) (base := x.base) hbd))
  clear hw1 hbd H1 HK
  go_still_tail 5, (by kernel_rfl)
  change wpList _ _ _ _ _ w1.drew
  generalize w1.drew = wd at *
  go_wp2_with fail
  refine (HP.out _ H2.out).mono ?_
  rintro e w5 ⟨rfl, h1, h2⟩
  have G1 := Lib.hid h1
  have G2 := Lib.hid h2
  clear h1 h2
  go_wp2_with fail
  go_end0
  exact ⟨rfl, by rw [E.out]; exact G1.out, HK2.out.trans G2.out⟩
/-- goer.plain: a twig's own instruction, laid down. -/
theorem plain_any {x : GB} (hd : GD x) {code : List InsV} {at_ : Nat} {w : World} (h : CW x code at_ w) (hl : code.length ≤ 100000) (op : Nat) (a int : Int) (text : ByteArray) (slot : Int) :
    Calls Try.prog 24 #[.pointer (some ⟨x.gb, 0, none⟩), .agg #[.int .u8 (op : Int), .int .i64 a, .int .i64 int, .string text], .int .i64 slot] w (KPost x (.tuple #[]) (code ++ plainI ⟨op, a, int, text⟩ slot) at_ w) := by
  by_cases h3 : op = 3
  · exact plain_3 hd h hl op a int text slot h3
  by_cases h4 : op = 4
  · exact plain_4 hd h hl op a int text slot h4
  by_cases h5 : op = 5
  · exact plain_5 hd h hl op a int text slot h5
  by_cases h26 : op = 26
  · exact plain_26 hd h hl op a int text slot h26
  by_cases h11 : op = 11
  · exact plain_11 hd h hl op a int text slot h11
  by_cases h23 : op = 23
  · exact plain_23 hd h hl op a int text slot h23
  by_cases h24 : op = 24
  · exact plain_24 hd h hl op a int text slot h24
  by_cases h25 : op = 25
  · exact plain_25 hd h hl op a int text slot h25
  by_cases h50 : op = 50
  · exact plain_50 hd h hl op a int text slot h50
  by_cases h51 : op = 51
  · exact plain_51 hd h hl op a int text slot h51
  by_cases h56 : op = 56
  · exact plain_56 hd h hl op a int text slot h56
  exact plain_rest hd h hl op a int text slot ⟨h3, h4, h5, h26, h11, h23, h24, h25, h50, h51, h56⟩
end Go.Proofs.Ytjfdokoigkdciaa

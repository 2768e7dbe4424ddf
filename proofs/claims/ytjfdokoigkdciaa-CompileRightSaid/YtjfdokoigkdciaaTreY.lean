/- tree.Check, walked. -/
import Derived.Test.YtjfdokoigkdciaaTreX
import Derived.Test.YtjfdokoigkdciaaFrmA
namespace Go.Proofs.Ytjfdokoigkdciaa
open Go.RowKit

set_option maxRecDepth 100000 in
set_option maxHeartbeats 4000000 in
theorem tcheck_any {A : Option Addr} {c : Nat} {cs : List InsV} {w : World} (hc : CodeIn w A cs) (hok : OkC cs) (hl : cs.length ≤ 9223372036854775807) :
    Calls Try.prog 16 #[.slice A cs.length c] w (RetB (.tuple #[.int .i64 (treeS cs).1, .int .i64 (treeS cs).2]) w) := by
  have hsf : ∀ (a : Addr) (f : Fn) (c1 c2 : Array Value) (m : Mode) (w : World), (store a (.func f c1 c2) m).run Try.prog w = stored Try.prog w a (.func f c1 c2) m := fun a f c1 c2 m w => run_store _ w a _ m rfl
  have hsm : ∀ (a : Addr) (b : Option Nat) (m : Mode) (w : World), (store a (.map b) m).run Try.prog w = stored Try.prog w a (.map b) m := fun a b m w => run_store _ w a _ m rfl
  have HC := Lib.hid hc
  clear hc
  by_cases hbig : 2048 < cs.length
  · have d1 : decide ((2048 : Int) < (cs.length : Int)) = true := decide_eq_true (by omega)
    have E := Lib.hid (show treeS cs = (0, 2) by unfold treeS; rw [if_pos hbig])
    generalize treeS cs = r at *
    go_enter Try.func16, Try.ntmps16
    go_wp2_with fail
    go_ret2
    exact ⟨by rw [E.out]; rfl, by first | exact (Below.refl _ w).alloc (Nat.le_refl _) _ | go_grown⟩
  · have d1 : decide ((2048 : Int) < (cs.length : Int)) = false := decide_eq_false (by omega)
    generalize hr : treeS cs = r
    have HR := Lib.hid hr
    clear hr
    go_enter Try.func16, Try.ntmps16
    go_wp2_with fail
    refine (forms_any _).mono ?_
    rintro e w2 ⟨b, rfl, hm, hb2, hbl⟩
    have HM := Lib.hid hm
    have HB := Lib.hid hb2
    have t0 : w2.cell? ⟨w.heap.size, 0, none⟩ = some (.slice A cs.length c) := (hb2.cell (p := ⟨w.heap.size, 0, none⟩) (by simp)).trans (by simp)
    have t1 := World.block_lt_of_cell? w2 _ t0
    simp only at t1
    clear hm hb2
    go_wp2_with fail
    obtain ⟨wx, hwx⟩ : ∃ wx, wx = ((((w2.alloc (.cells #[.map (some b)] 72)).alloc (.cells #[.int .i64 (-1)] 3)).alloc (.cells #[.int .i64 (-1)] 3)).alloc (.cells #[.func (.func 31) #[] #[.pointer (some ⟨w.heap.size, 0, none⟩), .pointer (some ⟨w2.heap.size + 1, 0, none⟩), .pointer (some ⟨w2.heap.size, 0, none⟩), .pointer (some ⟨w2.heap.size + 1 + 1, 0, none⟩), .pointer (some ⟨w2.heap.size + 1 + 1 + 1, 0, none⟩)]] 74)) := ⟨_, rfl⟩
    rw [← hwx]
    have hbx : Below w2.heap.size w2 wx := by rw [hwx]; exact ((((Below.refl _ w2).alloc (Nat.le_refl _) _).alloc (by simp) _).alloc (by simp; omega) _).alloc (by simp; omega) _
    have hwb : Below w.heap.size w wx := bthen (bthen ((Below.refl _ w).alloc (Nat.le_refl _) _) HB.out) hbx
    have HWB := Lib.hid hwb
    have hzx := hbx.size
    have hmlt := HM.out.lt
    obtain ⟨x1, hx1⟩ : ∃ x1, x1 = w2.alloc (.cells #[.map (some b)] 72) := ⟨_, rfl⟩
    obtain ⟨x2, hx2⟩ : ∃ x2, x2 = x1.alloc (.cells #[.int .i64 (-1)] 3) := ⟨_, rfl⟩
    obtain ⟨x3, hx3⟩ : ∃ x3, x3 = x2.alloc (.cells #[.int .i64 (-1)] 3) := ⟨_, rfl⟩
    rw [← hx1, ← hx2, ← hx3] at hwx
    have z1 : x1.heap.size = w2.heap.size + 1 := by rw [hx1]; simp
    have z2 : x2.heap.size = w2.heap.size + 1 + 1 := by rw [hx2]; simp [z1]
    have z3 : x3.heap.size = w2.heap.size + 1 + 1 + 1 := by rw [hx3]; simp [z2]
    have y2 : Below x1.heap.size x1 x2 := by rw [hx2]; exact (Below.refl _ x1).alloc (Nat.le_refl _) _
    have y3 : Below x2.heap.size x2 x3 := by rw [hx3]; exact (Below.refl _ x2).alloc (Nat.le_refl _) _
    have y4 : Below x3.heap.size x3 wx := by rw [hwx]; exact (Below.refl _ x3).alloc (Nat.le_refl _) _
    have cm : x1.cell? ⟨w2.heap.size, 0, none⟩ = some (.map (some b)) := by rw [hx1]; simp
    have cw : x2.cell? ⟨w2.heap.size + 1, 0, none⟩ = some (.int .i64 (-1)) := by rw [hx2, ← z1]; simp
    have fw : x2.frozen? ⟨w2.heap.size + 1, 0, none⟩ = false := by rw [hx2, ← z1]; simp
    have cd : x3.cell? ⟨w2.heap.size + 1 + 1, 0, none⟩ = some (.int .i64 (-1)) := by rw [hx3, ← z2]; simp
    have fd : x3.frozen? ⟨w2.heap.size + 1 + 1, 0, none⟩ = false := by rw [hx3, ← z2]; simp
    have cf : wx.cell? ⟨w2.heap.size + 1 + 1 + 1, 0, none⟩ = some (.func (.func 31) #[] #[.pointer (some ⟨w.heap.size, 0, none⟩), .pointer (some ⟨w2.heap.size + 1, 0, none⟩), .pointer (some ⟨w2.heap.size, 0, none⟩), .pointer (some ⟨w2.heap.size + 1 + 1, 0, none⟩), .pointer (some ⟨w2.heap.size + 1 + 1 + 1, 0, none⟩)]) := by rw [hwx, ← z3]; simp
    have y24 : Below x2.heap.size x2 wx := bthen y3 y4
    have y14 : Below x1.heap.size x1 wx := bthen y2 y24
    have HTW := Lib.hid (show TW ⟨w.heap.size, w2.heap.size + 1, w2.heap.size, w2.heap.size + 1 + 1, w2.heap.size + 1 + 1 + 1, b, A, c, cs⟩ (-1) (-1) wx from
      ⟨(hbx.cell (p := ⟨w.heap.size, 0, none⟩) t1).trans t0, (y24.cell (p := ⟨w2.heap.size + 1, 0, none⟩) (by simp only; omega)).trans cw, (y14.cell (p := ⟨w2.heap.size, 0, none⟩) (by simp only; omega)).trans cm, (y4.cell (p := ⟨w2.heap.size + 1 + 1, 0, none⟩) (by simp only; omega)).trans cd, cf,
        HM.out.below hbx hmlt, HC.out.below hwb (Nat.le_refl _), (y24.frozen (p := ⟨w2.heap.size + 1, 0, none⟩) (by simp only; omega)).trans fw, (y4.frozen (p := ⟨w2.heap.size + 1 + 1, 0, none⟩) (by simp only; omega)).trans fd⟩)
    clear hx1 hx2 hx3 z1 z2 z3 y2 y3 y4 cm cw fw cd fd cf y24 y14
    have HD := Lib.hid (show TD ⟨w.heap.size, w2.heap.size + 1, w2.heap.size, w2.heap.size + 1 + 1, w2.heap.size + 1 + 1 + 1, b, A, c, cs⟩ from
      ⟨by simp only; omega, by simp only [noT]; omega, by simp only [noT]; omega, by simp only [noT]; omega, by simp only [noT]; omega, fun hl b' off e => by
        obtain ⟨b2, o2, e2, hlt, _⟩ := HC.out hl
        simp only at e
        rw [e] at e2
        cases e2
        simp only [noT]; omega, hok, by simp only; omega⟩)
    have HCA := Lib.hid (walk_any _ HD.out (cs.length + 1) 0 1 _ _ (-1) (-1) wx HTW.out (may_true _ wx) (by decide) (by simp only; omega) (Nat.zero_le _) (by simp only; omega))
    clear hwx hbx hwb t0
    refine (show Calls Try.prog 31 #[.int .i64 0, .int .i64 1, .func (.func 33) #[] #[], .pointer (some ⟨w.heap.size, 0, none⟩), .pointer (some ⟨w2.heap.size + 1, 0, none⟩), .pointer (some ⟨w2.heap.size, 0, none⟩), .pointer (some ⟨w2.heap.size + 1 + 1, 0, none⟩), .pointer (some ⟨w2.heap.size + 1 + 1 + 1, 0, none⟩)] wx _ from HCA.out).mono ?_
    rintro e w5 ⟨rfl, ht5, hk5⟩
    have t5 := ht5.t
    have u5 := ht5.wr
    have v5 := ht5.dp
    simp only at t5 u5 v5
    have HBB := Lib.hid (show Below w.heap.size w w5 from HWB.out.trans (hk5.below (B := w.heap.size) HWB.out.size (fun k hk => by simp only [noT]; omega)))
    have HT := Lib.hid HR.out
    unfold treeS at HT
    clear HR HCA HTW HD ht5 hk5 HB HM HC hsf hsm HWB
    rw [if_neg hbig] at HT
    simp only at HT
    generalize walkS cs (cs.length + 1) 0 1 (fun _ => true) (-1) (-1) = q at *
    by_cases h1 : 0 ≤ q.2.1
    · have e1 : decide ((0 : Int) ≤ q.2.1) = true := decide_eq_true h1
      have E := Lib.hid (show (q.2.1, (3 : Int)) = r by have := HT.out; rwa [if_pos h1] at this)
      clear HT h1
      go_wp2_with fail
      go_ret2
      exact ⟨by rw [← E.out]; rfl, HBB.out⟩
    · have e1 : decide ((0 : Int) ≤ q.2.1) = false := decide_eq_false h1
      by_cases h2 : q.1 < cs.length
      · have e2 : decide ((q.1 : Int) < (cs.length : Int)) = true := decide_eq_true (by omega)
        have E := Lib.hid (show ((q.1 : Int), (3 : Int)) = r by have := HT.out; rwa [if_neg h1, if_pos h2] at this)
        clear HT h1
        go_wp2_with fail
        go_ret2
        exact ⟨by rw [← E.out]; rfl, HBB.out⟩
      · have e2 : decide ((q.1 : Int) < (cs.length : Int)) = false := decide_eq_false (by omega)
        by_cases h3 : 0 ≤ q.2.2
        · have e3 : decide ((0 : Int) ≤ q.2.2) = true := decide_eq_true h3
          have E := Lib.hid (show (q.2.2, (2 : Int)) = r by have := HT.out; rwa [if_neg h1, if_neg h2, if_pos h3] at this)
          clear HT h1 h3
          go_wp2_with fail
          go_ret2
          exact ⟨by rw [← E.out]; rfl, HBB.out⟩
        · have e3 : decide ((0 : Int) ≤ q.2.2) = false := decide_eq_false h3
          have E := Lib.hid (show ((0 : Int), (0 : Int)) = r by have := HT.out; rwa [if_neg h1, if_neg h2, if_neg h3] at this)
          clear HT h1 h3
          go_wp2_with fail
          go_ret2
          exact ⟨by rw [← E.out]; rfl, HBB.out⟩
end Go.Proofs.Ytjfdokoigkdciaa

/- compile.Compile, walked. -/
import Derived.Test.YtjfdokoigkdciaaCplN
import Derived.Test.YtjfdokoigkdciaaSltD
namespace Go.Proofs.Ytjfdokoigkdciaa
open Go.RowKit

/-- A flow's code. -/
def codeS (cs : List InsV) : List InsV := (compS cs (slotS cs).1 (cs.length + 1) 0 0).1
/-- What compile.Compile answers, and leaves. -/
def CmpP (cs : List InsV) (w : World) (e : Ending) (w' : World) : Prop := Below w.heap.size w w' ∧
  (((slotS cs).2.2 = 0 ∧ ∃ A' cap, e = .returned (.tuple #[.slice A' (codeS cs).length cap, .int .i64 ((atV cs 0).a - 1), .int .i64 0]) ∧ CodeIn w' A' (codeS cs)) ∨
   ((slotS cs).2.2 ≠ 0 ∧ e = .returned (.tuple #[.slice none 0 0, .int .i64 0, .int .i64 (slotS cs).2.2])))
set_option maxRecDepth 100000 in
set_option maxHeartbeats 4000000 in
theorem compile_any {A : Option Addr} {c : Nat} {cs : List InsV} {w : World} (hc : CodeIn w A cs) (hok : OkC cs) (hl : cs.length ≤ 9223372036854775807) :
    Calls Try.prog 6 #[.slice A cs.length c] w (CmpP cs w) := by
  have SA := Lib.hid (slots_any (c := c) hc hok hl)
  have SO := Lib.hid (@slotS_ok cs)
  have HC := Lib.hid hc
  have E := Lib.hid (show codeS cs = (compS cs (slotS cs).1 (cs.length + 1) 0 0).1 from rfl)
  unfold CmpP
  clear hc
  generalize codeS cs = code at *
  generalize slotS cs = r at *
  go_enter Try.func6, Try.ntmps6
  go_wp2_with fail
  refine SA.out.mono ?_
  rintro e w1 ⟨v, rfl, h1, h2⟩
  have HV := Lib.hid h1
  have HB := Lib.hid h2
  clear h1 h2 SA
  by_cases hr : r.2.2 = 0
  · obtain ⟨s1, s2, s3, s4⟩ := SO.out hr
    obtain ⟨t1, t2⟩ := treeS_right s1
    obtain ⟨rb, cap, rfl, hro⟩ : ∃ rb cap : Nat, v = .slice (some ⟨rb, 0, none⟩) r.1.length cap ∧ RowI w1 rb cap r.1 := by
      have := HV.out
      unfold SlotV at this
      rwa [if_pos hr] at this
    have o1 : (r.2.2 == 0) = true := by simp [hr]
    have o2 : (r.2.2 != 0) = false := by simp [hr]
    have HR := Lib.hid hr
    have HRO := Lib.hid hro
    have HS3 := Lib.hid s3
    have HT1 := Lib.hid t1
    have HT2 := Lib.hid t2
    have hop : (atV cs 0).op ≠ 2 := by omega
    have HOP := Lib.hid hop
    have HC1 := Lib.hid (HC.out.below HB.out (Nat.le_refl _))
    have h0' : 0 < cs.length := t2.lt.1
    have hkb := tw_kidsC (rt_ok t2)
    clear hr hro s1 s2 s3 s4 t1 t2 HV hop
    go_wp2_with fail
    obtain ⟨w2, hw2⟩ : ∃ w2, w2 = w1.alloc (.cells #[.slice none 0 0, .slice A cs.length c, .slice (some ⟨rb, 0, none⟩) r.1.length cap, .int .i64 0] 48) := ⟨_, rfl⟩
    rw [← hw2]
    have hb2 : Below w1.heap.size w1 w2 := by rw [hw2]; exact (Below.refl _ w1).alloc (Nat.le_refl _) _
    have hbk : w2.heap[w1.heap.size]? = some (.cells #[.slice none 0 0, .slice A cs.length c, .slice (some ⟨rb, 0, none⟩) r.1.length cap, .int .i64 0] 48 (0, 0)) := by rw [hw2]; exact heap_alloc_new _ _
    have hz2 : w2.heap.size = w1.heap.size + 1 := by rw [hw2]; simp
    obtain ⟨x, hx⟩ : ∃ x : GB, x = ⟨w1.heap.size, w1.heap.size + 1, rb, cap, A, c, cs, r.1⟩ := ⟨_, rfl⟩
    have HGD := Lib.hid (show GD x by
      subst hx
      exact ⟨by simp only; omega, fun hl b off e => by
        obtain ⟨b', off', e', hlt, _⟩ := HC1.out hl
        simp only at e
        rw [e] at e'
        cases e'
        simp only; omega, by have := HRO.out.lt; simp only; omega, hok, HT1.out, HS3.out⟩)
    have HCW := Lib.hid (show CW x [] 0 w2 by
      subst hx
      exact ⟨⟨.slice none 0 0, by simp only; rw [Lib.cell_of_heap hbk]; rfl, World.ownsRow_nil _ _ _ _⟩, by simp only; rw [Lib.cell_of_heap hbk]; rfl, by simp only; rw [Lib.cell_of_heap hbk]; rfl, by simp only; rw [Lib.cell_of_heap hbk]; rfl, fun o => Lib.frozen_of_heap hbk o,
        HC1.out.below hb2 (Nat.le_refl _), HRO.out.block (hb2.block _ HRO.out.lt), by simp only; omega⟩)
    have hxg : x.gb = w1.heap.size ∧ x.base = w1.heap.size + 1 ∧ x.cs = cs ∧ x.so = r.1 ∧ x.A = A := by rw [hx]; exact ⟨rfl, rfl, rfl, rfl, rfl⟩
    have HXG := Lib.hid hxg
    have HB2 := Lib.hid (bthen HB.out hb2)
    have HN := Lib.hid (show Calls Try.prog 13 #[.pointer (some ⟨w1.heap.size, 0, none⟩)] w2 (KPost x (.tuple #[]) code cs.length w2) by
      have h := next_any x HGD.out (cs.length + 1) 0 cs.length (fun _ => true) [] w2 HCW.out (by rw [hxg.2.2.1]; exact HT2.out) (by rw [hxg.2.2.1]; exact HOP.out) (by rw [hxg.2.2.1]; have := HT1.out; simp; omega)
      rw [hxg.1, hxg.2.2.1, hxg.2.2.2.1, List.nil_append, List.length_nil, ← E.out] at h
      exact h)
    clear hx hxg hw2 hz2 hbk hb2 HCW
    refine HN.out.mono ?_
    rintro e w5 ⟨rfl, g1, g2⟩
    obtain ⟨v, h0, ho⟩ := g1.c0
    obtain ⟨A', cap', rfl⟩ := own_slice ho
    rw [HXG.out.1] at h0
    have HCO := Lib.hid (own_code ho rfl)
    have hcd := g1.cd
    rw [HXG.out.2.2.1, HXG.out.2.2.2.2] at hcd
    obtain ⟨cb, co, hA, hcb, hck⟩ := hcd h0'
    obtain ⟨_, k1, _⟩ := hck 0 h0'
    rw [Nat.zero_mul, Nat.add_zero] at k1
    have HB5 := Lib.hid (show Below w.heap.size w w5 from HB2.out.trans ⟨g2.os, g2.tape, g2.output, g2.size, fun k hk => by
      have := HB.out.size
      exact g2.low k (by rw [HXG.out.2.1]; omega) (by rw [HXG.out.1]; omega) (by have := HB2.out.size; omega)⟩)
    have b0 := World.block_lt_of_cell? w5 _ h0
    simp only at b0
    have hw1 : IntKind.i64.wrap ((atV cs 0).a - 1) = (atV cs 0).a - 1 := by rw [IntKind.wrap_i64]; omega
    have hd1 : decide (0 < cs.length) = true := decide_eq_true h0'
    subst hA
    clear g1 g2 ho hck o1 o2
    go_wp2_with go_quiet (fail)
    go_ret3
    exact ⟨below_drewN HB5.out _, .inl ⟨HR.out, A', cap', rfl, HCO.out.below (below_drewN (Below.refl _ w5) _) (Nat.le_refl _)⟩⟩
  · have o1 : (r.2.2 == 0) = false := by simp [hr]
    have o2 : (r.2.2 != 0) = true := by simp [hr]
    have HR := Lib.hid hr
    clear hr HV
    go_wp2_with fail
    go_ret3
    exact ⟨HB.out, .inr ⟨HR.out, rfl⟩⟩
end Go.Proofs.Ytjfdokoigkdciaa

/- check.Slots: a name that is entered, walked. -/
import Derived.Test.YtjfdokoigkdciaaSltA
import Derived.Deep.DeepCutAuto
import Derived.Deep.CutBlock
import Derived.BigQuiet
namespace Go.Proofs.Ytjfdokoigkdciaa
open Go.RowKit Go.Maps

theorem info_of {P : Program} {t : TypeId} {z : Option Value} {a b : Nat} (h : (P.info? t).map (fun i => (i.zero, i.size, i.bytes)) = some (z, a, b)) : ∃ i, P.info? t = some i ∧ i.zero = z ∧ i.size = a ∧ i.bytes = b := by
  obtain ⟨i, h1, h2⟩ := Option.map_eq_some_iff.1 h
  injection h2 with h2 h3
  injection h3 with h3 h4
  exact ⟨i, h1, h2, h3, h4⟩
theorem infoN : (Try.prog.info? 3).map (fun i => (i.zero, i.size, i.bytes)) = some (some (.int .i64 0), 1, 8) := by kernel_rfl
theorem infoS : (Try.prog.info? 9).map (fun i => (i.zero, i.size, i.bytes)) = some (some (.string ⟨#[]⟩), 1, 16) := by kernel_rfl
def EnPost (x : SB) (s : SSt) (t : ByteArray) (d : Nat) (w : World) (e : Ending) (w' : World) : Prop := e = .returned (.tuple #[]) ∧ SW x (enterS s t) (d + 1) w' ∧ Keep (noS x) w w'
set_option maxRecDepth 100000 in
set_option maxHeartbeats 4000000 in
theorem enter_any (x : SB) (hd : SD x) (s : SSt) (d : Nat) (t : ByteArray) (hts : t.size ≤ 1000) (w : World) (hw : SW x s d w) (hl : s.out.length < x.cs.length) (hm0 : 0 ≤ s.made) (hm1 : s.made ≤ 100) :
    Calls Try.prog 17 (#[.string t] ++ x.ecaps) w (EnPost x s t d w) := by
  have h1 := hw.sn
  have h2 := hw.ft
  have h3 := hw.md
  have h4 := hw.ou
  have z2 := hw.zf
  have z3 := hw.zm
  have z4 := hw.zo
  have HW := Lib.hid hw
  have HD := Lib.hid hd
  obtain ⟨n, hn, hm⟩ := hw.mp
  have hlook := maps_look hm hts
  have hE := Lib.hid (show enterS s t = { s with fault := if Maps.has s.seen (litS t) then 111 else if s.made = 100 then 2 else s.fault, out := s.out ++ [s.made], made := s.made + 1 } from rfl)
  unfold ansS at hlook
  generalize intD (s.seen.atKey (litS t) (.lit (.int .i64 0))) = q at hlook
  generalize Maps.has s.seen (litS t) = is at *
  show Calls Try.prog 17 #[.string t, .pointer (some ⟨x.sb, 0, none⟩), .pointer (some ⟨x.fb, 0, none⟩), .pointer (some ⟨x.mb, 0, none⟩), .pointer (some ⟨x.ob, 0, none⟩)] w _
  have b1 := World.block_lt_of_cell? w _ h1
  have b2 := World.block_lt_of_cell? w _ h2
  have b3 := World.block_lt_of_cell? w _ h3
  have b4 := World.block_lt_of_cell? w _ h4
  simp only at b1 b2 b3 b4
  clear hw hm hd
  have hwr : IntKind.i64.wrap (s.made + 1) = s.made + 1 := by rw [IntKind.wrap_i64]; omega
  obtain ⟨i0, hi0, _, hi1, _⟩ := info_of infoN
  have HI0 := Lib.hid hi0
  have HI1 := Lib.hid hi1
  clear hi0 hi1
  rcases (show is = true ∨ (is = false ∧ s.made = 100) ∨ (is = false ∧ s.made ≠ 100) by cases is <;> simp <;> omega) with hc | hc | hc
  case' inl =>
    subst hc
    have E := Lib.hid (show enterS s t = { s with fault := 111, out := s.out ++ [s.made], made := s.made + 1 } by rw [hE.out]; rfl)
    clear hE
    go_enter Try.func17, Try.ntmps17
    go_upto_region 5 with fail
    have HW1 := Lib.hid (HW.out.setF HD.out 111)
    have HK1 := Lib.hid ((Keep.refl (noS x) w).setCell (p := ⟨x.fb, 0, none⟩) (.inr (.inr (.inl rfl))) (.int .i64 111))
    have hz := Nat.le_of_eq (World.size_setCell (w := w) ⟨x.fb, 0, none⟩ (.int .i64 111)).symm
    clear h1 h2 h3 h4 z2 z3 z4 HW hlook
    generalize w.setCell ⟨x.fb, 0, none⟩ (.int .i64 111) = w1 at *
    generalize (111 : Int) = fl at HW1 E
  case' inr.inl =>
    obtain ⟨rfl, hc⟩ := hc
    have hd1 : decide (s.made = 100) = true := decide_eq_true hc
    have E := Lib.hid (show enterS s t = { s with fault := 2, out := s.out ++ [s.made], made := s.made + 1 } by rw [hE.out]; simp [hc])
    clear hE
    go_enter Try.func17, Try.ntmps17
    go_upto_region 5 with fail
    have HW1 := Lib.hid (HW.out.setF HD.out 2)
    have HK1 := Lib.hid ((Keep.refl (noS x) w).setCell (p := ⟨x.fb, 0, none⟩) (.inr (.inr (.inl rfl))) (.int .i64 2))
    have hz := Nat.le_of_eq (World.size_setCell (w := w) ⟨x.fb, 0, none⟩ (.int .i64 2)).symm
    clear h1 h2 h3 h4 z2 z3 z4 HW hlook hc hd1
    generalize w.setCell ⟨x.fb, 0, none⟩ (.int .i64 2) = w1 at *
    generalize (2 : Int) = fl at HW1 E
  case' inr.inr =>
    obtain ⟨rfl, hc⟩ := hc
    have hd1 : decide (s.made = 100) = false := decide_eq_false hc
    have E := Lib.hid (show enterS s t = { s with fault := s.fault, out := s.out ++ [s.made], made := s.made + 1 } by rw [hE.out]; simp [hc])
    clear hE
    go_enter Try.func17, Try.ntmps17
    go_upto_region 5 with fail
    have HW1 := Lib.hid (show SW x { s with fault := s.fault } d w from HW.out)
    have HK1 := Lib.hid (Keep.refl (noS x) w)
    have hz : w.heap.size ≤ w.heap.size := Nat.le_refl _
    clear h1 h2 h3 h4 z2 z3 z4 HW hlook hc hd1
    generalize w = w1 at *
  all_goals (
    obtain ⟨cur, g1, g2, g3⟩ := HW1.out.ro
    have h3 := HW1.out.md
    have h4 := HW1.out.ou
    have z4 := HW1.out.zo
    have q3 := World.block_lt_of_cell? w1 _ h3
    have q4 := World.block_lt_of_cell? w1 _ h4
    simp only at h3 h4 q3 q4
    have HG := Lib.hid (show (w1.alloc (.cells #[.int .i64 s.made] 3)).heap[x.rb]? = some (.cells cur 3 (0, 0)) from (Below.heap_alloc _ _ _ HW1.out.ro.lt).trans g1)
    have HGC := Lib.hid g2
    have HGT := Lib.hid g3
    clear g1 g2 g3
    go_wp2_with (at_builtin; refine wpList_append_room1 _ rfl _ _ 41 rfl 3 i0 Try.underlying41 HI0.out HI1.out x.rb s.out.length x.cs.length cur rfl HG.out ⟨w1.heap.size, 0, none⟩ 1 (.int .i64 s.made) rfl (cell_one_new _ _ _) rfl (by omega) (by rw [HGC.out]; omega) ?_)
    intro w2 hg2 hr2
    have HG2 := Lib.hid hg2
    have HR2 := Lib.hid hr2
    have k4 : w2.cell? ⟨x.ob, 0, none⟩ = some (.slice (some ⟨x.rb, 0, none⟩) s.out.length x.cs.length) :=
      (World.cell?_of_block (w := w1.alloc (.cells #[.int .i64 s.made] 3)) (a := ⟨x.ob, 0, none⟩) (hg2.block _ (by simp; omega) (fun e => HD.out.rr.2.2.2 (by injection e with e; exact e.symm)))).trans (by rw [World.cell?_alloc_old _ _ _ (Nat.ne_of_lt q4)]; exact h4)
    have f4 : w2.frozen? ⟨x.ob, 0, none⟩ = false :=
      (World.frozen?_of_block (w := w1.alloc (.cells #[.int .i64 s.made] 3)) (a := ⟨x.ob, 0, none⟩) (hg2.block _ (by simp; omega) (fun e => HD.out.rr.2.2.2 (by injection e with e; exact e.symm)))).trans (by rw [World.frozen?_alloc_old _ _ _ (Nat.ne_of_lt q4)]; exact z4)
    have HW3 := Lib.hid (SW.app HD.out (HW1.out.low HD.out ((Below.refl _ w1).alloc (Nat.le_refl _) (.cells #[.int .i64 s.made] 3))) s.made HGT.out HGC.out HG2.out HR2.out)
    have HK3 := Lib.hid ((HK1.out.alloc (.cells #[.int .i64 s.made] 3)).trans ((Keep.grown HG2.out (.inr (.inr (.inr (.inr (.inr rfl)))))).setCell (p := ⟨x.ob, 0, none⟩) (.inr (.inr (.inr (.inl rfl)))) (.slice (some ⟨x.rb, 0, none⟩) (s.out.length + 1) x.cs.length)))
    clear hg2 hr2 h3 h4 z4 q3 q4 HG HGC HGT HW1 HK1
    go_upto_region 6 with fail
    generalize w2.setCell ⟨x.ob, 0, none⟩ (.slice (some ⟨x.rb, 0, none⟩) (s.out.length + 1) x.cs.length) = w3 at *
    have h3 := HW3.out.md
    have z3 := HW3.out.zm
    have q3 := World.block_lt_of_cell? w3 _ h3
    simp only at h3 q3
    go_wp2_with fail
    go_end0
    refine ⟨rfl, ?_, ?_⟩
    · rw [E.out]; exact HW3.out.setM HD.out _
    · exact HK3.out.setCell (.inr (.inl rfl)) _)
end Go.Proofs.Ytjfdokoigkdciaa

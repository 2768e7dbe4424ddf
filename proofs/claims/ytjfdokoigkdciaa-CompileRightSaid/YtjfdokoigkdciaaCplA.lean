/- compile: the emitter's words, walked. -/
import Derived.Test.YtjfdokoigkdciaaCplM
import Derived.Defers
namespace Go.Proofs.Ytjfdokoigkdciaa
open Go.RowKit

/-- The call returned v; the compiler's code is now this. -/
def KPost (x : GB) (v : Value) (code : List InsV) (at_ : Nat) (w : World) (e : Ending) (w' : World) : Prop := e = .returned v ∧ CW x code at_ w' ∧ GK x.gb x.base w w'
theorem op_any {x : GB} (hd : GD x) {code : List InsV} {at_ : Nat} {w : World} (h : CW x code at_ w) (hl : code.length ≤ 100000) (op : Nat) :
    Calls Try.prog 19 #[.pointer (some ⟨x.gb, 0, none⟩), .int .u8 (op : Int)] w (KPost x (.tuple #[]) (code ++ [insO op]) at_ w) := by
  have HP := Lib.hid (put_any hd h hl (insO op))
  simp only [insO, InsV.val] at HP
  go_enter Try.func19, Try.ntmps19
  go_wp2_with fail
  refine HP.out.mono ?_
  rintro e w1 ⟨rfl, h1, h2⟩
  go_wp2_with fail
  go_end0
  exact ⟨rfl, h1, h2⟩
theorem here_any {x : GB} {code : List InsV} {at_ : Nat} {w : World} (h : CW x code at_ w) :
    Calls Try.prog 21 #[.pointer (some ⟨x.gb, 0, none⟩)] w (Ret (.int .i64 (code.length : Int)) w) := by
  obtain ⟨v, h0, ho⟩ := h.c0
  obtain ⟨A0, c0, rfl⟩ := own_slice ho
  clear h ho
  go_enter Try.func21, Try.ntmps21
  go_wp2_with fail
  go_ret
  exact ⟨rfl, rfl⟩
/-- A jump whose end is still open: where its closure's variables lie. -/
structure HoleAt (x : GB) (pb ib k : Nat) (w : World) : Prop where
  p : w.heap[pb]? = some (.cells #[.pointer (some ⟨x.gb, 0, none⟩)] 80 (0, 0))
  i : w.heap[ib]? = some (.cells #[.int .i64 (k : Int)] 3 (0, 0))
  np : pb ≠ x.gb
  ni : ib ≠ x.gb
theorem HoleAt.keep {x : GB} {pb ib k : Nat} {w w' : World} (h : HoleAt x pb ib k w) (hk : GK x.gb x.base w w') : HoleAt x pb ib k w' :=
  ⟨hk.high _ _ _ (by decide) h.np h.p, hk.high _ _ _ (by decide) h.ni h.i, h.np, h.ni⟩
def holeF (pb ib : Nat) : Value := .func (.func 34) #[] #[.pointer (some ⟨pb, 0, none⟩), .pointer (some ⟨ib, 0, none⟩)]
def HPost (x : GB) (code : List InsV) (op at_ : Nat) (w : World) (e : Ending) (w' : World) : Prop := ∃ pb ib, e = .returned (holeF pb ib) ∧ CW x (code ++ [insO op]) at_ w' ∧ GK x.gb x.base w w' ∧ HoleAt x pb ib code.length w'
set_option maxRecDepth 100000 in
theorem hole_any {x : GB} (hd : GD x) {code : List InsV} {at_ : Nat} {w : World} (h : CW x code at_ w) (hl : code.length ≤ 100000) (op : Nat) :
    Calls Try.prog 20 #[.pointer (some ⟨x.gb, 0, none⟩), .int .u8 (op : Int)] w (HPost x code op at_ w) := by
  have hb := (Below.refl _ w).alloc (Nat.le_refl _) (.cells #[.pointer (some ⟨x.gb, 0, none⟩)] 80)
  have HP := Lib.hid (put_any hd (h.low hd hb) hl (insO op))
  have HK0 := Lib.hid (GK.of_below (gb := x.gb) (base := x.base) hb)
  have hgs : x.gb < w.heap.size := Nat.lt_of_lt_of_le hd.lt h.hb
  simp only [insO, InsV.val] at HP
  have HD := Lib.hid hd
  clear hb h hd
  go_enter Try.func20, Try.ntmps20
  go_wp2_with fail
  refine HP.out.mono ?_
  rintro e w1 ⟨rfl, h1, h2⟩
  have c1 : w1.heap[w.heap.size]? = some (.cells #[.pointer (some ⟨x.gb, 0, none⟩)] 80 (0, 0)) := h2.high _ _ _ (by decide) (by omega) (heap_alloc_new _ _)
  have H1 := Lib.hid h1
  have H2 := Lib.hid h2
  have C1 := Lib.hid c1
  clear h1 h2 c1
  go_wp2_with fail
  go_ret
  have hb2 := (Below.refl _ w1).alloc (Nat.le_refl _) (.cells #[.int .i64 (code.length : Int)] 3)
  have s1 := H2.out.size
  simp at s1
  exact ⟨_, _, rfl, H1.out.low HD.out hb2, (HK0.out.trans H2.out).trans (GK.of_below hb2), (hb2.block _ (by omega)).trans C1.out, heap_alloc_new _ _, by omega, by omega⟩
/-- A jump's end filled in: the place behind all code. -/
def fillS (code : List InsV) (k : Nat) : List InsV := code.set k { atV code k with a := (code.length : Int) }
theorem fillS_length (code : List InsV) (k : Nat) : (fillS code k).length = code.length := by unfold fillS; simp
theorem fill_cells : ∀ (code : List InsV) (k : Nat) (v : Int), k < code.length → codeCells (code.set k { atV code k with a := v }) = (codeCells code).set (k * 4 + 1) (.int .i64 v)
  | [], k, v, h => absurd h (by simp)
  | i :: code, 0, v, _ => by simp [codeCells, InsV.cells, atV]
  | i :: code, k + 1, v, h => by
    have := fill_cells code k v (by simpa using h)
    have e : atV (i :: code) (k + 1) = atV code k := by simp [atV]
    rw [e, List.set_cons_succ]
    have e2 : ∀ c : List InsV, codeCells (i :: c) = i.cells ++ codeCells c := fun c => by simp [codeCells]
    rw [e2, e2, this, show (k + 1) * 4 + 1 = i.cells.length + (k * 4 + 1) by simp [InsV.cells]; omega, List.set_append_right _ _ (by omega)]
    congr 2
    omega
theorem CW.fill {x : GB} (hd : GD x) {code : List InsV} {at_ : Nat} {w : World} {g cap k : Nat} (h : CW x code at_ w) (ho : w.ownsRow x.base kIns 4 (.slice (some ⟨g, 0, none⟩) code.length cap) code.length (codeCells code)) (h0 : w.cell? ⟨x.gb, 0, none⟩ = some (.slice (some ⟨g, 0, none⟩) code.length cap)) (hk : k < code.length) :
    CW x (fillS code k) at_ (w.setCell ⟨g, k * 4 + 1, none⟩ (.int .i64 (code.length : Int))) ∧ GK x.gb x.base w (w.setCell ⟨g, k * 4 + 1, none⟩ (.int .i64 (code.length : Int))) := by
  obtain ⟨s1, s2⟩ := ho.stored (k * 4 + 1) (.int .i64 (code.length : Int))
  have hlt : x.gb < w.heap.size := Nat.lt_of_lt_of_le hd.lt h.hb
  have cg := fun o => grown_g (v := .slice (some ⟨g, 0, none⟩) code.length cap) s2 ho hd.lt hlt o
  have k3 : GK x.gb x.base w (w.setCell ⟨g, k * 4 + 1, none⟩ (.int .i64 (code.length : Int))) := GK.grown (v := .slice (some ⟨g, 0, none⟩) code.length cap) s2 ho
  have lo := fun k (hk : k < x.base) (hn : k ≠ x.gb) => k3.low k hk hn (Nat.lt_of_lt_of_le hk h.hb)
  refine ⟨⟨⟨_, (cg 0).1.trans h0, ?_⟩, (cg 1).1.trans h.c1, (cg 2).1.trans h.c2, (cg 3).1.trans h.c3, fun o => (cg o).2.trans (h.fz o), ?_, h.ro.block (lo _ hd.sb.1 hd.sb.2), Nat.le_trans h.hb s2.size⟩, k3⟩
  · rw [fillS_length]
    unfold fillS
    rw [fill_cells code k _ hk]
    exact s1
  · intro hl
    obtain ⟨b, off, e, hb, hc⟩ := h.cd hl
    obtain ⟨hb1, hb2⟩ := hd.cb hl b off e
    have hk := fun o => World.cell?_of_block (w := w) (a := ⟨b, o, none⟩) (lo b hb1 hb2)
    exact ⟨b, off, e, by have := s2.size; omega, fun k hkk => by
      obtain ⟨g1, g2, g3, g4⟩ := hc k hkk
      exact ⟨(hk _).trans g1, (hk _).trans g2, (hk _).trans g3, (hk _).trans g4⟩⟩
theorem still_of {f : FuncId} {args : Array Value} {v : Value} {w : World} (h : Calls Try.prog f args w (Ret v w)) : Calls Try.prog f args w (fun e w' => e = .returned v ∧ w' = w) := h.mono fun _ _ ⟨h1, h2⟩ => ⟨h1, h2.symm⟩
set_option maxRecDepth 100000 in
theorem fill_any {x : GB} (hd : GD x) {code : List InsV} {at_ pb ib k : Nat} {w : World} (h : CW x code at_ w) (hh : HoleAt x pb ib k w) (hk : k < code.length) (hl : code.length ≤ 100000) :
    Calls Try.prog 34 #[.pointer (some ⟨pb, 0, none⟩), .pointer (some ⟨ib, 0, none⟩)] w (KPost x (.tuple #[]) (fillS code k) at_ w) := by
  have hbd : Below w.heap.size w w.drew := (Below.refl _ w).drew
  have hD := h.low hd hbd
  obtain ⟨v, h0, ho⟩ := hD.c0
  obtain ⟨g, cap, rfl, hg1, hg2⟩ := ho.form (by omega)
  have p0 : w.drew.cell? ⟨pb, 0, none⟩ = some (.pointer (some ⟨x.gb, 0, none⟩)) := by rw [Lib.cell_of_heap (hh.keep (GK.of_below hbd)).p]; rfl
  have i0 : w.drew.cell? ⟨ib, 0, none⟩ = some (.int .i64 (k : Int)) := by rw [Lib.cell_of_heap (hh.keep (GK.of_below hbd)).i]; rfl
  have HH := Lib.hid (here_any hD)
  have HK := Lib.hid (GK.of_below (gb := x.gb) (base := x.base) hbd)
  have H := Lib.hid hD
  have HO := Lib.hid ho
  have HD := Lib.hid hd
  have c1 : decide ((k : Int) < (code.length : Int)) = true := decide_eq_true (by omega)
  clear h hd hD ho hh hbd
  go_enter Try.func34, Try.ntmps34
  go_upto_region 0 with fail
  go_still_tail 9, (by kernel_rfl)
  still_call (still_of HH.out)
  repeat still_step
  refine wpStill_nil ?_
  change wpList _ _ _ _ _ w.drew
  generalize w.drew = wd at *
  have hcc := (own_code HO.out rfl) (by omega)
  obtain ⟨b, off, e, _, hc⟩ := hcc
  cases e
  have k1 := (hc k hk).2.1
  rw [show 0 + k * 4 + 1 = k * 4 + 1 by omega] at k1
  have z1 : wd.frozen? ⟨g, k * 4 + 1, none⟩ = false := by
    rcases HO.out.2 with ⟨e, _⟩ | ⟨g', cap', cur, e, _, hg, _⟩
    · cases e
    · cases e
      exact Lib.frozen_of_heap hg _
  clear hc
  go_wp2_with fail
  go_end0
  obtain ⟨r1, r2⟩ := CW.fill HD.out H.out HO.out h0 hk
  exact ⟨rfl, r1, HK.out.trans r2⟩
/-- The same, where the call was deferred. -/
def KDPost (x : GB) (code : List InsV) (at_ : Nat) (u : FrameMode) (w : World) (e : Ending) (u' : FrameMode) (w' : World) : Prop := u' = u ∧ e = .returned (.tuple #[]) ∧ CW x code at_ w' ∧ GK x.gb x.base w w'
set_option maxRecDepth 100000 in
theorem fillD_any {x : GB} (hd : GD x) {code : List InsV} {at_ pb ib k : Nat} {w : World} (h : CW x code at_ w) (hh : HoleAt x pb ib k w) (hk : k < code.length) (hl : code.length ≤ 100000) (u : FrameMode) :
    CallsD Try.prog 34 #[.pointer (some ⟨pb, 0, none⟩), .pointer (some ⟨ib, 0, none⟩)] u w (KDPost x (fillS code k) at_ u w) := by
  have hbd : Below w.heap.size w w.drew := (Below.refl _ w).drew
  have hD := h.low hd hbd
  obtain ⟨v, h0, ho⟩ := hD.c0
  obtain ⟨g, cap, rfl, hg1, hg2⟩ := ho.form (by omega)
  have p0 : w.drew.cell? ⟨pb, 0, none⟩ = some (.pointer (some ⟨x.gb, 0, none⟩)) := by rw [Lib.cell_of_heap (hh.keep (GK.of_below hbd)).p]; rfl
  have i0 : w.drew.cell? ⟨ib, 0, none⟩ = some (.int .i64 (k : Int)) := by rw [Lib.cell_of_heap (hh.keep (GK.of_below hbd)).i]; rfl
  have HH := Lib.hid (here_any hD)
  have HK := Lib.hid (GK.of_below (gb := x.gb) (base := x.base) hbd)
  have H := Lib.hid hD
  have HO := Lib.hid ho
  have HD := Lib.hid hd
  have c1 : decide ((k : Int) < (code.length : Int)) = true := decide_eq_true (by omega)
  clear h hd hD ho hh hbd
  go_enter_d Try.func34, Try.ntmps34
  go_upto_region 0 with fail
  go_still_tail 9, (by kernel_rfl)
  still_call (still_of HH.out)
  repeat still_step
  refine wpStill_nil ?_
  change wpList _ _ _ _ _ w.drew
  generalize w.drew = wd at *
  have hcc := (own_code HO.out rfl) (by omega)
  obtain ⟨b, off, e, _, hc⟩ := hcc
  cases e
  have k1 := (hc k hk).2.1
  rw [show 0 + k * 4 + 1 = k * 4 + 1 by omega] at k1
  have z1 : wd.frozen? ⟨g, k * 4 + 1, none⟩ = false := by
    rcases HO.out.2 with ⟨e, _⟩ | ⟨g', cap', cur, e, _, hg, _⟩
    · cases e
    · cases e
      exact Lib.frozen_of_heap hg _
  clear hc
  go_wp2_with fail
  go_end0
  obtain ⟨r1, r2⟩ := CW.fill HD.out H.out HO.out h0 hk
  exact ⟨rfl, r1, HK.out.trans r2⟩
end Go.Proofs.Ytjfdokoigkdciaa

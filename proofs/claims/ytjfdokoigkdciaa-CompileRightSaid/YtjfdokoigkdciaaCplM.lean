/- compile: memory; instructions laid down, walked. -/
import Derived.Test.YtjfdokoigkdciaaCodeC
import Derived.Test.YtjfdokoigkdciaaCplP
import Derived.Test.YtjfdokoigkdciaaSltA
import Derived.Deep.DeepCutAuto
import Derived.BigQuiet
import Derived.BigRegion
import Derived.WalkSmall
import Derived.StillTailTactics
import Derived.Deep.AppendLies
import Derived.Deep.RegionLaw
namespace Go.Proofs.Ytjfdokoigkdciaa
open Go.RowKit

def kIns : TypeId := 33
theorem info_parts4 {P : Program} {t : TypeId} {z : Option Value} {a b : Nat} (h : (P.info? t).map (fun i => (i.zero, i.size, i.bytes)) = some (z, a, b)) : ∃ i, P.info? t = some i ∧ i.zero = z ∧ i.size = a ∧ i.bytes = b := by
  obtain ⟨i, h1, h2⟩ := Option.map_eq_some_iff.1 h
  injection h2 with h2 h3
  injection h3 with h3 h4
  exact ⟨i, h1, h2, h3, h4⟩
theorem infoC : (Try.prog.info? 33).map (fun i => (i.zero, i.size, i.bytes)) = some (some (.agg #[.int .u8 0, .int .i64 0, .int .i64 0, .string ⟨#[]⟩]), 4, 40) := by kernel_rfl
/-- Where the compiler's struct lies, and what it reads. -/
structure GB where
  gb : Nat
  base : Nat
  sl : Nat
  cap : Nat
  A : Option Addr
  c : Nat
  cs : List InsV
  so : List Int
structure GD (x : GB) : Prop where
  lt : x.gb < x.base
  cb : 0 < x.cs.length → ∀ b off, x.A = some ⟨b, off, none⟩ → b < x.base ∧ b ≠ x.gb
  sb : x.sl < x.base ∧ x.sl ≠ x.gb
  ok : OkC x.cs
  len : x.cs.length ≤ 2048
  sz : x.so.length = x.cs.length
structure CW (x : GB) (code : List InsV) (at_ : Nat) (w : World) : Prop where
  c0 : ∃ v, w.cell? ⟨x.gb, 0, none⟩ = some v ∧ w.ownsRow x.base kIns 4 v code.length (codeCells code)
  c1 : w.cell? ⟨x.gb, 1, none⟩ = some (.slice x.A x.cs.length x.c)
  c2 : w.cell? ⟨x.gb, 2, none⟩ = some (.slice (some ⟨x.sl, 0, none⟩) x.so.length x.cap)
  c3 : w.cell? ⟨x.gb, 3, none⟩ = some (.int .i64 (at_ : Int))
  fz : ∀ o, w.frozen? ⟨x.gb, o, none⟩ = false
  cd : CodeIn w x.A x.cs
  ro : RowI w x.sl x.cap x.so
  hb : x.base ≤ w.heap.size
/-- What a step of the compiler leaves alone: all below its own blocks but its struct, and of those all but code. -/
structure GK (gb base : Nat) (w w' : World) : Prop where
  os : w'.os = w.os
  tape : w'.tape = w.tape
  output : w'.output = w.output
  size : w.heap.size ≤ w'.heap.size
  low : ∀ k, k < base → k ≠ gb → k < w.heap.size → w'.heap[k]? = w.heap[k]?
  high : ∀ k (cur : Array Value) (t : TypeId), t ≠ kIns → k ≠ gb → w.heap[k]? = some (.cells cur t (0, 0)) → w'.heap[k]? = some (.cells cur t (0, 0))
theorem GK.refl (gb base : Nat) (w : World) : GK gb base w w := ⟨rfl, rfl, rfl, Nat.le_refl _, fun _ _ _ _ => rfl, fun _ _ _ _ _ h => h⟩
theorem GK.trans {gb base : Nat} {a b c : World} (h : GK gb base a b) (k : GK gb base b c) : GK gb base a c :=
  ⟨k.os.trans h.os, k.tape.trans h.tape, k.output.trans h.output, Nat.le_trans h.size k.size, fun i h1 h2 h3 => (k.low i h1 h2 (Nat.lt_of_lt_of_le h3 h.size)).trans (h.low i h1 h2 h3), fun i cur t h1 h2 h3 => k.high i cur t h1 h2 (h.high i cur t h1 h2 h3)⟩
theorem GK.of_below {gb base : Nat} {w w' : World} (h : Below w.heap.size w w') : GK gb base w w' :=
  ⟨h.os, h.tape, h.output, h.size, fun k _ _ h3 => h.block k h3, fun k _ _ _ _ h3 => (h.block k (Array.getElem?_eq_some_iff.1 h3).1).trans h3⟩
theorem GK.setG {gb base : Nat} {w : World} (o : Nat) (v : Value) : GK gb base w (w.setCell ⟨gb, o, none⟩ v) :=
  ⟨rfl, rfl, rfl, by simp [World.setCell], fun k _ h2 _ => Below.heap_setCell _ _ _ _ h2, fun k _ _ _ h2 h3 => (Below.heap_setCell _ _ _ _ h2).trans h3⟩
/-- A change of the call's own row of code. -/
theorem GK.grown {gb base : Nat} {w w' : World} {size n : Nat} {v : Value} {xs : List Value} (hg : w.grownBy w' v.ownBlock) (ho : w.ownsRow base kIns size v n xs) : GK gb base w w' := by
  refine ⟨hg.os, hg.tape, hg.output, hg.size, fun k h1 _ h3 => hg.block k h3 (fun e => ?_), fun k cur t h1 _ h3 => (hg.block k (Array.getElem?_eq_some_iff.1 h3).1 (fun e => ?_)).trans h3⟩
  · have := (ho.lt k e.symm).1; omega
  · rcases ho.2 with ⟨rfl, _⟩ | ⟨g, cap, cur', rfl, _, hg', _⟩
    · cases e
    · simp only [Value.ownBlock, Option.some.injEq] at e
      subst e
      rw [hg'] at h3
      injection h3 with h3
      injection h3 with _ h4 _
      exact h1 h4.symm
/-- The compiler's variables, where nothing that is old is changed. -/
theorem CW.low {x : GB} {code : List InsV} {at_ : Nat} {w w' : World} (h : CW x code at_ w) (hd : GD x) (hb : Below w.heap.size w w') : CW x code at_ w' := by
  obtain ⟨v, h0, ho⟩ := h.c0
  have hlt : x.gb < w.heap.size := Nat.lt_of_lt_of_le hd.lt h.hb
  have c := fun o => hb.cell (p := ⟨x.gb, o, none⟩) hlt
  exact ⟨⟨v, (c 0).trans h0, own_below ho hb⟩, (c 1).trans h.c1, (c 2).trans h.c2, (c 3).trans h.c3, fun o => (hb.frozen (p := ⟨x.gb, o, none⟩) hlt).trans (h.fz o), h.cd.keep hb, h.ro.block (hb.block _ h.ro.lt), Nat.le_trans h.hb hb.size⟩
theorem grown_g {w w0 w' : World} {base gb size n : Nat} {v : Value} {xs : List Value} (hg : w.grownBy w' v.ownBlock) (ho : w0.ownsRow base kIns size v n xs) (hgb : gb < base) (hlt : gb < w.heap.size) (o : Nat) :
    w'.cell? ⟨gb, o, none⟩ = w.cell? ⟨gb, o, none⟩ ∧ w'.frozen? ⟨gb, o, none⟩ = w.frozen? ⟨gb, o, none⟩ := by
  have hb := hg.block gb hlt (fun e => by have := (ho.lt gb e.symm).1; omega)
  exact ⟨World.cell?_of_block (a := ⟨gb, o, none⟩) hb, World.frozen?_of_block (a := ⟨gb, o, none⟩) hb⟩
theorem CW.laid {x : GB} (hd : GD x) {code : List InsV} {at_ : Nat} {w1 w2 w3 : World} {v v' : Value} {i : InsV} (h : CW x code at_ w1) (hv : w1.ownsRow x.base kIns 4 v code.length (codeCells code)) (h2 : Below w1.heap.size w1 w2) (hg : w2.grownBy w3 v.ownBlock)
    (ho : w3.ownsRow x.base kIns 4 v' (code.length + 1) (codeCells code ++ i.cells)) : CW x (code ++ [i]) at_ (w3.setCell ⟨x.gb, 0, none⟩ v') ∧ GK x.gb x.base w1 (w3.setCell ⟨x.gb, 0, none⟩ v') := by
  have h2' := h.low hd h2
  have hlt : x.gb < w2.heap.size := Nat.lt_of_lt_of_le hd.lt h2'.hb
  have hv2 := own_below hv h2
  have cg := fun o => grown_g hg hv2 hd.lt hlt o
  have k3 : GK x.gb x.base w2 w3 := GK.grown hg hv2
  have lo : ∀ k, k < x.base → k ≠ x.gb → (w3.setCell ⟨x.gb, 0, none⟩ v').heap[k]? = w2.heap[k]? := fun k hk hn => (Below.heap_setCell _ _ _ _ hn).trans (k3.low k hk hn (Nat.lt_of_lt_of_le hk h2'.hb))
  obtain ⟨v0, e0, _⟩ := h2'.c0
  refine ⟨⟨⟨v', World.cell?_setCell_same w3 _ _ ((cg 0).1.trans e0), ?_⟩, ?_, ?_, ?_, ?_, ?_, ?_, ?_⟩, ((GK.of_below h2).trans k3).trans (GK.setG 0 v')⟩
  · rw [List.length_append, codeCells_snoc]
    exact ownsRow_setCell_below ho hd.lt _
  · exact (World.cell?_setCell_other _ _ _ _ (by simp)).trans ((cg 1).1.trans h2'.c1)
  · exact (World.cell?_setCell_other _ _ _ _ (by simp)).trans ((cg 2).1.trans h2'.c2)
  · exact (World.cell?_setCell_other _ _ _ _ (by simp)).trans ((cg 3).1.trans h2'.c3)
  · intro o; rw [World.frozen?_setCell]; exact (cg o).2.trans (h2'.fz o)
  · intro hl
    obtain ⟨b, off, e, hb, hc⟩ := h2'.cd hl
    obtain ⟨hb1, hb2⟩ := hd.cb hl b off e
    have hk := fun o => World.cell?_of_block (w := w2) (a := ⟨b, o, none⟩) (lo b hb1 hb2)
    exact ⟨b, off, e, by have := hg.size; simp [World.setCell]; omega, fun k hkk => by
      obtain ⟨g1, g2, g3, g4⟩ := hc k hkk
      exact ⟨(hk _).trans g1, (hk _).trans g2, (hk _).trans g3, (hk _).trans g4⟩⟩
  · exact h2'.ro.block (lo _ hd.sb.1 hd.sb.2)
  · have := hg.size; have := h2'.hb; simp [World.setCell]; omega
set_option maxRecDepth 100000 in
set_option maxHeartbeats 4000000 in
theorem put_any {x : GB} (hd : GD x) {code : List InsV} {at_ : Nat} {w : World} (h : CW x code at_ w) (hl : code.length ≤ 100000) (i : InsV) :
    Calls Try.prog 22 #[.pointer (some ⟨x.gb, 0, none⟩), i.val] w fun e w' => e = .returned (.int .i64 (code.length : Int)) ∧ CW x (code ++ [i]) at_ w' ∧ GK x.gb x.base w w' := by
  obtain ⟨i0, hi, hz0, hz1, hz2⟩ := info_parts4 infoC
  have HI0 := Lib.hid hi
  have HZ0 := Lib.hid hz0
  have HZ1 := Lib.hid hz1
  have HZ2 := Lib.hid hz2
  clear hi hz0 hz1 hz2
  obtain ⟨v, h0, ho⟩ := h.c0
  have f0 := h.fz 0
  have hlt : x.gb < w.heap.size := Nat.lt_of_lt_of_le hd.lt h.hb
  have HB := Lib.hid h.hb
  have HO := Lib.hid ho
  have HD := Lib.hid hd
  have H := Lib.hid h
  obtain ⟨op, a, int, text⟩ := i
  clear h hd ho
  simp only [InsV.val]
  go_enter Try.func22, Try.ntmps22
  go_upto_region 1 with fail
  obtain ⟨w1, hw1⟩ : ∃ w1, w1 = w.alloc (.cells #[.int .u8 (op : Int), .int .i64 a, .int .i64 int, .string text] 33) := ⟨_, rfl⟩
  have hb1 : Below w.heap.size w w1 := by rw [hw1]; exact (Below.refl _ w).alloc (Nat.le_refl _) _
  have x0 : w1.cell? ⟨w.heap.size, 0, none⟩ = some (.int .u8 (op : Int)) := by rw [hw1]; simp
  have x1 : w1.cell? ⟨w.heap.size, 1, none⟩ = some (.int .i64 a) := by rw [hw1]; simp
  have x2 : w1.cell? ⟨w.heap.size, 2, none⟩ = some (.int .i64 int) := by rw [hw1]; simp
  have x3 : w1.cell? ⟨w.heap.size, 3, none⟩ = some (.string text) := by rw [hw1]; simp
  rw [← hw1]
  have HB1 := Lib.hid hb1
  have H1 := Lib.hid (H.out.low HD.out hb1)
  have h1 := (hb1.cell (p := ⟨x.gb, 0, none⟩) hlt).trans h0
  have g1 := (hb1.frozen (p := ⟨x.gb, 0, none⟩) hlt).trans f0
  have HO1 := Lib.hid (own_below HO.out hb1)
  have hlt1 : x.gb < w1.heap.size := Nat.lt_of_lt_of_le hlt hb1.size
  have HBB := Lib.hid H1.out.hb
  clear hw1 hb1 h0 f0
  go_region_law (refine step_append_lies _ (by rfl) _ _ 25 (by rfl) x.base kIns i0 (.agg #[.int .u8 0, .int .i64 0, .int .i64 0, .string ⟨#[]⟩]) 4 40 Try.underlying25 HI0.out HZ0.out HZ1.out HZ2.out rfl (by decide) _ code.length (codeCells code) (by rfl) (by exact own_below HO1.out (by go_grown)) ⟨w1.heap.size, 0, none⟩ 1 1 [.int .u8 (op : Int), .int .i64 a, .int .i64 int, .string text] (by rfl) (by rfl) (by exact cell_four_new _ _ _ _ _ _ _ (by first | rfl | simp)) (by intro u hu; simp at hu; rcases hu with rfl | rfl | rfl | rfl <;> rfl) (by omega) (by unfold maxLen; omega) (by omega) (by have := HBB.out; simp; omega) _ (by rfl) ?_; intro g' cap' w3 hown' hgrow _ _; obtain ⟨k3, z3⟩ := grown_g hgrow HO1.out HD.out.lt (by simp; omega) 0; have k3 := k3.trans ((World.cell?_alloc_lt _ _ _ hlt1).trans h1); have z3 := z3.trans ((World.frozen?_alloc_old _ _ _ (Nat.ne_of_lt hlt1)).trans g1))
  all_goals (
    have HG := Lib.hid hgrow
    have HN := Lib.hid hown'
    clear hgrow hown'
    go_wp2_with fail
    go_ret
    obtain ⟨r1, r2⟩ := CW.laid HD.out H1.out HO1.out (i := ⟨op, a, int, text⟩) (by go_grown) HG.out HN.out
    exact ⟨rfl, r1, (GK.of_below HB1.out).trans r2⟩)
end Go.Proofs.Ytjfdokoigkdciaa

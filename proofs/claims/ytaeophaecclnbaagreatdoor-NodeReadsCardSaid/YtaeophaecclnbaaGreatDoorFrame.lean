/- The frame that all laws of this seat share: from 'the call returns true and what was there is as it was' to the row. -/
import Derived.Test.YtaeophaecclnbaaGreatDoorRows
import Derived.Test.YtaeophaecclnbaaGreatDoorBase
import Derived.ProofKit
import Derived.OpenShut
import Derived.Deep.DeepHandedRow
import Derived.Deep.Slices
import Derived.OpenVars
import Derived.Lib.LaidTab
import Derived.Lay
import Derived.LaidLaws
import Derived.MakeChecks
import Derived.Stop.Joined
namespace Go.Proofs.YtaeophaecclnbaaGreatDoor
open Go.RowKit Go.ChangeShapes Go.WideShapes Go.ChangeAt

theorem own : ownKnob Tryz.prog.godebug = none := by kernel_rfl
theorem lo_0 : ((List.range Tryz.prog.types.size).all fun t => (t % 6 != 0) || rowFine Tryz.prog t) = true := by kernel_rfl
theorem lo_1 : ((List.range Tryz.prog.types.size).all fun t => (t % 6 != 1) || rowFine Tryz.prog t) = true := by kernel_rfl
theorem lo_2 : ((List.range Tryz.prog.types.size).all fun t => (t % 6 != 2) || rowFine Tryz.prog t) = true := by kernel_rfl
theorem lo_3 : ((List.range Tryz.prog.types.size).all fun t => (t % 6 != 3) || rowFine Tryz.prog t) = true := by kernel_rfl
theorem lo_4 : ((List.range Tryz.prog.types.size).all fun t => (t % 6 != 4) || rowFine Tryz.prog t) = true := by kernel_rfl
theorem lo_5 : ((List.range Tryz.prog.types.size).all fun t => (t % 6 != 5) || rowFine Tryz.prog t) = true := by kernel_rfl
theorem lo_g : (Tryz.prog.globals.all fun g => decide (g.type < Tryz.prog.types.size)) = true := by kernel_rfl
theorem lo_f : (Tryz.prog.funcs.all fun f => f.params.all fun t => decide (t < Tryz.prog.types.size)) = true := by kernel_rfl
theorem lo_pick {n k i : Nat} {p : Nat → Bool} (h : ((List.range n).all fun t => (t % k != i) || p t) = true) {t : Nat} (ht : t < n) (hi : t % k = i) : p t = true := by
  have := List.all_eq_true.1 h t (List.mem_range.2 ht)
  rw [Bool.or_eq_true] at this
  rcases this with h1 | h1
  · rw [bne_iff_ne] at h1; exact absurd hi h1
  · exact h1
theorem laidOut_seat : laidOutB Tryz.prog = true := by
  unfold laidOutB
  rw [lo_g, lo_f, Bool.and_true, Bool.and_true]
  refine List.all_eq_true.2 fun t ht => ?_
  have ht := List.mem_range.1 ht
  have h6 : t % 6 < 6 := Nat.mod_lt _ (by decide)
  have hc : t % 6 = 0 ∨ t % 6 = 1 ∨ t % 6 = 2 ∨ t % 6 = 3 ∨ t % 6 = 4 ∨ t % 6 = 5 := by omega
  rcases hc with h | h | h | h | h | h
  · exact lo_pick lo_0 ht h
  · exact lo_pick lo_1 ht h
  · exact lo_pick lo_2 ht h
  · exact lo_pick lo_3 ht h
  · exact lo_pick lo_4 ht h
  · exact lo_pick lo_5 ht h

theorem trodAll_below {P : Program} (hlo : laidOutB P = true) {H : Type} {enc : TypeId × Value → H} {W W' : World} (hb : Below W.heap.size W W') :
    ∀ {ts : List TypeId} {vs : List Value} {ds : List (DataW H)} {ps : List MemPlace}, (ts.all fun t => P.readableRec t && decide (t < P.types.size)) = true → (∀ x ∈ ps, x.block < W.heap.size) →
      DataW.TrodAll enc P W 0 (fun _ => true) true ts vs ds ps → DataW.TrodAll enc P W' 0 (fun b => decide (b < W.heap.size)) true ts vs ds ps
  | [], vs, ds, ps, _, _, h => by
    obtain ⟨rfl, rfl, rfl⟩ := trodAll_nil h
    exact trodAll_mk0
  | t :: ts, vs, ds, ps, ht, hp, h => by
    obtain ⟨v, vs', d, ds', p, p', rfl, rfl, rfl, h1, h2⟩ := trodAll_cons h
    rw [List.all_cons, Bool.and_eq_true] at ht
    obtain ⟨ht1, ht2⟩ := ht
    rw [Bool.and_eq_true, decide_eq_true_eq] at ht1
    exact trodAll_cons_mk (Below.trod hlo ht1.1 ht1.2 h1 hb (fun x hx => hp x (List.mem_append.2 (.inl hx)))) (trodAll_below hlo hb ht2 (fun x hx => hp x (List.mem_append.2 (.inr hx))) h2)

/-- FROM THE WALK TO THE ROW's POST: the call returns true, all that was there is as it was. -/
theorem law_post {H : Type} {enc : TypeId × Value → H} {f : Func} {s : ChangeSpec} {W W' : World} {args : Array Value} {ds gs : List (DataW H)} {before : List MemPlace}
    (hts : (f.params.toList.all fun t => Tryz.prog.readableRec t && decide (t < Tryz.prog.types.size)) = true) (hres : f.resultTypes = #[4]) (hvars : s.vars = [])
    (hspec : s.fn H (ds ++ gs) = { results := [.lit (.bool true)], args := ds })
    (hW : DataW.Whole enc Tryz.prog f.params.toList s.vars false W args.toList ds gs before) (hb : Below W.heap.size W W') :
    s.post enc Tryz.prog f false true false false W args (.bool true) W' := by
  have hW' := hW
  obtain ⟨p, q, hA0, hV, rfl, hfz, hnd⟩ := hW
  have hq : q = [] := by
    rw [hvars] at hV
    exact (trodVars_none hV).2
  subst hq
  have hlt : ∀ x ∈ p, x.block < W.heap.size := fun x hx => hW'.lt x (List.mem_append.2 (.inl hx))
  refine ⟨ds, gs, p ++ [], [], p, [], hW', ?_, ?_, ?_, hb.frame _, fun h => by cases h⟩
  · rw [hspec, hres]
    exact trodAll_mk1 (shut_bool Tryz.underlying4 _)
  · rw [hspec]
    exact trodAll_below laidOut_seat hb hts hlt hA0
  · rw [hspec, hvars]
    rfl

/-- 'THERE IS AN INPUT THAT FITS', at the world that the row's list lays. -/
theorem law_witness {os : Os} {H : Type} {enc : TypeId × Value → H} {f : FuncId} {fn : Func} {s : OpenSpec} {laid : List (String × DataW Unit)} (args : Array Value) {x : List (DataW H) × List (DataW H) × List MemPlace} (fuel : Nat)
    (hsh : ((World.laidAll Tryz.prog os laid).forCall (fun _ _ => 0) ⟨#[], args, []⟩).Shaped Tryz.prog)
    (hok : Input.okWideB Tryz.prog ((World.laidAll Tryz.prog os laid).forCall (fun _ _ => 0) ⟨#[], args, []⟩) f ⟨#[], args, []⟩ = true)
    (hx : DataW.whole enc Tryz.prog ((World.laidAll Tryz.prog os laid).forCall (fun _ _ => 0) ⟨#[], args, []⟩).memory fn.params.toList s.vars false args.toList fuel = some x)
    (hkk : ∀ k, s.cond = some k → k H (x.1 ++ x.2.1) = true)
    (hsz : s.bare.sizedB enc Tryz.prog fn false ((World.laidAll Tryz.prog os laid).forCall (fun _ _ => 0) ⟨#[], args, []⟩).memory args fuel = true)
    (hl : laidMetH Tryz.prog laid ((World.laidAll Tryz.prog os laid).forCall (fun _ _ => 0) ⟨#[], args, []⟩).memory) :
    ∃ (w : World) (tape : Tape) (i : Input), w.os = os ∧ (w.forCall tape i).Shaped Tryz.prog ∧ i.vars = [] ∧ Input.okWide Tryz.prog (w.forCall tape i) .any w.heap.size f i ∧
      s.preRow enc Tryz.prog fn [] false laid (w.forCall tape i).memory i.args ∧ ({} : Assume).holds Tryz.prog (lone (Frame.enter Tryz.prog f i.args .normal) [] (w.forCall tape i)) :=
  ⟨World.laidAll Tryz.prog os laid, fun _ _ => 0, ⟨#[], args, []⟩, World.laidAll_os _ _ _, hsh, (Input.okWide_of_okWideB (base := 0) hok).1, (Input.okWide_of_okWideB hok).2,
    OpenSpec.preRow_of_cond fuel hx rfl hkk hsz hl, by
      simp [Assume.holds]⟩
end Go.Proofs.YtaeophaecclnbaaGreatDoor

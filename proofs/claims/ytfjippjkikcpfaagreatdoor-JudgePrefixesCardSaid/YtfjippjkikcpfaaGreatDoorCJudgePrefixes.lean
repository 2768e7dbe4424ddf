/- JudgePrefixes: from the walk to the row and the card: the call returns true for every input, and the input reads as it did. Conditions: those of the given statement, no others. -/
import Derived.Test.YtfjippjkikcpfaaGreatDoorCards
import Derived.Test.YtfjippjkikcpfaaGreatDoorTie
import Derived.Test.YtfjippjkikcpfaaGreatDoorFrame
import Derived.Test.YtfjippjkikcpfaaGreatDoorPfxC
import Derived.Test.YtfjippjkikcpfaaGreatDoorEntA
import Derived.Test.YtfjippjkikcpfaaGreatDoorDoorW
namespace Go.Proofs.YtfjippjkikcpfaaGreatDoor
namespace judgePrefixes
open Go.RowKit Go.ChangeShapes Go.WideShapes Go.ChangeAt
open Go.ChangeMaps (open_string)

set_option maxRecDepth 100000 in
theorem contract (H : Type) (enc : TypeId × Value → H) (W : World) (base : Nat) (args : Array Value) (ds gs : List (DataW H)) (before : List MemPlace)
    (hval : ∀ (j : Nat) t v, Tryz.f3.params[j]? = some t → args[j]? = some v → Value.okWide Tryz.prog W .any base t v)
    (hW : DataW.Whole enc Tryz.prog Tryz.f3.params.toList Rows.judgePrefixesSpec.vars false W args.toList ds gs before) (_hLH : laidMetH Tryz.prog Rows.judgePrefixesRow.laid W) :
    Calls Tryz.prog 3 args W fun e W' => ∃ v, e = .returned v ∧ Rows.judgePrefixesSpec.post enc Tryz.prog Tryz.f3 false true false false W args v W' := by
  have hW' := hW

  obtain ⟨p, q, hA0, hV, rfl, hfz, hnd⟩ := hW
  have hA : DataW.TrodAll enc Tryz.prog W 0 (fun _ => true) true Tryz.f3.params.toList args.toList ds p := hA0
  rw [Tryz.params3] at hA hval
  obtain ⟨v0, vs0, d0, ds0, p0, q0, hargs, rfl, rfl, h0, r0⟩ := trodAll_cons hA
  obtain ⟨v1, vs1, d1, ds1, p1, q1, rfl, rfl, rfl, h1, r1⟩ := trodAll_cons r0
  obtain ⟨rfl, rfl, rfl⟩ := trodAll_nil r1
  obtain rfl : args = #[v0, v1] := by cases args; simp_all
  obtain ⟨rfl, rfl⟩ := trodVars_none hV
  obtain ⟨A0, n0, c0, l0, rfl, nb0, nl0, sl0⟩ := open_entries (hval 0 22 v0 rfl rfl) h0
  obtain ⟨A1, n1, c1, l1, rfl, nb1, nl1, sl1⟩ := open_entries (hval 1 22 v1 rfl rfl) h1
  clear hA0
  refine (prefixes_row  W sl0 nl0 nb0 sl1 nl1 nb1).mono fun e W' ⟨he, hb⟩ => ⟨_, he, law_post (by kernel_rfl) rfl rfl rfl hW' hb⟩

set_option maxRecDepth 100000 in
theorem lifted (os : Os) (started : os.Started) (H : Type) (enc : TypeId × Value → H) (F : Stop.Interp) :
    ReturnsInHanded {} Tryz.checked os 3 .any ((OpenSpec.ofChange Rows.judgePrefixesSpec).preRow enc Tryz.prog Tryz.f3 Rows.judgePrefixesRow.domain false Rows.judgePrefixesRow.laid) (((OpenSpec.ofChange Rows.judgePrefixesSpec).at F).post enc Tryz.prog Tryz.f3 false true false false) := by
  refine returnsInHanded_of_row (C := Tryz.checked) (s := OpenSpec.ofChange Rows.judgePrefixesSpec) own started (by kernel_rfl) Tryz.func3
    (door_witness (n := 16) (enc := enc) (s := OpenSpec.ofChange Rows.judgePrefixesSpec) (laid := Rows.judgePrefixesRow.laid) #[.slice none 0 0, .slice none 0 0] (x := ([.nil, .nil], [], [])) 8 (World.shaped_of_ZipB (by kernel_rfl) (by kernel_rfl)) (by kernel_rfl) (by kernel_rfl) (fun k hk => by cases hk) (by kernel_rfl)
      (door_met os _)) ?_
  intro W base args ds gs before hval hW _ _ _ hL _ _
  exact contract H enc W base args ds gs before hval hW hL

theorem said : Rows.JudgePrefixesSaid :=
  OpenClaim.holds_of_cond 3 Tryz.f3 rfl rfl rfl rfl rfl rfl rfl ⟨rfl, rfl, rfl, rfl, rfl⟩ rfl rfl rfl rfl rfl (by kernel_rfl) Tryz.func3 (by kernel_rfl)
    (of_decide_eq_true (by kernel_rfl)) (by unfold Func.isWrapper; first | (rw [if_pos (by decide +kernel)]; kernel_rfl) | (rw [if_neg (by decide +kernel)]; exact ⟨rfl, rfl⟩))
    (fun os started H enc _ F => by rw [OpenClaim.pre_eq_preRow]; exact lifted os started H enc F)

/-- No parameter wants a stand-in. -/
theorem plain (f : FuncId) (fn : Func) (hf : Tryz.pinned.checked.prog.funcNamed "prompter/prompterlaw30.JudgePrefixes" = some f) (hfn : Tryz.pinned.checked.prog.funcs[f]? = some fn) :
    Tryz.pinned.checked.prog.looks [] = Tryz.pinned.checked.prog.looks [] ∧ ∀ (j : Nat) t, fn.params[j]? = some t → Tryz.pinned.checked.prog.wantsStandIn t = false := by
  obtain rfl : f = 3 := Option.some.inj ((show Tryz.prog.funcNamed "prompter/prompterlaw30.JudgePrefixes" = some 3 by kernel_rfl).symm.trans hf) |>.symm
  obtain rfl : fn = Tryz.f3 := (Option.some.inj (Tryz.func3.symm.trans hfn)).symm
  refine ⟨rfl, fun j t ht => ?_⟩
  have hall : (Tryz.f3.params.toList.all fun t => !Tryz.prog.wantsStandIn t) = true := by kernel_rfl
  have hmem : t ∈ Tryz.f3.params.toList := by
    have := Array.mem_of_getElem? ht
    exact Array.mem_toList_iff.2 this
  have := List.all_eq_true.1 hall t hmem
  rw [Bool.not_eq_true'] at this
  exact this
theorem looks_on : true = Tryz.pinned.checked.prog.looks [] := by kernel_rfl
/-- THE CARD. -/
theorem card : Rows.JudgePrefixesCardSaid :=
  Claim7.holds_tied_plain_at .later [] _ _ _ _ said (fun _ h => by cases h) (by kernel_rfl) (fun _ h => by cases h) judgePrefixes_row_tie rfl ⟨rfl, rfl⟩ (by kernel_rfl) rfl (fun f fn hf hfn => ⟨looks_on, (plain f fn hf hfn).2⟩) (by kernel_rfl)
end judgePrefixes
theorem judgePrefixes_holds : Rows.JudgePrefixesCardSaid := judgePrefixes.card
end Go.Proofs.YtfjippjkikcpfaaGreatDoor

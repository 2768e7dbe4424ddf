/- InstrKnown: from the walk to the row and the card: the call returns true for every input, and the input reads as it did. Conditions: those of the given statement, no others. -/
import Derived.Test.YtefijgdbnjmifaaDoorCards
import Derived.Test.YtefijgdbnjmifaaDoorTie
import Derived.Test.YtefijgdbnjmifaaDoorFrame
import Derived.Test.YtefijgdbnjmifaaDoorKnwB
import Derived.Test.YtefijgdbnjmifaaDoorLaidZ
namespace Go.Proofs.YtefijgdbnjmifaaDoor
namespace instrKnown
open Go.RowKit Go.ChangeShapes Go.WideShapes Go.ChangeAt
open Go.ChangeMaps (open_string)

set_option maxRecDepth 100000 in
theorem contract (H : Type) (enc : TypeId × Value → H) (W : World) (base : Nat) (args : Array Value) (ds gs : List (DataW H)) (before : List MemPlace)
    (hval : ∀ (j : Nat) t v, Tryd.f4.params[j]? = some t → args[j]? = some v → Value.okWide Tryd.prog W .any base t v)
    (hW : DataW.Whole enc Tryd.prog Tryd.f4.params.toList Rows.instrKnownSpec.vars false W args.toList ds gs before) (hLH : laidMetH Tryd.prog Rows.instrKnownRow.laid W) (hS : W.ShapedOpen Tryd.prog) :
    Calls Tryd.prog 4 args W fun e W' => ∃ v, e = .returned v ∧ Rows.instrKnownSpec.post enc Tryd.prog Tryd.f4 false true false false W args v W' := by
  have hW' := hW
  rw [MakeChecks.laidMetH_plain _ _ _ (by kernel_rfl)] at hLH
  have hL : laidMet Tryd.prog Rows.instrKnownRow.laid W := hLH
  clear hLH
  obtain ⟨p, q, hA0, hV, rfl, hfz, hnd⟩ := hW
  have hA : DataW.TrodAll enc Tryd.prog W 0 (fun _ => true) true Tryd.f4.params.toList args.toList ds p := hA0
  rw [Tryd.params4] at hA hval
  obtain ⟨hargs, rfl, rfl⟩ := trodAll_nil hA
  obtain rfl : args = #[] := by cases args; simp_all
  obtain ⟨rfl, rfl⟩ := trodVars_none hV
  clear hA0
  refine (known_law  W (pow10_of hL) (syn_of hL) (range_of hL) (max_of hS)).mono fun e W' ⟨he, hb⟩ => ⟨_, he, law_post (by kernel_rfl) rfl rfl rfl hW' hb⟩

set_option maxRecDepth 100000 in
theorem lifted (os : Os) (started : os.Started) (H : Type) (enc : TypeId × Value → H) (F : Stop.Interp) :
    ReturnsInHanded {} Tryd.checked os 4 .any ((OpenSpec.ofChange Rows.instrKnownSpec).preRow enc Tryd.prog Tryd.f4 Rows.instrKnownRow.domain false Rows.instrKnownRow.laid) (((OpenSpec.ofChange Rows.instrKnownSpec).at F).post enc Tryd.prog Tryd.f4 false true false false) := by
  refine returnsInHanded_of_row (C := Tryd.checked) (s := OpenSpec.ofChange Rows.instrKnownSpec) own started (by kernel_rfl) Tryd.func4
    (law_witness (enc := enc) (s := OpenSpec.ofChange Rows.instrKnownSpec) (laid := Rows.instrKnownRow.laid) #[] (x := ([], [], [])) 8 (World.shaped_of_ZipB (by kernel_rfl) (by kernel_rfl)) (by kernel_rfl) (by kernel_rfl) (fun k hk => by cases hk) (by kernel_rfl)
      (by rw [MakeChecks.laidMetH_plain _ _ _ (by kernel_rfl)]; exact laidMet_laidAll _ (by kernel_rfl) (by kernel_rfl))) ?_
  intro W base args ds gs before hval hW _ _ _ hL hS _
  exact contract H enc W base args ds gs before hval hW hL hS

theorem said : Rows.InstrKnownSaid :=
  OpenClaim.holds_of_cond 4 Tryd.f4 rfl rfl rfl rfl rfl rfl rfl ⟨rfl, rfl, rfl, rfl, rfl⟩ rfl rfl rfl rfl rfl (by kernel_rfl) Tryd.func4 (by kernel_rfl)
    (of_decide_eq_true (by kernel_rfl)) (by unfold Func.isWrapper; first | (rw [if_pos (by decide +kernel)]; kernel_rfl) | (rw [if_neg (by decide +kernel)]; exact ⟨rfl, rfl⟩))
    (fun os started H enc _ F => by rw [OpenClaim.pre_eq_preRow]; exact lifted os started H enc F)

/-- No parameter wants a stand-in. -/
theorem plain (f : FuncId) (fn : Func) (hf : Tryd.pinned.checked.prog.funcNamed "prompter/prompterlaw14.InstrKnown" = some f) (hfn : Tryd.pinned.checked.prog.funcs[f]? = some fn) :
    Tryd.pinned.checked.prog.looks [] = Tryd.pinned.checked.prog.looks [] ∧ ∀ (j : Nat) t, fn.params[j]? = some t → Tryd.pinned.checked.prog.wantsStandIn t = false := by
  obtain rfl : f = 4 := Option.some.inj ((show Tryd.prog.funcNamed "prompter/prompterlaw14.InstrKnown" = some 4 by kernel_rfl).symm.trans hf) |>.symm
  obtain rfl : fn = Tryd.f4 := (Option.some.inj (Tryd.func4.symm.trans hfn)).symm
  refine ⟨rfl, fun j t ht => ?_⟩
  have hall : (Tryd.f4.params.toList.all fun t => !Tryd.prog.wantsStandIn t) = true := by kernel_rfl
  have hmem : t ∈ Tryd.f4.params.toList := by
    have := Array.mem_of_getElem? ht
    exact Array.mem_toList_iff.2 this
  have := List.all_eq_true.1 hall t hmem
  rw [Bool.not_eq_true'] at this
  exact this
theorem looks_on : true = Tryd.pinned.checked.prog.looks [] := by kernel_rfl
/-- THE CARD. -/
theorem card : Rows.InstrKnownCardSaid :=
  Claim7.holds_tied_plain_at .later [] _ _ _ _ said (fun _ h => by cases h) (by kernel_rfl) (fun _ h => by cases h) instrKnown_row_tie rfl ⟨rfl, rfl⟩ (by kernel_rfl) rfl (fun f fn hf hfn => ⟨looks_on, (plain f fn hf hfn).2⟩) (by kernel_rfl)
end instrKnown
theorem instrKnown_holds : Rows.InstrKnownCardSaid := instrKnown.card
end Go.Proofs.YtefijgdbnjmifaaDoor

/- InstrBytes: from the walk to the row and the card: the call returns true for every input, and the input reads as it did. Conditions: those of the given statement, no others. -/
import Derived.Test.YtefijgdbnjmifaaDoorCards
import Derived.Test.YtefijgdbnjmifaaDoorTie
import Derived.Test.YtefijgdbnjmifaaDoorFrame
import Derived.Test.YtefijgdbnjmifaaDoorOpenI
import Derived.Test.YtefijgdbnjmifaaDoorLstF
import Derived.Test.YtefijgdbnjmifaaDoorLaidT
namespace Go.Proofs.YtefijgdbnjmifaaDoor
namespace instrBytes
open Go.RowKit Go.ChangeShapes Go.WideShapes Go.ChangeAt
open Go.ChangeMaps (open_string)

set_option maxRecDepth 100000 in
theorem contract (H : Type) (enc : TypeId × Value → H) (W : World) (base : Nat) (args : Array Value) (ds gs : List (DataW H)) (before : List MemPlace)
    (hval : ∀ (j : Nat) t v, Tryd.f3.params[j]? = some t → args[j]? = some v → Value.okWide Tryd.prog W .any base t v)
    (hW : DataW.Whole enc Tryd.prog Tryd.f3.params.toList Rows.instrBytesSpec.vars false W args.toList ds gs before) (hLH : laidMetH Tryd.prog Rows.instrBytesRow.laid W) :
    Calls Tryd.prog 3 args W fun e W' => ∃ v, e = .returned v ∧ Rows.instrBytesSpec.post enc Tryd.prog Tryd.f3 false true false false W args v W' := by
  have hW' := hW
  rw [MakeChecks.laidMetH_plain _ _ _ (by kernel_rfl)] at hLH
  have hL : laidMet Tryd.prog Rows.instrBytesRow.laid W := hLH
  clear hLH
  obtain ⟨p, q, hA0, hV, rfl, hfz, hnd⟩ := hW
  have hA : DataW.TrodAll enc Tryd.prog W 0 (fun _ => true) true Tryd.f3.params.toList args.toList ds p := hA0
  rw [Tryd.params3] at hA hval
  obtain ⟨v0, vs0, d0, ds0, p0, q0, hargs, rfl, rfl, h0, r0⟩ := trodAll_cons hA
  obtain ⟨rfl, rfl, rfl⟩ := trodAll_nil r0
  obtain rfl : args = #[v0] := by cases args; simp_all
  obtain ⟨rfl, rfl⟩ := trodVars_none hV
  obtain ⟨A0, n0, c0, z0, rfl, nb0, nl0, sl0, ok0, oi0⟩ := open_codeI (hval 0 22 v0 rfl rfl) h0
  clear hA0
  refine (bytes_law z0 A0 n0 c0 W nb0 nl0 sl0 ok0 oi0 (pow10_of_laid hL)).mono fun e W' ⟨he, hb⟩ => ⟨_, he, law_post (by kernel_rfl) rfl rfl rfl hW' hb⟩

set_option maxRecDepth 100000 in
theorem lifted (os : Os) (started : os.Started) (H : Type) (enc : TypeId × Value → H) (F : Stop.Interp) :
    ReturnsInHanded {} Tryd.checked os 3 .any ((OpenSpec.ofChange Rows.instrBytesSpec).preRow enc Tryd.prog Tryd.f3 Rows.instrBytesRow.domain false Rows.instrBytesRow.laid) (((OpenSpec.ofChange Rows.instrBytesSpec).at F).post enc Tryd.prog Tryd.f3 false true false false) := by
  refine returnsInHanded_of_row (C := Tryd.checked) (s := OpenSpec.ofChange Rows.instrBytesSpec) own started (by kernel_rfl) Tryd.func3
    (law_witness (enc := enc) (s := OpenSpec.ofChange Rows.instrBytesSpec) (laid := Rows.instrBytesRow.laid) #[.slice none 0 0] (x := ([.nil], [], [])) 8 (World.shaped_of_ZipB (by kernel_rfl) (by kernel_rfl)) (by kernel_rfl) (by kernel_rfl) (fun k hk => by cases hk) (by kernel_rfl)
      (by rw [MakeChecks.laidMetH_plain _ _ _ (by kernel_rfl)]; exact laidMet_laidAll _ (by kernel_rfl) (by kernel_rfl))) ?_
  intro W base args ds gs before hval hW _ _ _ hL _ _
  exact contract H enc W base args ds gs before hval hW hL

theorem said : Rows.InstrBytesSaid :=
  OpenClaim.holds_of_cond 3 Tryd.f3 rfl rfl rfl rfl rfl rfl rfl ⟨rfl, rfl, rfl, rfl, rfl⟩ rfl rfl rfl rfl rfl (by kernel_rfl) Tryd.func3 (by kernel_rfl)
    (of_decide_eq_true (by kernel_rfl)) (by unfold Func.isWrapper; first | (rw [if_pos (by decide +kernel)]; kernel_rfl) | (rw [if_neg (by decide +kernel)]; exact ⟨rfl, rfl⟩))
    (fun os started H enc _ F => by rw [OpenClaim.pre_eq_preRow]; exact lifted os started H enc F)

/-- No parameter wants a stand-in. -/
theorem plain (f : FuncId) (fn : Func) (hf : Tryd.pinned.checked.prog.funcNamed "prompter/prompterlaw14.InstrBytes" = some f) (hfn : Tryd.pinned.checked.prog.funcs[f]? = some fn) :
    Tryd.pinned.checked.prog.looks [] = Tryd.pinned.checked.prog.looks [] ∧ ∀ (j : Nat) t, fn.params[j]? = some t → Tryd.pinned.checked.prog.wantsStandIn t = false := by
  obtain rfl : f = 3 := Option.some.inj ((show Tryd.prog.funcNamed "prompter/prompterlaw14.InstrBytes" = some 3 by kernel_rfl).symm.trans hf) |>.symm
  obtain rfl : fn = Tryd.f3 := (Option.some.inj (Tryd.func3.symm.trans hfn)).symm
  refine ⟨rfl, fun j t ht => ?_⟩
  have hall : (Tryd.f3.params.toList.all fun t => !Tryd.prog.wantsStandIn t) = true := by kernel_rfl
  have hmem : t ∈ Tryd.f3.params.toList := by
    have := Array.mem_of_getElem? ht
    exact Array.mem_toList_iff.2 this
  have := List.all_eq_true.1 hall t hmem
  rw [Bool.not_eq_true'] at this
  exact this
theorem looks_on : true = Tryd.pinned.checked.prog.looks [] := by kernel_rfl
/-- THE CARD. -/
theorem card : Rows.InstrBytesCardSaid :=
  Claim7.holds_tied_plain_at .later [] _ _ _ _ said (fun _ h => by cases h) (by kernel_rfl) (fun _ h => by cases h) instrBytes_row_tie rfl ⟨rfl, rfl⟩ (by kernel_rfl) rfl (fun f fn hf hfn => ⟨looks_on, (plain f fn hf hfn).2⟩) (by kernel_rfl)
end instrBytes
theorem instrBytes_holds : Rows.InstrBytesCardSaid := instrBytes.card
end Go.Proofs.YtefijgdbnjmifaaDoor

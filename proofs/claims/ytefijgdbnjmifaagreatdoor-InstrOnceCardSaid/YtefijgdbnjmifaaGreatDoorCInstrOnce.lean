/- InstrOnce: from the walk to the row and the card: the call returns true for every input, and the input reads as it did. Conditions: those of the given statement, no others. -/
import Derived.Test.YtefijgdbnjmifaaGreatDoorCards
import Derived.Test.YtefijgdbnjmifaaGreatDoorTie
import Derived.Test.YtefijgdbnjmifaaGreatDoorFrame
import Derived.Test.YtefijgdbnjmifaaGreatDoorOpenB
import Derived.Test.YtefijgdbnjmifaaGreatDoorOncL
import Derived.Test.YtefijgdbnjmifaaGreatDoorLaidZ
namespace Go.Proofs.YtefijgdbnjmifaaGreatDoor
namespace instrOnce
open Go.RowKit Go.ChangeShapes Go.WideShapes Go.ChangeAt
open Go.ChangeMaps (open_string)

set_option maxRecDepth 100000 in
theorem contract (H : Type) (enc : TypeId × Value → H) (W : World) (base : Nat) (args : Array Value) (ds gs : List (DataW H)) (before : List MemPlace)
    (hval : ∀ (j : Nat) t v, Tryz.f4.params[j]? = some t → args[j]? = some v → Value.okWide Tryz.prog W .any base t v)
    (hW : DataW.Whole enc Tryz.prog Tryz.f4.params.toList Rows.instrOnceSpec.vars false W args.toList ds gs before) (hLH : laidMetH Tryz.prog Rows.instrOnceRow.laid W) (hS : W.ShapedOpen Tryz.prog) :
    Calls Tryz.prog 4 args W fun e W' => ∃ v, e = .returned v ∧ Rows.instrOnceSpec.post enc Tryz.prog Tryz.f4 false true false false W args v W' := by
  have hW' := hW
  rw [MakeChecks.laidMetH_plain _ _ _ (by kernel_rfl)] at hLH
  have hL : laidMet Tryz.prog Rows.instrOnceRow.laid W := hLH
  clear hLH
  obtain ⟨p, q, hA0, hV, rfl, hfz, hnd⟩ := hW
  have hA : DataW.TrodAll enc Tryz.prog W 0 (fun _ => true) true Tryz.f4.params.toList args.toList ds p := hA0
  rw [Tryz.params4] at hA hval
  obtain ⟨v0, vs0, d0, ds0, p0, q0, hargs, rfl, rfl, h0, r0⟩ := trodAll_cons hA
  obtain ⟨v1, vs1, d1, ds1, p1, q1, rfl, rfl, rfl, h1, r1⟩ := trodAll_cons r0
  obtain ⟨rfl, rfl, rfl⟩ := trodAll_nil r1
  obtain rfl : args = #[v0, v1] := by cases args; simp_all
  obtain ⟨rfl, rfl⟩ := trodVars_none hV
  obtain ⟨A0, n0, c0, z0, rfl, nl0, sl0, le0, cb0, ni0⟩ := open_bytes (hval 0 25 v0 rfl rfl) h0
  obtain ⟨a1, rfl, rfl, rfl, w1⟩ := open_string Tryz.underlying9 (hval 1 9 v1 rfl rfl) h1
  clear hA0
  refine (once_law z0 A0 n0 c0 a1 W nl0 sl0 le0 cb0 ni0 w1 (pow10_of hL) (syn_of hL) (range_of hL) (max_of hS)).mono fun e W' ⟨he, hb⟩ => ⟨_, he, law_post (by kernel_rfl) rfl rfl rfl hW' hb⟩

set_option maxRecDepth 100000 in
theorem lifted (os : Os) (started : os.Started) (H : Type) (enc : TypeId × Value → H) (F : Stop.Interp) :
    ReturnsInHanded {} Tryz.checked os 4 .any ((OpenSpec.ofChange Rows.instrOnceSpec).preRow enc Tryz.prog Tryz.f4 Rows.instrOnceRow.domain false Rows.instrOnceRow.laid) (((OpenSpec.ofChange Rows.instrOnceSpec).at F).post enc Tryz.prog Tryz.f4 false true false false) := by
  refine returnsInHanded_of_row (C := Tryz.checked) (s := OpenSpec.ofChange Rows.instrOnceSpec) own started (by kernel_rfl) Tryz.func4
    (law_witness (enc := enc) (s := OpenSpec.ofChange Rows.instrOnceSpec) (laid := Rows.instrOnceRow.laid) #[.slice none 0 0, .string ByteArray.empty] (x := ([.nil, .lit (.string [])], [], [])) 8 (World.shaped_of_ZipB (by kernel_rfl) (by kernel_rfl)) (by kernel_rfl) (by kernel_rfl) (fun k hk => by cases hk) (by kernel_rfl)
      (by rw [MakeChecks.laidMetH_plain _ _ _ (by kernel_rfl)]; exact laidMet_laidAll _ (by kernel_rfl) (by kernel_rfl))) ?_
  intro W base args ds gs before hval hW _ _ _ hL hS _
  exact contract H enc W base args ds gs before hval hW hL hS

theorem said : Rows.InstrOnceSaid :=
  OpenClaim.holds_of_cond 4 Tryz.f4 rfl rfl rfl rfl rfl rfl rfl ⟨rfl, rfl, rfl, rfl, rfl⟩ rfl rfl rfl rfl rfl (by kernel_rfl) Tryz.func4 (by kernel_rfl)
    (of_decide_eq_true (by kernel_rfl)) (by unfold Func.isWrapper; first | (rw [if_pos (by decide +kernel)]; kernel_rfl) | (rw [if_neg (by decide +kernel)]; exact ⟨rfl, rfl⟩))
    (fun os started H enc _ F => by rw [OpenClaim.pre_eq_preRow]; exact lifted os started H enc F)

/-- No parameter wants a stand-in. -/
theorem plain (f : FuncId) (fn : Func) (hf : Tryz.pinned.checked.prog.funcNamed "prompter/prompterlaw14.InstrOnce" = some f) (hfn : Tryz.pinned.checked.prog.funcs[f]? = some fn) :
    Tryz.pinned.checked.prog.looks [] = Tryz.pinned.checked.prog.looks [] ∧ ∀ (j : Nat) t, fn.params[j]? = some t → Tryz.pinned.checked.prog.wantsStandIn t = false := by
  obtain rfl : f = 4 := Option.some.inj ((show Tryz.prog.funcNamed "prompter/prompterlaw14.InstrOnce" = some 4 by kernel_rfl).symm.trans hf) |>.symm
  obtain rfl : fn = Tryz.f4 := (Option.some.inj (Tryz.func4.symm.trans hfn)).symm
  refine ⟨rfl, fun j t ht => ?_⟩
  have hall : (Tryz.f4.params.toList.all fun t => !Tryz.prog.wantsStandIn t) = true := by kernel_rfl
  have hmem : t ∈ Tryz.f4.params.toList := by
    have := Array.mem_of_getElem? ht
    exact Array.mem_toList_iff.2 this
  have := List.all_eq_true.1 hall t hmem
  rw [Bool.not_eq_true'] at this
  exact this
theorem looks_on : true = Tryz.pinned.checked.prog.looks [] := by kernel_rfl
/-- THE CARD. -/
theorem card : Rows.InstrOnceCardSaid :=
  Claim7.holds_tied_plain_at .later [] _ _ _ _ said (fun _ h => by cases h) (by kernel_rfl) (fun _ h => by cases h) instrOnce_row_tie rfl ⟨rfl, rfl⟩ (by kernel_rfl) rfl (fun f fn hf hfn => ⟨looks_on, (plain f fn hf hfn).2⟩) (by kernel_rfl)
end instrOnce
theorem instrOnce_holds : Rows.InstrOnceCardSaid := instrOnce.card
end Go.Proofs.YtefijgdbnjmifaaGreatDoor

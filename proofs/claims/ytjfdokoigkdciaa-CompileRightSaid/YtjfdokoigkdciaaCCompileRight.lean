/- CompileRight: from the walk to the row and the card: the call returns true for every input, and the input reads as it did. Conditions: those of the given statement, no others. -/
import Derived.Test.YtjfdokoigkdciaaFrame
import Derived.Test.YtjfdokoigkdciaaOpnT
import Derived.Test.YtjfdokoigkdciaaRgtW
namespace Go.Proofs.Ytjfdokoigkdciaa
namespace compileRight
open Go.RowKit Go.ChangeShapes Go.WideShapes Go.ChangeAt
open Go.ChangeMaps (open_string)

set_option maxRecDepth 100000 in
theorem contract (H : Type) (enc : TypeId × Value → H) (W : World) (base : Nat) (args : Array Value) (ds gs : List (DataW H)) (before : List MemPlace)
    (hval : ∀ (j : Nat) t v, Try.f4.params[j]? = some t → args[j]? = some v → Value.okWide Try.prog W .any base t v)
    (hW : DataW.Whole enc Try.prog Try.f4.params.toList Rows.compileRightSpec.vars false W args.toList ds gs before) (hLH : laidMetH Try.prog Rows.compileRightRow.laid W) :
    Calls Try.prog 4 args W fun e W' => ∃ v, e = .returned v ∧ Rows.compileRightSpec.post enc Try.prog Try.f4 false true false false W args v W' := by
  have hW' := hW
  rw [MakeChecks.laidMetH_plain _ _ _ (by kernel_rfl)] at hLH
  have hL : laidMet Try.prog Rows.compileRightRow.laid W := hLH
  clear hLH
  obtain ⟨p, q, hA0, hV, rfl, hfz, hnd⟩ := hW
  have hA : DataW.TrodAll enc Try.prog W 0 (fun _ => true) true Try.f4.params.toList args.toList ds p := hA0
  rw [Try.params4] at hA hval
  obtain ⟨v0, vs0, d0, ds0, p0, q0, hargs, rfl, rfl, h0, r0⟩ := trodAll_cons hA
  obtain ⟨rfl, rfl, rfl⟩ := trodAll_nil r0
  obtain rfl : args = #[v0] := by cases args; simp_all
  obtain ⟨rfl, rfl⟩ := trodVars_none hV
  obtain ⟨A0, n0, c0, z0, rfl, nl0, sl0, cb0, ok0⟩ := open_tree (hval 0 23 v0 rfl rfl) h0
  clear hA0
  refine (right_law z0 A0 n0 c0 W nl0 sl0 cb0 ok0).mono fun e W' ⟨he, hb⟩ => ⟨_, he, law_post (by kernel_rfl) rfl rfl rfl hW' hb⟩

set_option maxRecDepth 100000 in
theorem lifted (os : Os) (started : os.Started) (H : Type) (enc : TypeId × Value → H) (F : Stop.Interp) :
    ReturnsInHanded {} Try.checked os 4 .any ((OpenSpec.ofChange Rows.compileRightSpec).preRow enc Try.prog Try.f4 Rows.compileRightRow.domain false Rows.compileRightRow.laid) (((OpenSpec.ofChange Rows.compileRightSpec).at F).post enc Try.prog Try.f4 false true false false) := by
  refine returnsInHanded_of_row (C := Try.checked) (s := OpenSpec.ofChange Rows.compileRightSpec) own started (by kernel_rfl) Try.func4
    (law_witness (enc := enc) (s := OpenSpec.ofChange Rows.compileRightSpec) (laid := Rows.compileRightRow.laid) #[.slice none 0 0] (x := ([.nil], [], [])) 8 (World.shaped_of_ZipB (by kernel_rfl) (by kernel_rfl)) (by kernel_rfl) (by kernel_rfl) (fun k hk => by cases hk) (by kernel_rfl)
      (by rw [MakeChecks.laidMetH_plain _ _ _ (by kernel_rfl)]; exact laidMet_laidAll _ (by kernel_rfl) (by kernel_rfl))) ?_
  intro W base args ds gs before hval hW _ _ _ hL _ _
  exact contract H enc W base args ds gs before hval hW hL

theorem said : Rows.CompileRightSaid :=
  OpenClaim.holds_of_cond 4 Try.f4 rfl rfl rfl rfl rfl rfl rfl ⟨rfl, rfl, rfl, rfl, rfl⟩ rfl rfl rfl rfl rfl (by kernel_rfl) Try.func4 (by kernel_rfl)
    (of_decide_eq_true (by kernel_rfl)) (by unfold Func.isWrapper; first | (rw [if_pos (by decide +kernel)]; kernel_rfl) | (rw [if_neg (by decide +kernel)]; exact ⟨rfl, rfl⟩))
    (fun os started H enc _ F => by rw [OpenClaim.pre_eq_preRow]; exact lifted os started H enc F)

end compileRight
theorem compileRight_holds : Rows.CompileRightSaid := compileRight.said
end Go.Proofs.Ytjfdokoigkdciaa

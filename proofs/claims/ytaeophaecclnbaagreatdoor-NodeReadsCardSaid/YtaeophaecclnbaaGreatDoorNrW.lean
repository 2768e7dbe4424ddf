/- NodeReads: 'There is an input that fits', at the world that the list lays, errors.errorType set by hand. What the row's list gives. -/
import Derived.Test.YtaeophaecclnbaaGreatDoorFrame
import Derived.LaidMore
import Derived.LaidHandle
namespace Go.Proofs.YtaeophaecclnbaaGreatDoor
open Go.RowKit Go.ChangeShapes Go.WideShapes Go.ChangeAt

def nhdl : Value := .iface 541 (.agg #[.pointer (some ⟨10, 389, none⟩)])
abbrev plainL : List (String × DataW Unit) := Rows.nodeReadsRow.laid.filter fun x => x.2.handleName?.isNone
noncomputable def errWorld (os : Os) : World := (World.laidAll Tryz.prog os plainL).setCell ⟨1, 0, none⟩ nhdl
theorem set_os (w : World) (a : Addr) (v : Value) : (w.setCell a v).os = w.os := rfl
theorem errWorld_os (os : Os) : (errWorld os).os = os := (set_os _ _ _).trans (World.laidAll_os _ _ _)
theorem err_witness {os : Os} {H : Type} {enc : TypeId × Value → H} {f : FuncId} {fn : Func} {s : OpenSpec} {laid : List (String × DataW Unit)} (args : Array Value) {x : List (DataW H) × List (DataW H) × List MemPlace} (fuel : Nat)
    (hsh : ((errWorld os).forCall (fun _ _ => 0) ⟨#[], args, []⟩).Shaped Tryz.prog)
    (hok : Input.okWideB Tryz.prog ((errWorld os).forCall (fun _ _ => 0) ⟨#[], args, []⟩) f ⟨#[], args, []⟩ = true)
    (hx : DataW.whole enc Tryz.prog ((errWorld os).forCall (fun _ _ => 0) ⟨#[], args, []⟩).memory fn.params.toList s.vars false args.toList fuel = some x)
    (hkk : ∀ k, s.cond = some k → k H (x.1 ++ x.2.1) = true)
    (hsz : s.bare.sizedB enc Tryz.prog fn false ((errWorld os).forCall (fun _ _ => 0) ⟨#[], args, []⟩).memory args fuel = true)
    (hl : laidMetH Tryz.prog laid ((errWorld os).forCall (fun _ _ => 0) ⟨#[], args, []⟩).memory) :
    ∃ (w : World) (tape : Tape) (i : Input), w.os = os ∧ (w.forCall tape i).Shaped Tryz.prog ∧ i.vars = [] ∧ Input.okWide Tryz.prog (w.forCall tape i) .any w.heap.size f i ∧
      s.preRow enc Tryz.prog fn [] false laid (w.forCall tape i).memory i.args ∧ ({} : Assume).holds Tryz.prog (lone (Frame.enter Tryz.prog f i.args .normal) [] (w.forCall tape i)) :=
  ⟨errWorld os, fun _ _ => 0, ⟨#[], args, []⟩, errWorld_os os, hsh, (Input.okWide_of_okWideB (base := 0) hok).1, (Input.okWide_of_okWideB hok).2,
    OpenSpec.preRow_of_cond fuel hx rfl hkk hsz hl, by
      simp [Assume.holds]⟩
theorem err_met (os : Os) (args : Array Value) : laidMetH Tryz.prog Rows.nodeReadsRow.laid ((errWorld os).forCall (fun _ _ => 0) ⟨#[], args, []⟩).memory :=
  laidMetH_of_parts (laidMet_of_run' 8 (by kernel_rfl) (by kernel_rfl)) (by kernel_rfl)
namespace nodeReads
open Go.RowKit Go.ChangeShapes Go.WideShapes Go.ChangeAt
open Go.ChangeMaps (open_string)

set_option maxRecDepth 100000 in
theorem fits (os : Os) {H : Type} (enc : TypeId × Value → H) : ∃ (w : World) (tape : Tape) (i : Input), w.os = os ∧ (w.forCall tape i).Shaped Tryz.prog ∧ i.vars = [] ∧ Input.okWide Tryz.prog (w.forCall tape i) .any w.heap.size 3 i ∧
      (OpenSpec.ofChange Rows.nodeReadsSpec).preRow enc Tryz.prog Tryz.f3 [] false Rows.nodeReadsRow.laid (w.forCall tape i).memory i.args ∧ ({} : Assume).holds Tryz.prog (lone (Frame.enter Tryz.prog 3 i.args .normal) [] (w.forCall tape i)) :=
  err_witness (enc := enc) (s := OpenSpec.ofChange Rows.nodeReadsSpec) (laid := Rows.nodeReadsRow.laid) #[.string ByteArray.empty] (x := ([.lit (.string [])], [], [])) 8 (World.shaped_of_ZipB (by kernel_rfl) (by kernel_rfl)) (by kernel_rfl) (by kernel_rfl) (fun k hk => by cases hk) (by kernel_rfl)
      (err_met os _)
end nodeReads
end Go.Proofs.YtaeophaecclnbaaGreatDoor

/- What the row's list and the world's shape say of errors.errorType. -/
import Derived.Test.YtbjecfbfcpiilaaGreatDoorRows
import Derived.Test.YtbjecfbfcpiilaaGreatDoorJkA
import Derived.LaidMore
import Derived.LaidHandle
import Derived.LaidLaws
import Derived.Lib.LaidTab
namespace Go.Proofs.YtbjecfbfcpiilaaGreatDoor
open Go Go.RowKit

theorem err_row : ((begin Tryz.prog (fun _ _ => 0) default).world.heap[0]?).bind Obj.row? = some (#[.nilIface], IT) := by kernel_rfl
theorem err_named : Tryz.prog.globalNamed "errors.errorType" = some 0 := by kernel_rfl
theorem err_rt : (Tryz.prog.cutTypes.find? (·.1 == "internal/reflectlite.rtype")).map (·.2) = some RT := by kernel_rfl
theorem err_only : ((List.range Tryz.prog.types.size).all fun t => !(Tryz.prog.rowNamed t [101, 114, 114, 111, 114]) || t == ET) = true := by kernel_rfl
theorem err_handle : typeHandle Tryz.prog ET = .pointer (some ⟨NG, ET, none⟩) := by kernel_rfl
theorem err_size : (0 : Nat) < Tryz.prog.globals.size := by
  have : decide ((0 : Nat) < Tryz.prog.globals.size) = true := by kernel_rfl
  exact of_decide_eq_true this
theorem err_list : (Rows.judgeKnownRow.laid.filter fun x => x.2.handleName?.isSome) = [("errors.errorType", Rows.laid_errors_errorType)] := by kernel_rfl
theorem err_fn : (Rows.laid_errors_errorType : DataW Unit).funcsIn? = none := by kernel_rfl
theorem err_name : (Rows.laid_errors_errorType : DataW Unit).handleName? = some [101, 114, 114, 111, 114] := by kernel_rfl
theorem err_of {W : World} (h : laidMetH Tryz.prog Rows.judgeKnownRow.laid W) (hS : W.ShapedOpen Tryz.prog) : W.heap[0]? = some errObj := by
  unfold laidMetH at h
  rw [err_list] at h
  obtain ⟨_, hh⟩ := h
  have hx := hh _ (List.mem_singleton.2 rfl)
  simp only [err_fn] at hx
  obtain ⟨name, u, ty, h1, h2, h3, h4, h5⟩ := hx
  rw [err_name] at h1
  cases h1
  rw [err_rt] at h2
  cases h2
  have hty : ty = ET := by
    have := List.all_eq_true.1 err_only ty (List.mem_range.2 h3)
    rw [h4] at this
    simpa using this
  subst hty
  rw [err_handle] at h5
  obtain ⟨cs, hc, hs, _⟩ := hS.1 0 _ _ err_size err_row
  have hcell := World.var?_cell err_named h5 0
  have hs : cs.size = 1 := hs
  unfold World.cell? at hcell
  simp only [hc] at hcell
  have hcell : cs[0]? = some (.iface RT (hdl ET)) := hcell
  have : cs = #[.iface RT (hdl ET)] := by
    apply Array.ext_getElem?
    intro j
    match j with
    | 0 => exact hcell
    | j + 1 => rw [Array.getElem?_eq_none (by omega)]; simp
  rw [hc, this]
  rfl
end Go.Proofs.YtbjecfbfcpiilaaGreatDoor

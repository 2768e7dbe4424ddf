/- What the listed variables, and the world's shape, give to statements that read texts as code. -/
import Derived.Test.YtefijgdbnjmifaaDoorFrame
import Derived.Test.YtefijgdbnjmifaaDoorUnlF
import Derived.Stop.LaidErr
import Derived.Laws.Strings
import Derived.Shelf.Vars
namespace Go.Proofs.YtefijgdbnjmifaaDoor
open Go.RowKit
theorem star_name : "*" ++ "errors.errorString" = "*errors.errorString" := by decide
theorem row_errorString (u : TypeId) (h : Tryd.prog.typeName? 3 u = some "*errors.errorString") : u = 142 :=
  typeName_ptr_named (nm := "errors.errorString") (by rw [star_name]; kernel_rfl) (by kernel_rfl) (by decide) u (by rw [star_name]; exact h)
/-- What the statement's row lists. -/
def LaidZ (W : World) : Prop := laidMet Tryd.prog (("math/bits.deBruijn32tab", Rows.laid_math_bits_deBruijn32tab) :: ("math/bits.deBruijn64tab", Rows.laid_math_bits_deBruijn64tab) :: ("internal/strconv.uint64pow10", Rows.laid_internal_strconv_uint64pow10) :: ("strconv.ErrRange", Rows.laid_strconv_ErrRange) :: [("strconv.ErrSyntax", Rows.laid_strconv_ErrSyntax)]) W
theorem pow10_of {W : World} (h : LaidZ W) : Pow10 W :=
  Lib.tabIs_of_head (rest := ("strconv.ErrRange", Rows.laid_strconv_ErrRange) :: [("strconv.ErrSyntax", Rows.laid_strconv_ErrSyntax)]) (g := 1) (t := 130) (e := 44) (n := 20) (by kernel_rfl) (by kernel_rfl) (by kernel_rfl) (by kernel_rfl) (by kernel_rfl) (by kernel_rfl) (Go.laidMet.tail (Go.laidMet.tail h))
theorem range_of {W : World} (h : LaidZ W) : RangeVar W := by
  have h3 := Go.laidMet.tail (Go.laidMet.tail (Go.laidMet.tail h))
  obtain ⟨a1, s1, hv1, -, -, -⟩ := laid_sentinel (g := 3) (ti := 54) (tp := 142) (te := 144) (ts := 9) h3 (by kernel_rfl) (by kernel_rfl) Tryd.underlying54 row_errorString Tryd.underlying142 Tryd.underlying144 rfl rfl Tryd.underlying9 (by kernel_rfl) (by kernel_rfl)
  exact ⟨_, _, hv1⟩
theorem syn_of {W : World} (h : LaidZ W) : SynVar W := by
  have h3 := Go.laidMet.tail (Go.laidMet.tail (Go.laidMet.tail (Go.laidMet.tail h)))
  have hg : Tryd.prog.globalNamed "strconv.ErrSyntax" = some 2 := by kernel_rfl
  obtain ⟨a1, s1, hv1, -, -, -⟩ := laid_sentinel (g := 2) (ti := 54) (tp := 142) (te := 144) (ts := 9) h3 hg (by kernel_rfl) Tryd.underlying54 row_errorString Tryd.underlying142 Tryd.underlying144 rfl rfl Tryd.underlying9 (by kernel_rfl) (by kernel_rfl)
  have hc : W.cell? ⟨2, 0, none⟩ = some (.iface 142 (.pointer (some a1))) := (World.var?_cell hg hv1 0).trans rfl
  exact ⟨_, hc, .inr ⟨_, _, rfl⟩, World.block_lt_of_cell? W _ hc⟩
theorem max_of {W : World} (h : W.ShapedOpen Tryd.prog) : MaxVar W := by
  obtain ⟨m, hm⟩ := cell_of_shapedOpen_int (P := Tryd.prog) (g := 0) (t := 3) (zero := #[.int .i64 0]) h (of_decide_eq_true (by kernel_rfl)) (by kernel_rfl) rfl (by kernel_rfl) (by kernel_rfl) Tryd.underlying3
  exact ⟨m, hm, World.block_lt_of_cell? W _ hm⟩
end Go.Proofs.YtefijgdbnjmifaaDoor

/- What the listed variables of layer 1's reading statements give. -/
import Derived.Test.YthaapajmpgnadaaDoorLaidA
import Derived.Test.YthaapajmpgnadaaDoorReadB
import Derived.Stop.LaidErr
import Derived.Laws.Strings
namespace Go.Proofs.YthaapajmpgnadaaDoor
open Go.RowKit
theorem star_name : "*" ++ "errors.errorString" = "*errors.errorString" := by decide
theorem row_errorString (u : TypeId) (h : Tryd.prog.typeName? 3 u = some "*errors.errorString") : u = 99 :=
  typeName_ptr_named (nm := "errors.errorString") (by rw [star_name]; kernel_rfl) (by kernel_rfl) (by decide) u (by rw [star_name]; exact h)
theorem range_of_laid {W : World} (h : laidMet Tryd.prog (("math/bits.deBruijn32tab", Rows.laid_math_bits_deBruijn32tab) :: ("math/bits.deBruijn64tab", Rows.laid_math_bits_deBruijn64tab) :: ("internal/strconv.uint64pow10", Rows.laid_internal_strconv_uint64pow10) :: ("strconv.ErrRange", Rows.laid_strconv_ErrRange) :: [("strconv.ErrSyntax", Rows.laid_strconv_ErrSyntax)]) W) : RangeVar W := by
  have h3 := Go.laidMet.tail (Go.laidMet.tail (Go.laidMet.tail h))
  obtain ⟨a1, s1, hv1, -, -, -⟩ := laid_sentinel (g := 1) (ti := 68) (tp := 99) (te := 101) (ts := 9) h3 (by kernel_rfl) (by kernel_rfl) Tryd.underlying68 row_errorString Tryd.underlying99 Tryd.underlying101 rfl rfl Tryd.underlying9 (by kernel_rfl) (by kernel_rfl)
  exact ⟨_, _, hv1⟩
end Go.Proofs.YthaapajmpgnadaaDoor

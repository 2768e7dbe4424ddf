/- What the listed variables of layer 1 give. -/
import Derived.Test.YthaapajmpgnadaaDoorFrame
import Derived.Test.YthaapajmpgnadaaDoorWholeT
import Derived.Stop.LaidErr
namespace Go.Proofs.YthaapajmpgnadaaDoor
open Go.RowKit
theorem pow10_of_laid {rest : List (String × DataW Unit)} {W : World} (h : laidMet Tryd.prog (("math/bits.deBruijn32tab", Rows.laid_math_bits_deBruijn32tab) :: ("math/bits.deBruijn64tab", Rows.laid_math_bits_deBruijn64tab) :: ("internal/strconv.uint64pow10", Rows.laid_internal_strconv_uint64pow10) :: rest) W) : Pow10 W :=
  Lib.tabIs_of_head (rest := rest) (g := 2) (t := 93) (e := 60) (n := 20) (by kernel_rfl) (by kernel_rfl) (by kernel_rfl) (by kernel_rfl) (by kernel_rfl) (by kernel_rfl) (Go.laidMet.tail (Go.laidMet.tail h))
end Go.Proofs.YthaapajmpgnadaaDoor

/- What the listed variables give. -/
import Derived.Test.YtefijgdbnjmifaaDoorFrame
import Derived.Test.YtefijgdbnjmifaaDoorTextA
import Derived.Stop.LaidErr
namespace Go.Proofs.YtefijgdbnjmifaaDoor
open Go.RowKit
theorem pow10_of_laid {rest : List (String × DataW Unit)} {W : World} (h : laidMet Tryd.prog (("math/bits.deBruijn32tab", Rows.laid_math_bits_deBruijn32tab) :: ("math/bits.deBruijn64tab", Rows.laid_math_bits_deBruijn64tab) :: ("internal/strconv.uint64pow10", Rows.laid_internal_strconv_uint64pow10) :: rest) W) : Pow10 W :=
  Lib.tabIs_of_head (rest := rest) (g := 1) (t := 130) (e := 44) (n := 20) (by kernel_rfl) (by kernel_rfl) (by kernel_rfl) (by kernel_rfl) (by kernel_rfl) (by kernel_rfl) (Go.laidMet.tail (Go.laidMet.tail h))
end Go.Proofs.YtefijgdbnjmifaaDoor

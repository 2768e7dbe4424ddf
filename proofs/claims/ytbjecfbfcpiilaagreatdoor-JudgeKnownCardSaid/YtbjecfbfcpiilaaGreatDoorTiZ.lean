/- The tie of the law's row, put together. -/
import Derived.Test.YtbjecfbfcpiilaaGreatDoorTiA
import Derived.Test.YtbjecfbfcpiilaaGreatDoorTiB
import Derived.Test.YtbjecfbfcpiilaaGreatDoorTiC
import Derived.Test.YtbjecfbfcpiilaaGreatDoorTiD
import Derived.Test.YtbjecfbfcpiilaaGreatDoorTiE
import Derived.Test.YtbjecfbfcpiilaaGreatDoorTiF
import Derived.Test.YtbjecfbfcpiilaaGreatDoorTiG
namespace Go.Proofs.YtbjecfbfcpiilaaGreatDoor
open Go
theorem tie_all : Tryz.prog.laidByTextLater [("errors.errorType", Rows.laid_errors_errorType), ("internal/strconv.uint64pow10", Rows.laid_internal_strconv_uint64pow10), ("math/bits.deBruijn32tab", Rows.laid_math_bits_deBruijn32tab), ("math/bits.deBruijn64tab", Rows.laid_math_bits_deBruijn64tab), ("strconv.ErrSyntax", Rows.laid_strconv_ErrSyntax), ("strconv.ErrRange", Rows.laid_strconv_ErrRange)] [.handle, .data, .data, .data, .sentinel, .sentinel] true :=
  Program.laidByTextLater_by_run_h 400 8 tie_w tie_x tie_r tie_k tie_g tie_n tie_d tie_1 tie_2 tie_3
theorem judgeKnown_tie : Rows.judgeKnownRow.laidByTextAt .later Tryz.pinned [.handle, .data, .data, .data, .sentinel, .sentinel] true :=
  OpenClaim.laidByTextAt_later rfl rfl tie_all tie_u
end Go.Proofs.YtbjecfbfcpiilaaGreatDoor

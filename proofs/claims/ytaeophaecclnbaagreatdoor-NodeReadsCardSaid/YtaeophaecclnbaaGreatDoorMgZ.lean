/- The tie of the law's row, put together. NodeReads: the card: the call returns true for every text, and the text reads as it did. Conditions: those of the given statement, no others. -/
import Derived.Test.YtaeophaecclnbaaGreatDoorNrTA
import Derived.Test.YtaeophaecclnbaaGreatDoorNrTB
import Derived.Test.YtaeophaecclnbaaGreatDoorNrTC
import Derived.Test.YtaeophaecclnbaaGreatDoorNrTD
import Derived.Test.YtaeophaecclnbaaGreatDoorNrTE
import Derived.Test.YtaeophaecclnbaaGreatDoorNrTF
import Derived.Test.YtaeophaecclnbaaGreatDoorNrTG
import Derived.Test.YtaeophaecclnbaaGreatDoorCards
import Derived.Test.YtaeophaecclnbaaGreatDoorNrDQ
import Derived.Test.YtaeophaecclnbaaGreatDoorNrG
import Derived.Test.YtaeophaecclnbaaGreatDoorNrL
namespace Go.Proofs.YtaeophaecclnbaaGreatDoor
open Go
theorem tie_all : Tryz.prog.laidByTextLater [("errors.errorType", Rows.laid_errors_errorType), ("internal/strconv.uint64pow10", Rows.laid_internal_strconv_uint64pow10), ("math/bits.deBruijn32tab", Rows.laid_math_bits_deBruijn32tab), ("math/bits.deBruijn64tab", Rows.laid_math_bits_deBruijn64tab), ("strconv.ErrSyntax", Rows.laid_strconv_ErrSyntax), ("strconv.ErrRange", Rows.laid_strconv_ErrRange)] [.handle, .data, .data, .data, .sentinel, .sentinel] true :=
  Program.laidByTextLater_by_run_h 400 8 tie_w tie_x tie_r tie_k tie_g tie_n tie_d tie_1 tie_2 tie_3
theorem nodeReads_tie : Rows.nodeReadsRow.laidByTextAt .later Tryz.pinned [.handle, .data, .data, .data, .sentinel, .sentinel] true :=
  OpenClaim.laidByTextAt_later rfl rfl tie_all tie_u
end Go.Proofs.YtaeophaecclnbaaGreatDoor
namespace Go.Proofs.YtaeophaecclnbaaGreatDoor
namespace nodeReads
open Go.RowKit Go.ChangeShapes Go.WideShapes Go.ChangeAt
open Go.ChangeMaps (open_string)

/-- THE CARD. -/
theorem card : Rows.NodeReadsCardSaid :=
  Claim7.holds_tied_plain_at .later [] _ _ _ _ said (fun _ h => by cases h) (by kernel_rfl) (fun _ h => by cases h) nodeReads_tie rfl ⟨rfl, rfl⟩ (by kernel_rfl) rfl (fun f fn hf hfn => ⟨looks_on, (plain f fn hf hfn).2⟩) goes_off
end nodeReads
theorem nodeReads_holds : Rows.NodeReadsCardSaid := nodeReads.card
end Go.Proofs.YtaeophaecclnbaaGreatDoor

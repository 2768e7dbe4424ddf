/- The table of instructions, walked: part 0. Printed by a program. The table of instructions, walked: part 1. Printed by a program. -/
import Derived.Test.YtjfdokoigkdciaaInstrT
namespace Go.Proofs.Ytjfdokoigkdciaa
open Go.RowKit

end Go.Proofs.Ytjfdokoigkdciaa
namespace Go.Proofs.Ytjfdokoigkdciaa
open Go.RowKit

end Go.Proofs.Ytjfdokoigkdciaa

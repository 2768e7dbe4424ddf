/- The table of instructions, walked: part 3. Printed by a program. -/
import Derived.Test.YtjfdokoigkdciaaInstrT
namespace Go.Proofs.Ytjfdokoigkdciaa
open Go.RowKit

end Go.Proofs.Ytjfdokoigkdciaa

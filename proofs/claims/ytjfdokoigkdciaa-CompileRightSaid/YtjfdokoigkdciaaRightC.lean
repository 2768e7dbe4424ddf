/- What is right, walked, a kind at a time (the reference's). Printed by a program. -/
import Derived.Test.YtjfdokoigkdciaaRightA
namespace Go.Proofs.Ytjfdokoigkdciaa
open Go.RowKit

end Go.Proofs.Ytjfdokoigkdciaa

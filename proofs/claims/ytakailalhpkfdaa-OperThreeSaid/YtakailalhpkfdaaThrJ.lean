/- OperThree: both arms. -/
import Derived.Test.YtakailalhpkfdaaThrS
import Derived.Test.YtakailalhpkfdaaThrL
namespace Go.Proofs.Ytakailalhpkfdaa
open Go.RowKit
theorem three_any (x y : Int) (s t : ByteArray) (w : World) {P1 P2 P3 P4 P5 P6 : Prop} (_ : P1) (_ : P2) (_ : P3) (_ : P4) (_ : P5) (_ : P6) : Calls Try.prog 3 #[.int .i64 x, .int .i64 y, .string s, .string t] w (RetB (.bool true) w) := by
  by_cases h : s.size ≤ 4095 ∧ t.size ≤ 4095
  · exact three_long x y s t h w
  · exact three_short x y s t h w
end Go.Proofs.Ytakailalhpkfdaa

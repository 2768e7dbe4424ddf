/- The table of instructions, the program's and the reference's, walked. Printed by a program, an instruction at a time. -/
import Derived.Test.YtefijgdbnjmifaaBase
import Derived.Test.YtefijgdbnjmifaaInstrP
namespace Go.Proofs.Ytefijgdbnjmifaa
open Go.RowKit

def wordsL : List (List UInt8) := [[], [106, 117, 109, 112], [98, 114, 97, 110, 99, 104], [111, 114], [97, 110, 100], [98, 111, 111, 108], [100, 114, 111, 112], [], [114, 101, 116, 117, 114, 110], [102, 97, 105, 108], [115, 108, 101, 101, 112], [], [], [], [], [], [], [], [], [], [110, 111, 110, 101], [116, 114, 117, 101], [102, 97, 108, 115, 101], [105, 110, 116], [116, 101, 120, 116], [108, 105, 115, 116], [108, 111, 97, 100], [115, 116, 111, 114, 101], [101, 110, 100], [], [], [], [101, 113], [110, 101], [108, 116], [108, 101], [97, 100, 100], [115, 117, 98], [109, 117, 108], [100, 105, 118], [109, 111, 100], [110, 117, 109], [97, 116], [110, 111, 116], [110, 101, 103], [108, 101, 110], [114, 101], [105, 109], [99, 111, 110, 106], [], [99, 97, 108, 108], [99, 104, 105, 108, 100], [116, 105, 109, 101, 114], [102, 111, 114, 107], [97, 119, 97, 105, 116], [115, 101, 116, 116, 108, 101], [116, 97, 107, 101], [118, 101, 114, 115, 105, 111, 110]]
/-- The words. -/
def wordK (op : Nat) : ByteArray := ⟨(wordsL.getD op []).toArray⟩
def aB (op : Nat) : Int := if aK op = 1 then 116 else if aK op = 2 then 115 else if aK op = 3 then 99 else 0
def tB (op : Nat) : Int := if textK op = 1 then 120 else if textK op = 2 then 110 else 0
def manyK (op : Nat) : Bool := aK op = 3
/-- An instruction's kind, as the program keeps it. -/
def kindV (op : Nat) : Value := .agg #[.string (wordK op), .int .u8 (aB op), .bool (numK op), .int .u8 (tB op), .int .i64 (takesK op), .int .i64 (leaveK op), .bool (manyK op), .bool (endsK op)]
/-- An instruction's row, as the reference keeps it. -/
def rowV (op : Nat) : Value := .agg #[.string (wordK op), .int .i64 (aK op), .bool (numK op), .bool (decide (textK op = 1)), .bool (decide (textK op = 2)), .int .i64 (takesK op), .int .i64 (leaveK op)]

end Go.Proofs.Ytefijgdbnjmifaa

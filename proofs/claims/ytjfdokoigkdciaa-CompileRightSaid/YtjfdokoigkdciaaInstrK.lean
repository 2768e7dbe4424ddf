/- The table of instructions: all. Printed by a program. -/
import Derived.Test.YtjfdokoigkdciaaInstrKP0
import Derived.Test.YtjfdokoigkdciaaInstrKP2
import Derived.Test.YtjfdokoigkdciaaInstrKP3
import Derived.Test.YtjfdokoigkdciaaInstrKR0
import Derived.Test.YtjfdokoigkdciaaInstrKR2
import Derived.Test.YtjfdokoigkdciaaInstrKR3
namespace Go.Proofs.Ytjfdokoigkdciaa
open Go.RowKit

theorem none_big (op : Nat) (h : 64 ≤ op) : aK op = 0 ∧ numK op = false ∧ textK op = 0 ∧ takesK op = 0 ∧ leaveK op = 0 ∧ endsK op = false ∧ wordK op = wordK 0 := by
  refine ⟨?_, ?_, ?_, ?_, ?_, ?_, ?_⟩
  · unfold aK; rw [if_neg (by omega), if_neg (by omega), if_neg (by omega)]
  · simp [numK]; omega
  · unfold textK; rw [if_neg (by omega), if_neg (by omega)]
  · unfold takesK; rw [if_neg (by omega), if_neg (by omega)]
  · unfold leaveK; rw [if_neg (by omega)]
  · simp [endsK]; omega
  · unfold wordK
    have e : wordsL.getD op [] = wordsL.getD 0 [] := by
      have hl : wordsL.length = 58 := rfl
      rw [List.getD, List.getElem?_eq_none (by omega)]; rfl
    rw [e]
theorem kindV_big (op : Nat) (h : 64 ≤ op) : kindV op = kindV 0 := by
  obtain ⟨h1, h2, h3, h4, h5, h6, h7⟩ := none_big op h
  unfold kindV aB tB manyK
  rw [h1, h2, h3, h4, h5, h6, h7]; rfl
theorem rowV_big (op : Nat) (h : 64 ≤ op) : rowV op = rowV 0 := by
  obtain ⟨h1, h2, h3, h4, h5, h6, h7⟩ := none_big op h
  unfold rowV
  rw [h1, h2, h3, h4, h5, h7]; rfl
theorem kind_any (op : Nat) (h : op < 256) (w : World) : Calls Try.prog 15 #[.int .u8 (op : Int)] w (RetB (kindV op) w) := by
  by_cases h64 : op < 64
  · match op, h64 with
    | 0, _ => exact kind_0 w
    | 1, _ => exact kind_1 w
    | 2, _ => exact kind_2 w
    | 3, _ => exact kind_3 w
    | 4, _ => exact kind_4 w
    | 5, _ => exact kind_5 w
    | 6, _ => exact kind_6 w
    | 7, _ => exact kind_7 w
    | 8, _ => exact kind_8 w
    | 9, _ => exact kind_9 w
    | 10, _ => exact kind_10 w
    | 11, _ => exact kind_11 w
    | 12, _ => exact kind_12 w
    | 13, _ => exact kind_13 w
    | 14, _ => exact kind_14 w
    | 15, _ => exact kind_15 w
    | 16, _ => exact kind_16 w
    | 17, _ => exact kind_17 w
    | 18, _ => exact kind_18 w
    | 19, _ => exact kind_19 w
    | 20, _ => exact kind_20 w
    | 21, _ => exact kind_21 w
    | 22, _ => exact kind_22 w
    | 23, _ => exact kind_23 w
    | 24, _ => exact kind_24 w
    | 25, _ => exact kind_25 w
    | 26, _ => exact kind_26 w
    | 27, _ => exact kind_27 w
    | 28, _ => exact kind_28 w
    | 29, _ => exact kind_29 w
    | 30, _ => exact kind_30 w
    | 31, _ => exact kind_31 w
    | 32, _ => exact kind_32 w
    | 33, _ => exact kind_33 w
    | 34, _ => exact kind_34 w
    | 35, _ => exact kind_35 w
    | 36, _ => exact kind_36 w
    | 37, _ => exact kind_37 w
    | 38, _ => exact kind_38 w
    | 39, _ => exact kind_39 w
    | 40, _ => exact kind_40 w
    | 41, _ => exact kind_41 w
    | 42, _ => exact kind_42 w
    | 43, _ => exact kind_43 w
    | 44, _ => exact kind_44 w
    | 45, _ => exact kind_45 w
    | 46, _ => exact kind_46 w
    | 47, _ => exact kind_47 w
    | 48, _ => exact kind_48 w
    | 49, _ => exact kind_49 w
    | 50, _ => exact kind_50 w
    | 51, _ => exact kind_51 w
    | 52, _ => exact kind_52 w
    | 53, _ => exact kind_53 w
    | 54, _ => exact kind_54 w
    | 55, _ => exact kind_55 w
    | 56, _ => exact kind_56 w
    | 57, _ => exact kind_57 w
    | 58, _ => exact kind_58 w
    | 59, _ => exact kind_59 w
    | 60, _ => exact kind_60 w
    | 61, _ => exact kind_61 w
    | 62, _ => exact kind_62 w
    | 63, _ => exact kind_63 w
    | n + 64, h => exact absurd h (by omega)
  · rw [kindV_big op (by omega)]
    exact kind_big op (by omega) (by omega) w
end Go.Proofs.Ytjfdokoigkdciaa

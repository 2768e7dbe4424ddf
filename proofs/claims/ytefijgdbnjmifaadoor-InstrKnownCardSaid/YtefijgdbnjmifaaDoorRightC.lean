/- What is right, walked, a kind at a time (the reference's). Printed by a program. -/
import Derived.Test.YtefijgdbnjmifaaDoorRightA
namespace Go.Proofs.YtefijgdbnjmifaaDoor
open Go.RowKit

set_option maxRecDepth 100000 in
set_option maxHeartbeats 1000000 in
theorem rright_n_0_0 (op : Nat) (a n int : Int) (text : ByteArray) (w : World) (hop : op < 256) (hk : isK op = true) (hn : numK op = true) (hA : aK op = 0) (hT : textK op = 0) :
    Calls Tryd.prog 42 #[.agg #[.int .u8 (op : Int), .int .i64 a, .int .i64 int, .string text], .int .i64 n] w (RetB (.bool (restR a 1 0 text)) w) := by
  have hw := word_none op
  rw [hk] at hw
  have EK := Lib.hid (show rowV op = .agg #[.string (wordK op), .int .i64 0, .bool true, .bool false, .bool false, .int .i64 (takesK op), .int .i64 (leaveK op)] from by unfold rowV; rw [hA, hn, hT]; rfl)
  clear hk hn hA hT
  have LOW := Lib.hid (fun h => show false = restR a 1 0 text from (restR_low h).symm)
  have HIGH := Lib.hid (fun h => show false = restR a 1 0 text from (restR_high h).symm)
  have IN := Lib.hid (fun h h' => show text.toList.isEmpty = restR a 1 0 text from (restR_none h h').symm)
  go_enter Tryd.func42, Tryd.ntmps42
  go_wp2_with fail
  refine (row_any op hop _).mono ?_
  rintro e w1 ⟨rfl, h1⟩
  rw [EK.out]
  have c1 := (bcell h1).1
  have c2 := (bcell h1).2
  have s1 : w.heap.size < w1.heap.size := szlt h1 (by simp)
  have HB := Lib.hid (fun o : Obj => bthen (bthen ((Below.refl _ w).alloc (Nat.le_refl _) _) h1) ((Below.refl _ w1).alloc (Nat.le_refl _) o))
  go_wp2_with fail
  all_goals first
    | (go_ret; exact ⟨ret_bool (LOW.out (by omega)), HB.out _⟩)
    | (go_ret; exact ⟨ret_bool (HIGH.out (by omega)), HB.out _⟩)
    | (go_ret; exact ⟨ret_bool (IN.out (by omega) (by omega)), HB.out _⟩)
    | (go_ret; exact ⟨ret_bool (HIGH.out (by simp_all; omega)), HB.out _⟩)
    | (go_ret; exact ⟨ret_bool (IN.out (by omega) (by simp_all)), HB.out _⟩)
set_option maxRecDepth 100000 in
set_option maxHeartbeats 1000000 in
theorem rright_x_0_1 (op : Nat) (a n : Int) (text : ByteArray) (w : World) (hop : op < 256) (hk : isK op = true) (hn : numK op = false) (hA : aK op = 0) (hT : textK op = 1) :
    Calls Tryd.prog 42 #[.agg #[.int .u8 (op : Int), .int .i64 a, .int .i64 0, .string text], .int .i64 n] w (RetB (.bool (restR a 1 120 text)) w) := by
  have hw := word_none op
  rw [hk] at hw
  have EK := Lib.hid (show rowV op = .agg #[.string (wordK op), .int .i64 0, .bool false, .bool true, .bool false, .int .i64 (takesK op), .int .i64 (leaveK op)] from by unfold rowV; rw [hA, hn, hT]; rfl)
  clear hk hn hA hT
  have LOW := Lib.hid (fun h => show false = restR a 1 120 text from (restR_low h).symm)
  have HIGH := Lib.hid (fun h => show false = restR a 1 120 text from (restR_high h).symm)
  have IN := Lib.hid (fun h h' => show decide ((text.size : Int) ≤ 4095) = restR a 1 120 text from (restR_any' h h').symm)
  go_enter Tryd.func42, Tryd.ntmps42
  go_wp2_with fail
  refine (row_any op hop _).mono ?_
  rintro e w1 ⟨rfl, h1⟩
  rw [EK.out]
  have c1 := (bcell h1).1
  have c2 := (bcell h1).2
  have s1 : w.heap.size < w1.heap.size := szlt h1 (by simp)
  have HB := Lib.hid (fun o : Obj => bthen (bthen ((Below.refl _ w).alloc (Nat.le_refl _) _) h1) ((Below.refl _ w1).alloc (Nat.le_refl _) o))
  go_wp2_with fail
  all_goals first
    | (go_ret; exact ⟨ret_bool (LOW.out (by omega)), HB.out _⟩)
    | (go_ret; exact ⟨ret_bool (HIGH.out (by omega)), HB.out _⟩)
    | (go_ret; exact ⟨ret_bool (IN.out (by omega) (by omega)), HB.out _⟩)
    | (go_ret; exact ⟨ret_bool (HIGH.out (by simp_all; omega)), HB.out _⟩)
    | (go_ret; exact ⟨ret_bool (IN.out (by omega) (by simp_all)), HB.out _⟩)
set_option maxRecDepth 100000 in
set_option maxHeartbeats 1000000 in
theorem rright_x_0_2 (op : Nat) (a n : Int) (text : ByteArray) (w : World) (hop : op < 256) (hk : isK op = true) (hn : numK op = false) (hA : aK op = 0) (hT : textK op = 2) (hs : text.size ≤ 9223372036854775807) :
    Calls Tryd.prog 42 #[.agg #[.int .u8 (op : Int), .int .i64 a, .int .i64 0, .string text], .int .i64 n] w (RetB (.bool (restR a 1 110 text)) w) := by
  have hw := word_none op
  rw [hk] at hw
  have EK := Lib.hid (show rowV op = .agg #[.string (wordK op), .int .i64 0, .bool false, .bool false, .bool true, .int .i64 (takesK op), .int .i64 (leaveK op)] from by unfold rowV; rw [hA, hn, hT]; rfl)
  clear hk hn hA hT
  have LOW := Lib.hid (fun h => show false = restR a 1 110 text from (restR_low h).symm)
  have HIGH := Lib.hid (fun h => show false = restR a 1 110 text from (restR_high h).symm)
  have IN := Lib.hid (fun h h' => show nameS text = restR a 1 110 text from (restR_name h h').symm)
  go_enter Tryd.func42, Tryd.ntmps42
  go_wp2_with fail
  refine (row_any op hop _).mono ?_
  rintro e w1 ⟨rfl, h1⟩
  rw [EK.out]
  have c1 := (bcell h1).1
  have c2 := (bcell h1).2
  have s1 : w.heap.size < w1.heap.size := szlt h1 (by simp)
  have HB := Lib.hid (fun o : Obj => bthen (bthen ((Below.refl _ w).alloc (Nat.le_refl _) _) h1) ((Below.refl _ w1).alloc (Nat.le_refl _) o))
  go_wp2_with (go_at_call 58; refine (rname_any _ hs _).mono ?_; rintro e w2 ⟨rfl, rfl⟩)
  all_goals first
    | (go_ret; exact ⟨ret_bool (LOW.out (by omega)), HB.out _⟩)
    | (go_ret; exact ⟨ret_bool (HIGH.out (by omega)), HB.out _⟩)
    | (go_ret; exact ⟨ret_bool (IN.out (by omega) (by omega)), HB.out _⟩)
    | (go_ret; exact ⟨ret_bool (HIGH.out (by simp_all; omega)), HB.out _⟩)
    | (go_ret; exact ⟨ret_bool (IN.out (by omega) (by simp_all)), HB.out _⟩)
set_option maxRecDepth 100000 in
set_option maxHeartbeats 1000000 in
theorem rright_x_3_2 (op : Nat) (a n : Int) (text : ByteArray) (w : World) (hop : op < 256) (hk : isK op = true) (hn : numK op = false) (hA : aK op = 3) (hT : textK op = 2) (hs : text.size ≤ 9223372036854775807) :
    Calls Tryd.prog 42 #[.agg #[.int .u8 (op : Int), .int .i64 a, .int .i64 0, .string text], .int .i64 n] w (RetB (.bool (restR a 2049 110 text)) w) := by
  have hw := word_none op
  rw [hk] at hw
  have EK := Lib.hid (show rowV op = .agg #[.string (wordK op), .int .i64 3, .bool false, .bool false, .bool true, .int .i64 (takesK op), .int .i64 (leaveK op)] from by unfold rowV; rw [hA, hn, hT]; rfl)
  clear hk hn hA hT
  have LOW := Lib.hid (fun h => show false = restR a 2049 110 text from (restR_low h).symm)
  have HIGH := Lib.hid (fun h => show false = restR a 2049 110 text from (restR_high h).symm)
  have IN := Lib.hid (fun h h' => show nameS text = restR a 2049 110 text from (restR_name h h').symm)
  go_enter Tryd.func42, Tryd.ntmps42
  go_wp2_with fail
  refine (row_any op hop _).mono ?_
  rintro e w1 ⟨rfl, h1⟩
  rw [EK.out]
  have c1 := (bcell h1).1
  have c2 := (bcell h1).2
  have s1 : w.heap.size < w1.heap.size := szlt h1 (by simp)
  have HB := Lib.hid (fun o : Obj => bthen (bthen ((Below.refl _ w).alloc (Nat.le_refl _) _) h1) ((Below.refl _ w1).alloc (Nat.le_refl _) o))
  go_wp2_with (go_at_call 58; refine (rname_any _ hs _).mono ?_; rintro e w2 ⟨rfl, rfl⟩)
  all_goals first
    | (go_ret; exact ⟨ret_bool (LOW.out (by omega)), HB.out _⟩)
    | (go_ret; exact ⟨ret_bool (HIGH.out (by omega)), HB.out _⟩)
    | (go_ret; exact ⟨ret_bool (IN.out (by omega) (by omega)), HB.out _⟩)
    | (go_ret; exact ⟨ret_bool (HIGH.out (by simp_all; omega)), HB.out _⟩)
    | (go_ret; exact ⟨ret_bool (IN.out (by omega) (by simp_all)), HB.out _⟩)
set_option maxRecDepth 100000 in
set_option maxHeartbeats 1000000 in
theorem rright_x_3_0 (op : Nat) (a n : Int) (text : ByteArray) (w : World) (hop : op < 256) (hk : isK op = true) (hn : numK op = false) (hA : aK op = 3) (hT : textK op = 0) :
    Calls Tryd.prog 42 #[.agg #[.int .u8 (op : Int), .int .i64 a, .int .i64 0, .string text], .int .i64 n] w (RetB (.bool (restR a 2049 0 text)) w) := by
  have hw := word_none op
  rw [hk] at hw
  have EK := Lib.hid (show rowV op = .agg #[.string (wordK op), .int .i64 3, .bool false, .bool false, .bool false, .int .i64 (takesK op), .int .i64 (leaveK op)] from by unfold rowV; rw [hA, hn, hT]; rfl)
  clear hk hn hA hT
  have LOW := Lib.hid (fun h => show false = restR a 2049 0 text from (restR_low h).symm)
  have HIGH := Lib.hid (fun h => show false = restR a 2049 0 text from (restR_high h).symm)
  have IN := Lib.hid (fun h h' => show text.toList.isEmpty = restR a 2049 0 text from (restR_none h h').symm)
  go_enter Tryd.func42, Tryd.ntmps42
  go_wp2_with fail
  refine (row_any op hop _).mono ?_
  rintro e w1 ⟨rfl, h1⟩
  rw [EK.out]
  have c1 := (bcell h1).1
  have c2 := (bcell h1).2
  have s1 : w.heap.size < w1.heap.size := szlt h1 (by simp)
  have HB := Lib.hid (fun o : Obj => bthen (bthen ((Below.refl _ w).alloc (Nat.le_refl _) _) h1) ((Below.refl _ w1).alloc (Nat.le_refl _) o))
  go_wp2_with fail
  all_goals first
    | (go_ret; exact ⟨ret_bool (LOW.out (by omega)), HB.out _⟩)
    | (go_ret; exact ⟨ret_bool (HIGH.out (by omega)), HB.out _⟩)
    | (go_ret; exact ⟨ret_bool (IN.out (by omega) (by omega)), HB.out _⟩)
    | (go_ret; exact ⟨ret_bool (HIGH.out (by simp_all; omega)), HB.out _⟩)
    | (go_ret; exact ⟨ret_bool (IN.out (by omega) (by simp_all)), HB.out _⟩)
set_option maxRecDepth 100000 in
set_option maxHeartbeats 1000000 in
theorem rright_x_2_0 (op : Nat) (a n : Int) (text : ByteArray) (w : World) (hop : op < 256) (hk : isK op = true) (hn : numK op = false) (hA : aK op = 2) (hT : textK op = 0) :
    Calls Tryd.prog 42 #[.agg #[.int .u8 (op : Int), .int .i64 a, .int .i64 0, .string text], .int .i64 n] w (RetB (.bool (restR a 100 0 text)) w) := by
  have hw := word_none op
  rw [hk] at hw
  have EK := Lib.hid (show rowV op = .agg #[.string (wordK op), .int .i64 2, .bool false, .bool false, .bool false, .int .i64 (takesK op), .int .i64 (leaveK op)] from by unfold rowV; rw [hA, hn, hT]; rfl)
  clear hk hn hA hT
  have LOW := Lib.hid (fun h => show false = restR a 100 0 text from (restR_low h).symm)
  have HIGH := Lib.hid (fun h => show false = restR a 100 0 text from (restR_high h).symm)
  have IN := Lib.hid (fun h h' => show text.toList.isEmpty = restR a 100 0 text from (restR_none h h').symm)
  go_enter Tryd.func42, Tryd.ntmps42
  go_wp2_with fail
  refine (row_any op hop _).mono ?_
  rintro e w1 ⟨rfl, h1⟩
  rw [EK.out]
  have c1 := (bcell h1).1
  have c2 := (bcell h1).2
  have s1 : w.heap.size < w1.heap.size := szlt h1 (by simp)
  have HB := Lib.hid (fun o : Obj => bthen (bthen ((Below.refl _ w).alloc (Nat.le_refl _) _) h1) ((Below.refl _ w1).alloc (Nat.le_refl _) o))
  go_wp2_with fail
  all_goals first
    | (go_ret; exact ⟨ret_bool (LOW.out (by omega)), HB.out _⟩)
    | (go_ret; exact ⟨ret_bool (HIGH.out (by omega)), HB.out _⟩)
    | (go_ret; exact ⟨ret_bool (IN.out (by omega) (by omega)), HB.out _⟩)
    | (go_ret; exact ⟨ret_bool (HIGH.out (by simp_all; omega)), HB.out _⟩)
    | (go_ret; exact ⟨ret_bool (IN.out (by omega) (by simp_all)), HB.out _⟩)
set_option maxRecDepth 100000 in
set_option maxHeartbeats 1000000 in
theorem rright_x_1_0 (op : Nat) (a n : Int) (text : ByteArray) (w : World) (hop : op < 256) (hk : isK op = true) (hn : numK op = false) (hA : aK op = 1) (hT : textK op = 0) :
    Calls Tryd.prog 42 #[.agg #[.int .u8 (op : Int), .int .i64 a, .int .i64 0, .string text], .int .i64 n] w (RetB (.bool (restR a n 0 text)) w) := by
  have hw := word_none op
  rw [hk] at hw
  have EK := Lib.hid (show rowV op = .agg #[.string (wordK op), .int .i64 1, .bool false, .bool false, .bool false, .int .i64 (takesK op), .int .i64 (leaveK op)] from by unfold rowV; rw [hA, hn, hT]; rfl)
  clear hk hn hA hT
  have LOW := Lib.hid (fun h => show false = restR a n 0 text from (restR_low h).symm)
  have HIGH := Lib.hid (fun h => show false = restR a n 0 text from (restR_high h).symm)
  have IN := Lib.hid (fun h h' => show text.toList.isEmpty = restR a n 0 text from (restR_none h h').symm)
  go_enter Tryd.func42, Tryd.ntmps42
  go_wp2_with fail
  refine (row_any op hop _).mono ?_
  rintro e w1 ⟨rfl, h1⟩
  rw [EK.out]
  have c1 := (bcell h1).1
  have c2 := (bcell h1).2
  have s1 : w.heap.size < w1.heap.size := szlt h1 (by simp)
  have HB := Lib.hid (fun o : Obj => bthen (bthen ((Below.refl _ w).alloc (Nat.le_refl _) _) h1) ((Below.refl _ w1).alloc (Nat.le_refl _) o))
  go_wp2_with fail
  all_goals first
    | (go_ret; exact ⟨ret_bool (LOW.out (by omega)), HB.out _⟩)
    | (go_ret; exact ⟨ret_bool (HIGH.out (by omega)), HB.out _⟩)
    | (go_ret; exact ⟨ret_bool (IN.out (by omega) (by omega)), HB.out _⟩)
    | (go_ret; exact ⟨ret_bool (HIGH.out (by simp_all; omega)), HB.out _⟩)
    | (go_ret; exact ⟨ret_bool (IN.out (by omega) (by simp_all)), HB.out _⟩)
set_option maxRecDepth 100000 in
set_option maxHeartbeats 1000000 in
theorem rright_x_0_0 (op : Nat) (a n : Int) (text : ByteArray) (w : World) (hop : op < 256) (hk : isK op = true) (hn : numK op = false) (hA : aK op = 0) (hT : textK op = 0) :
    Calls Tryd.prog 42 #[.agg #[.int .u8 (op : Int), .int .i64 a, .int .i64 0, .string text], .int .i64 n] w (RetB (.bool (restR a 1 0 text)) w) := by
  have hw := word_none op
  rw [hk] at hw
  have EK := Lib.hid (show rowV op = .agg #[.string (wordK op), .int .i64 0, .bool false, .bool false, .bool false, .int .i64 (takesK op), .int .i64 (leaveK op)] from by unfold rowV; rw [hA, hn, hT]; rfl)
  clear hk hn hA hT
  have LOW := Lib.hid (fun h => show false = restR a 1 0 text from (restR_low h).symm)
  have HIGH := Lib.hid (fun h => show false = restR a 1 0 text from (restR_high h).symm)
  have IN := Lib.hid (fun h h' => show text.toList.isEmpty = restR a 1 0 text from (restR_none h h').symm)
  go_enter Tryd.func42, Tryd.ntmps42
  go_wp2_with fail
  refine (row_any op hop _).mono ?_
  rintro e w1 ⟨rfl, h1⟩
  rw [EK.out]
  have c1 := (bcell h1).1
  have c2 := (bcell h1).2
  have s1 : w.heap.size < w1.heap.size := szlt h1 (by simp)
  have HB := Lib.hid (fun o : Obj => bthen (bthen ((Below.refl _ w).alloc (Nat.le_refl _) _) h1) ((Below.refl _ w1).alloc (Nat.le_refl _) o))
  go_wp2_with fail
  all_goals first
    | (go_ret; exact ⟨ret_bool (LOW.out (by omega)), HB.out _⟩)
    | (go_ret; exact ⟨ret_bool (HIGH.out (by omega)), HB.out _⟩)
    | (go_ret; exact ⟨ret_bool (IN.out (by omega) (by omega)), HB.out _⟩)
    | (go_ret; exact ⟨ret_bool (HIGH.out (by simp_all; omega)), HB.out _⟩)
    | (go_ret; exact ⟨ret_bool (IN.out (by omega) (by simp_all)), HB.out _⟩)
end Go.Proofs.YtefijgdbnjmifaaDoor

/- What is right, walked. What is right, walked, a kind at a time (the program's). Printed by a program. -/
import Derived.Test.YtjfdokoigkdciaaInstrK
import Derived.Test.YtjfdokoigkdciaaInstrT
import Derived.Test.YtjfdokoigkdciaaInsV
namespace Go.Proofs.Ytjfdokoigkdciaa
open Go.RowKit

theorem word_64 : ∀ op, op < 64 → (wordK op).toList.isEmpty = !isK op := by
  intro op h
  rw [ByteArray.toList_eq]
  revert op
  decide +kernel
theorem isK_big (op : Nat) (h : 64 ≤ op) : isK op = false := by
  simp only [isK, Bool.or_eq_false_iff, Bool.and_eq_false_iff, decide_eq_false_iff_not]; omega
theorem word_none (op : Nat) : (wordK op).toList.isEmpty = !isK op := by
  by_cases h : op < 64
  · exact word_64 op h
  · rw [(none_big op (by omega)).2.2.2.2.2.2, isK_big op (by omega), ByteArray.toList_eq]; rfl
theorem right_none (x : InsV) (n : Int) (w : World) (hop : x.op < 256) (hk : isK x.op = false) : Calls Try.prog 26 #[x.val, .int .i64 n] w (RetB (.bool (rightI x.ins n)) w) := by
  have E := Lib.hid (show false = rightI x.ins n by simp [rightI, InsV.ins, hk])
  have hw := word_none x.op
  rw [hk] at hw
  obtain ⟨op, a, int, text⟩ := x
  simp only at hop hw
  simp only [InsV.val]
  go_enter Try.func26, Try.ntmps26
  go_wp2_with fail
  refine (kind_any op hop _).mono ?_
  rintro e w1 ⟨rfl, h1⟩
  simp only [kindV]
  have c1 := (bcell h1).1
  have c2 := (bcell h1).2
  have s1 : w.heap.size < w1.heap.size := szlt h1 (by simp)
  go_wp2_with fail
  go_ret
  exact ⟨ret_bool E.out, bthen (bthen ((Below.refl _ w).alloc (Nat.le_refl _) _) h1) ((Below.refl _ w1).alloc (Nat.le_refl _) _)⟩
theorem right_int (x : InsV) (n : Int) (w : World) (hop : x.op < 256) (hk : isK x.op = true) (hn : numK x.op = false) (hi : (x.int != 0) = true) : Calls Try.prog 26 #[x.val, .int .i64 n] w (RetB (.bool (rightI x.ins n)) w) := by
  have E := Lib.hid (show false = rightI x.ins n by
    have h0 : decide (x.int = 0) = false := decide_eq_false (by simpa using hi)
    show false = (isK x.op && (numK x.op || decide (x.int = 0)) && _ && _ && _)
    rw [hn, h0]; simp)
  have hw := word_none x.op
  rw [hk] at hw
  obtain ⟨op, a, int, text⟩ := x
  simp only at hop hw hn hi
  simp only [InsV.val]
  go_enter Try.func26, Try.ntmps26
  go_wp2_with fail
  refine (kind_any op hop _).mono ?_
  rintro e w1 ⟨rfl, h1⟩
  simp only [kindV, hn]
  have c1 := (bcell h1).1
  have c2 := (bcell h1).2
  have s1 : w.heap.size < w1.heap.size := szlt h1 (by simp)
  go_wp2_with fail
  go_ret
  exact ⟨ret_bool E.out, bthen (bthen ((Below.refl _ w).alloc (Nat.le_refl _) _) h1) ((Below.refl _ w1).alloc (Nat.le_refl _) _)⟩
/-- What is left to ask, when the kind is known. -/
def restR (a top : Int) (T : Int) (text : ByteArray) : Bool := decide (0 ≤ a) && decide (a < top) && (if T = 120 then decide (text.size < 4096) else if T = 110 then nameS text else text.toList.isEmpty)
theorem restR_low {a top T : Int} {text : ByteArray} (h : a < 0) : restR a top T text = false := by unfold restR; rw [decide_eq_false (p := 0 ≤ a) (by omega)]; simp
theorem restR_high {a top T : Int} {text : ByteArray} (h : top ≤ a) : restR a top T text = false := by unfold restR; rw [decide_eq_false (p := a < top) (by omega)]; simp
theorem restR_in {a top T : Int} {text : ByteArray} (h : ¬ a < 0) (h' : ¬ top ≤ a) : restR a top T text = (if T = 120 then decide (text.size < 4096) else if T = 110 then nameS text else text.toList.isEmpty) := by
  unfold restR; rw [decide_eq_true (p := 0 ≤ a) (by omega), decide_eq_true (p := a < top) (by omega)]; simp
theorem restR_name {a top : Int} {text : ByteArray} (h : ¬ a < 0) (h' : ¬ top ≤ a) : restR a top 110 text = nameS text := by rw [restR_in h h']; rfl
theorem restR_any {a top : Int} {text : ByteArray} (h : ¬ a < 0) (h' : ¬ top ≤ a) : restR a top 120 text = decide ((text.size : Int) < 4096) := by
  rw [restR_in h h', if_pos rfl]
  exact decide_eq_decide.2 (by omega)
theorem restR_any' {a top : Int} {text : ByteArray} (h : ¬ a < 0) (h' : ¬ top ≤ a) : restR a top 120 text = decide ((text.size : Int) ≤ 4095) := by
  rw [restR_any h h']
  exact decide_eq_decide.2 (by omega)
theorem restR_none {a top : Int} {text : ByteArray} (h : ¬ a < 0) (h' : ¬ top ≤ a) : restR a top 0 text = text.toList.isEmpty := by rw [restR_in h h']; rfl
end Go.Proofs.Ytjfdokoigkdciaa
namespace Go.Proofs.Ytjfdokoigkdciaa
open Go.RowKit

set_option maxRecDepth 100000 in
set_option maxHeartbeats 1000000 in
theorem right_n_0_0 (op : Nat) (a n int : Int) (text : ByteArray) (w : World) (hop : op < 256) (hk : isK op = true) (hn : numK op = true) (hA : aK op = 0) (hT : textK op = 0) :
    Calls Try.prog 26 #[.agg #[.int .u8 (op : Int), .int .i64 a, .int .i64 int, .string text], .int .i64 n] w (RetB (.bool (restR a 1 0 text)) w) := by
  have hw := word_none op
  rw [hk] at hw
  have EK := Lib.hid (show kindV op = .agg #[.string (wordK op), .int .u8 0, .bool true, .int .u8 0, .int .i64 (takesK op), .int .i64 (leaveK op), .bool false, .bool (endsK op)] from by unfold kindV aB tB manyK; rw [hA, hn, hT]; rfl)
  clear hk hn hA hT
  have LOW := Lib.hid (fun h => show false = restR a 1 0 text from (restR_low h).symm)
  have HIGH := Lib.hid (fun h => show false = restR a 1 0 text from (restR_high h).symm)
  have IN := Lib.hid (fun h h' => show text.toList.isEmpty = restR a 1 0 text from (restR_none h h').symm)
  go_enter Try.func26, Try.ntmps26
  go_wp2_with fail
  refine (kind_any op hop _).mono ?_
  rintro e w1 ⟨rfl, h1⟩
  rw [EK.out]
  have c1 := (bcell h1).1
  have c2 := (bcell h1).2
  have s1 : w.heap.size < w1.heap.size := szlt h1 (by simp)
  have HB := Lib.hid (fun o : Obj => bthen (bthen ((Below.refl _ w).alloc (Nat.le_refl _) _) h1) ((Below.refl _ w1).alloc (Nat.le_refl _) o))
  go_wp2_with fail
  all_goals first
    | (go_ret; exact ⟨ret_bool (LOW.out (by omega)), HB.out _⟩)
    | (go_ret; exact ⟨ret_bool (HIGH.out (by omega)), HB.out _⟩)
    | (go_ret; exact ⟨ret_bool (IN.out (by omega) (by omega)), HB.out _⟩)
    | (go_ret; exact ⟨ret_bool (HIGH.out (by simp_all; omega)), HB.out _⟩)
    | (go_ret; exact ⟨ret_bool (IN.out (by omega) (by simp_all)), HB.out _⟩)
set_option maxRecDepth 100000 in
set_option maxHeartbeats 1000000 in
theorem right_x_0_1 (op : Nat) (a n : Int) (text : ByteArray) (w : World) (hop : op < 256) (hk : isK op = true) (hn : numK op = false) (hA : aK op = 0) (hT : textK op = 1) :
    Calls Try.prog 26 #[.agg #[.int .u8 (op : Int), .int .i64 a, .int .i64 0, .string text], .int .i64 n] w (RetB (.bool (restR a 1 120 text)) w) := by
  have hw := word_none op
  rw [hk] at hw
  have EK := Lib.hid (show kindV op = .agg #[.string (wordK op), .int .u8 0, .bool false, .int .u8 120, .int .i64 (takesK op), .int .i64 (leaveK op), .bool false, .bool (endsK op)] from by unfold kindV aB tB manyK; rw [hA, hn, hT]; rfl)
  clear hk hn hA hT
  have LOW := Lib.hid (fun h => show false = restR a 1 120 text from (restR_low h).symm)
  have HIGH := Lib.hid (fun h => show false = restR a 1 120 text from (restR_high h).symm)
  have IN := Lib.hid (fun h h' => show decide ((text.size : Int) < 4096) = restR a 1 120 text from (restR_any h h').symm)
  go_enter Try.func26, Try.ntmps26
  go_wp2_with fail
  refine (kind_any op hop _).mono ?_
  rintro e w1 ⟨rfl, h1⟩
  rw [EK.out]
  have c1 := (bcell h1).1
  have c2 := (bcell h1).2
  have s1 : w.heap.size < w1.heap.size := szlt h1 (by simp)
  have HB := Lib.hid (fun o : Obj => bthen (bthen ((Below.refl _ w).alloc (Nat.le_refl _) _) h1) ((Below.refl _ w1).alloc (Nat.le_refl _) o))
  go_wp2_with fail
  all_goals first
    | (go_ret; exact ⟨ret_bool (LOW.out (by omega)), HB.out _⟩)
    | (go_ret; exact ⟨ret_bool (HIGH.out (by omega)), HB.out _⟩)
    | (go_ret; exact ⟨ret_bool (IN.out (by omega) (by omega)), HB.out _⟩)
    | (go_ret; exact ⟨ret_bool (HIGH.out (by simp_all; omega)), HB.out _⟩)
    | (go_ret; exact ⟨ret_bool (IN.out (by omega) (by simp_all)), HB.out _⟩)
set_option maxRecDepth 100000 in
set_option maxHeartbeats 1000000 in
theorem right_x_0_2 (op : Nat) (a n : Int) (text : ByteArray) (w : World) (hop : op < 256) (hk : isK op = true) (hn : numK op = false) (hA : aK op = 0) (hT : textK op = 2) (hs : text.size ≤ 9223372036854775807) :
    Calls Try.prog 26 #[.agg #[.int .u8 (op : Int), .int .i64 a, .int .i64 0, .string text], .int .i64 n] w (RetB (.bool (restR a 1 110 text)) w) := by
  have hw := word_none op
  rw [hk] at hw
  have EK := Lib.hid (show kindV op = .agg #[.string (wordK op), .int .u8 0, .bool false, .int .u8 110, .int .i64 (takesK op), .int .i64 (leaveK op), .bool false, .bool (endsK op)] from by unfold kindV aB tB manyK; rw [hA, hn, hT]; rfl)
  clear hk hn hA hT
  have LOW := Lib.hid (fun h => show false = restR a 1 110 text from (restR_low h).symm)
  have HIGH := Lib.hid (fun h => show false = restR a 1 110 text from (restR_high h).symm)
  have IN := Lib.hid (fun h h' => show nameS text = restR a 1 110 text from (restR_name h h').symm)
  go_enter Try.func26, Try.ntmps26
  go_wp2_with fail
  refine (kind_any op hop _).mono ?_
  rintro e w1 ⟨rfl, h1⟩
  rw [EK.out]
  have c1 := (bcell h1).1
  have c2 := (bcell h1).2
  have s1 : w.heap.size < w1.heap.size := szlt h1 (by simp)
  have HB := Lib.hid (fun o : Obj => bthen (bthen ((Below.refl _ w).alloc (Nat.le_refl _) _) h1) ((Below.refl _ w1).alloc (Nat.le_refl _) o))
  go_wp2_with (go_at_call 35; refine (pname_any _ hs _).mono ?_; rintro e w2 ⟨rfl, rfl⟩)
  all_goals first
    | (go_ret; exact ⟨ret_bool (LOW.out (by omega)), HB.out _⟩)
    | (go_ret; exact ⟨ret_bool (HIGH.out (by omega)), HB.out _⟩)
    | (go_ret; exact ⟨ret_bool (IN.out (by omega) (by omega)), HB.out _⟩)
    | (go_ret; exact ⟨ret_bool (HIGH.out (by simp_all; omega)), HB.out _⟩)
    | (go_ret; exact ⟨ret_bool (IN.out (by omega) (by simp_all)), HB.out _⟩)
set_option maxRecDepth 100000 in
set_option maxHeartbeats 1000000 in
theorem right_x_3_2 (op : Nat) (a n : Int) (text : ByteArray) (w : World) (hop : op < 256) (hk : isK op = true) (hn : numK op = false) (hA : aK op = 3) (hT : textK op = 2) (hs : text.size ≤ 9223372036854775807) :
    Calls Try.prog 26 #[.agg #[.int .u8 (op : Int), .int .i64 a, .int .i64 0, .string text], .int .i64 n] w (RetB (.bool (restR a 2049 110 text)) w) := by
  have hw := word_none op
  rw [hk] at hw
  have EK := Lib.hid (show kindV op = .agg #[.string (wordK op), .int .u8 99, .bool false, .int .u8 110, .int .i64 (takesK op), .int .i64 (leaveK op), .bool true, .bool (endsK op)] from by unfold kindV aB tB manyK; rw [hA, hn, hT]; rfl)
  clear hk hn hA hT
  have LOW := Lib.hid (fun h => show false = restR a 2049 110 text from (restR_low h).symm)
  have HIGH := Lib.hid (fun h => show false = restR a 2049 110 text from (restR_high h).symm)
  have IN := Lib.hid (fun h h' => show nameS text = restR a 2049 110 text from (restR_name h h').symm)
  go_enter Try.func26, Try.ntmps26
  go_wp2_with fail
  refine (kind_any op hop _).mono ?_
  rintro e w1 ⟨rfl, h1⟩
  rw [EK.out]
  have c1 := (bcell h1).1
  have c2 := (bcell h1).2
  have s1 : w.heap.size < w1.heap.size := szlt h1 (by simp)
  have HB := Lib.hid (fun o : Obj => bthen (bthen ((Below.refl _ w).alloc (Nat.le_refl _) _) h1) ((Below.refl _ w1).alloc (Nat.le_refl _) o))
  go_wp2_with (go_at_call 35; refine (pname_any _ hs _).mono ?_; rintro e w2 ⟨rfl, rfl⟩)
  all_goals first
    | (go_ret; exact ⟨ret_bool (LOW.out (by omega)), HB.out _⟩)
    | (go_ret; exact ⟨ret_bool (HIGH.out (by omega)), HB.out _⟩)
    | (go_ret; exact ⟨ret_bool (IN.out (by omega) (by omega)), HB.out _⟩)
    | (go_ret; exact ⟨ret_bool (HIGH.out (by simp_all; omega)), HB.out _⟩)
    | (go_ret; exact ⟨ret_bool (IN.out (by omega) (by simp_all)), HB.out _⟩)
set_option maxRecDepth 100000 in
set_option maxHeartbeats 1000000 in
theorem right_x_3_0 (op : Nat) (a n : Int) (text : ByteArray) (w : World) (hop : op < 256) (hk : isK op = true) (hn : numK op = false) (hA : aK op = 3) (hT : textK op = 0) :
    Calls Try.prog 26 #[.agg #[.int .u8 (op : Int), .int .i64 a, .int .i64 0, .string text], .int .i64 n] w (RetB (.bool (restR a 2049 0 text)) w) := by
  have hw := word_none op
  rw [hk] at hw
  have EK := Lib.hid (show kindV op = .agg #[.string (wordK op), .int .u8 99, .bool false, .int .u8 0, .int .i64 (takesK op), .int .i64 (leaveK op), .bool true, .bool (endsK op)] from by unfold kindV aB tB manyK; rw [hA, hn, hT]; rfl)
  clear hk hn hA hT
  have LOW := Lib.hid (fun h => show false = restR a 2049 0 text from (restR_low h).symm)
  have HIGH := Lib.hid (fun h => show false = restR a 2049 0 text from (restR_high h).symm)
  have IN := Lib.hid (fun h h' => show text.toList.isEmpty = restR a 2049 0 text from (restR_none h h').symm)
  go_enter Try.func26, Try.ntmps26
  go_wp2_with fail
  refine (kind_any op hop _).mono ?_
  rintro e w1 ⟨rfl, h1⟩
  rw [EK.out]
  have c1 := (bcell h1).1
  have c2 := (bcell h1).2
  have s1 : w.heap.size < w1.heap.size := szlt h1 (by simp)
  have HB := Lib.hid (fun o : Obj => bthen (bthen ((Below.refl _ w).alloc (Nat.le_refl _) _) h1) ((Below.refl _ w1).alloc (Nat.le_refl _) o))
  go_wp2_with fail
  all_goals first
    | (go_ret; exact ⟨ret_bool (LOW.out (by omega)), HB.out _⟩)
    | (go_ret; exact ⟨ret_bool (HIGH.out (by omega)), HB.out _⟩)
    | (go_ret; exact ⟨ret_bool (IN.out (by omega) (by omega)), HB.out _⟩)
    | (go_ret; exact ⟨ret_bool (HIGH.out (by simp_all; omega)), HB.out _⟩)
    | (go_ret; exact ⟨ret_bool (IN.out (by omega) (by simp_all)), HB.out _⟩)
set_option maxRecDepth 100000 in
set_option maxHeartbeats 1000000 in
theorem right_x_2_0 (op : Nat) (a n : Int) (text : ByteArray) (w : World) (hop : op < 256) (hk : isK op = true) (hn : numK op = false) (hA : aK op = 2) (hT : textK op = 0) :
    Calls Try.prog 26 #[.agg #[.int .u8 (op : Int), .int .i64 a, .int .i64 0, .string text], .int .i64 n] w (RetB (.bool (restR a 100 0 text)) w) := by
  have hw := word_none op
  rw [hk] at hw
  have EK := Lib.hid (show kindV op = .agg #[.string (wordK op), .int .u8 115, .bool false, .int .u8 0, .int .i64 (takesK op), .int .i64 (leaveK op), .bool false, .bool (endsK op)] from by unfold kindV aB tB manyK; rw [hA, hn, hT]; rfl)
  clear hk hn hA hT
  have LOW := Lib.hid (fun h => show false = restR a 100 0 text from (restR_low h).symm)
  have HIGH := Lib.hid (fun h => show false = restR a 100 0 text from (restR_high h).symm)
  have IN := Lib.hid (fun h h' => show text.toList.isEmpty = restR a 100 0 text from (restR_none h h').symm)
  go_enter Try.func26, Try.ntmps26
  go_wp2_with fail
  refine (kind_any op hop _).mono ?_
  rintro e w1 ⟨rfl, h1⟩
  rw [EK.out]
  have c1 := (bcell h1).1
  have c2 := (bcell h1).2
  have s1 : w.heap.size < w1.heap.size := szlt h1 (by simp)
  have HB := Lib.hid (fun o : Obj => bthen (bthen ((Below.refl _ w).alloc (Nat.le_refl _) _) h1) ((Below.refl _ w1).alloc (Nat.le_refl _) o))
  go_wp2_with fail
  all_goals first
    | (go_ret; exact ⟨ret_bool (LOW.out (by omega)), HB.out _⟩)
    | (go_ret; exact ⟨ret_bool (HIGH.out (by omega)), HB.out _⟩)
    | (go_ret; exact ⟨ret_bool (IN.out (by omega) (by omega)), HB.out _⟩)
    | (go_ret; exact ⟨ret_bool (HIGH.out (by simp_all; omega)), HB.out _⟩)
    | (go_ret; exact ⟨ret_bool (IN.out (by omega) (by simp_all)), HB.out _⟩)
set_option maxRecDepth 100000 in
set_option maxHeartbeats 1000000 in
theorem right_x_1_0 (op : Nat) (a n : Int) (text : ByteArray) (w : World) (hop : op < 256) (hk : isK op = true) (hn : numK op = false) (hA : aK op = 1) (hT : textK op = 0) :
    Calls Try.prog 26 #[.agg #[.int .u8 (op : Int), .int .i64 a, .int .i64 0, .string text], .int .i64 n] w (RetB (.bool (restR a n 0 text)) w) := by
  have hw := word_none op
  rw [hk] at hw
  have EK := Lib.hid (show kindV op = .agg #[.string (wordK op), .int .u8 116, .bool false, .int .u8 0, .int .i64 (takesK op), .int .i64 (leaveK op), .bool false, .bool (endsK op)] from by unfold kindV aB tB manyK; rw [hA, hn, hT]; rfl)
  clear hk hn hA hT
  have LOW := Lib.hid (fun h => show false = restR a n 0 text from (restR_low h).symm)
  have HIGH := Lib.hid (fun h => show false = restR a n 0 text from (restR_high h).symm)
  have IN := Lib.hid (fun h h' => show text.toList.isEmpty = restR a n 0 text from (restR_none h h').symm)
  go_enter Try.func26, Try.ntmps26
  go_wp2_with fail
  refine (kind_any op hop _).mono ?_
  rintro e w1 ⟨rfl, h1⟩
  rw [EK.out]
  have c1 := (bcell h1).1
  have c2 := (bcell h1).2
  have s1 : w.heap.size < w1.heap.size := szlt h1 (by simp)
  have HB := Lib.hid (fun o : Obj => bthen (bthen ((Below.refl _ w).alloc (Nat.le_refl _) _) h1) ((Below.refl _ w1).alloc (Nat.le_refl _) o))
  go_wp2_with fail
  all_goals first
    | (go_ret; exact ⟨ret_bool (LOW.out (by omega)), HB.out _⟩)
    | (go_ret; exact ⟨ret_bool (HIGH.out (by omega)), HB.out _⟩)
    | (go_ret; exact ⟨ret_bool (IN.out (by omega) (by omega)), HB.out _⟩)
    | (go_ret; exact ⟨ret_bool (HIGH.out (by simp_all; omega)), HB.out _⟩)
    | (go_ret; exact ⟨ret_bool (IN.out (by omega) (by simp_all)), HB.out _⟩)
set_option maxRecDepth 100000 in
set_option maxHeartbeats 1000000 in
theorem right_x_0_0 (op : Nat) (a n : Int) (text : ByteArray) (w : World) (hop : op < 256) (hk : isK op = true) (hn : numK op = false) (hA : aK op = 0) (hT : textK op = 0) :
    Calls Try.prog 26 #[.agg #[.int .u8 (op : Int), .int .i64 a, .int .i64 0, .string text], .int .i64 n] w (RetB (.bool (restR a 1 0 text)) w) := by
  have hw := word_none op
  rw [hk] at hw
  have EK := Lib.hid (show kindV op = .agg #[.string (wordK op), .int .u8 0, .bool false, .int .u8 0, .int .i64 (takesK op), .int .i64 (leaveK op), .bool false, .bool (endsK op)] from by unfold kindV aB tB manyK; rw [hA, hn, hT]; rfl)
  clear hk hn hA hT
  have LOW := Lib.hid (fun h => show false = restR a 1 0 text from (restR_low h).symm)
  have HIGH := Lib.hid (fun h => show false = restR a 1 0 text from (restR_high h).symm)
  have IN := Lib.hid (fun h h' => show text.toList.isEmpty = restR a 1 0 text from (restR_none h h').symm)
  go_enter Try.func26, Try.ntmps26
  go_wp2_with fail
  refine (kind_any op hop _).mono ?_
  rintro e w1 ⟨rfl, h1⟩
  rw [EK.out]
  have c1 := (bcell h1).1
  have c2 := (bcell h1).2
  have s1 : w.heap.size < w1.heap.size := szlt h1 (by simp)
  have HB := Lib.hid (fun o : Obj => bthen (bthen ((Below.refl _ w).alloc (Nat.le_refl _) _) h1) ((Below.refl _ w1).alloc (Nat.le_refl _) o))
  go_wp2_with fail
  all_goals first
    | (go_ret; exact ⟨ret_bool (LOW.out (by omega)), HB.out _⟩)
    | (go_ret; exact ⟨ret_bool (HIGH.out (by omega)), HB.out _⟩)
    | (go_ret; exact ⟨ret_bool (IN.out (by omega) (by omega)), HB.out _⟩)
    | (go_ret; exact ⟨ret_bool (HIGH.out (by simp_all; omega)), HB.out _⟩)
    | (go_ret; exact ⟨ret_bool (IN.out (by omega) (by simp_all)), HB.out _⟩)
end Go.Proofs.Ytjfdokoigkdciaa

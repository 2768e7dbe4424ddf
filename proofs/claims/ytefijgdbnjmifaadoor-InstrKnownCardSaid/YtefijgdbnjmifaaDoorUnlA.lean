/- A word's instruction, and what is right apart from its target, walked. A number of two digits to the base 16, walked. A quoted text read, walked. -/
import Derived.Test.YtefijgdbnjmifaaDoorBytP
import Derived.Test.YtefijgdbnjmifaaDoorLstB
import Derived.Test.YtefijgdbnjmifaaDoorRightD
import Derived.Test.YtefijgdbnjmifaaDoorShelf
import Derived.Test.YtefijgdbnjmifaaDoorBase
import Derived.Lib.ConvBytes
import Derived.Lib.AtoiAllMem
import Derived.Laws.Closers25b
import Derived.Laws.Strings3
import Derived.WalkKit
import Derived.BigCall
import Derived.BigGuard
import Derived.Laws.BytesArg
namespace Go.Proofs.YtefijgdbnjmifaaDoor
open Go.RowKit

theorem lneq {a b : ByteArray} (h : a ≠ b) : (a.toList == b.toList) = false := by
  rw [beq_eq_false_iff_ne]
  intro e
  rw [ByteArray.toList_eq, ByteArray.toList_eq] at e
  exact h (ByteArray.ext (Array.toList_inj.1 e))
theorem pos_ne {a : ByteArray} (h : a ≠ ⟨#[]⟩) : 0 < a.size := Nat.pos_of_ne_zero (fun e => h (ByteArray.ext (Array.eq_empty_of_size_eq_zero e)))
set_option maxRecDepth 100000 in
set_option maxHeartbeats 2000000 in
theorem opof_any (word : ByteArray) (w : World) :
    Calls Tryd.prog 54 #[.string word] w (RetB (.int .u8 (opS word : Int)) w) := by
  have hlt := opS_lt word
  go_enter Tryd.func54, Tryd.ntmps54
  go_wp2_with fail
  go_loopw [5] (fun i wr => ∃ k : Nat, i = .int .i64 k ∧ k ≤ 64 ∧ Hid (word.size ≠ 0 → ∀ j, j < k → wordK j ≠ word) ∧ Below w.heap.size w wr) (fun i _ => 64 - (intOf i).toNat)
  case atStart => exact ⟨0, rfl, Nat.zero_le _, Lib.hid (fun _ j hj => absurd hj (by omega)), Below.refl _ _⟩
  case round =>
    obtain ⟨k, rfl, hk, hj, hb⟩ := hrel
    have HB := Lib.hid hb
    clear hb
    by_cases hlt : k < 64
    · go_wp2_with fail
      refine (bkind_agg k (by omega) _).mono ?_
      rintro e w1 ⟨rfl, hb1⟩
      have HB1 := Lib.hid (bthen HB.out hb1)
      have HS1 := HB1.out.size
      clear hb1
      by_cases h0 : word.size = 0
      · have hw : word = ⟨#[]⟩ := ByteArray.ext (Array.eq_empty_of_size_eq_zero h0)
        subst hw
        by_cases hw : wordK k = ⟨#[]⟩
        · rw [hw]
          go_wp2_with fail
          go_roundw
          case rel => exact ⟨k + 1, by go_num, by omega, Lib.hid (fun h => absurd rfl h), HB1.out.alloc (by omega) _⟩
          case measure => simp [intOf]; omega
        · have b1 := emptyNo (pos_ne hw)
          have b2 := lneq hw
          go_wp2_with fail
          go_roundw
          case rel => exact ⟨k + 1, by go_num, by omega, Lib.hid (fun h => absurd rfl h), HB1.out.alloc (by omega) _⟩
          case measure => simp [intOf]; omega
      · have hne : word ≠ ⟨#[]⟩ := fun h => h0 (by rw [h]; rfl)
        by_cases hw : wordK k = word
        · have E := Lib.hid (opS_at h0 hlt hw (hj.out h0))
          have b1 := emptyNo (pos_ne hne)
          rw [hw]
          go_wp2_with fail
          go_ret
          exact ⟨by rw [E.out]; rfl, HB1.out.alloc (by omega) _⟩
        · have b1 := emptyNo (pos_ne hne)
          have b2 := lneq hw
          go_wp2_with fail
          go_roundw
          case rel => exact ⟨k + 1, by go_num, by omega, Lib.hid (fun _ j hjk => by
            by_cases e : j = k
            · rw [e]; exact hw
            · exact hj.out h0 j (by omega)), HB1.out.alloc (by omega) _⟩
          case measure => simp [intOf]; omega
    · have E := Lib.hid (show opS word = 0 by
        by_cases h0 : word.size = 0
        · exact opS_nil h0
        · exact opS_no (fun j hj2 => hj.out h0 j (by omega)))
      go_wp2_with fail
      go_ret
      exact ⟨by rw [E.out]; rfl, HB.out⟩
theorem tA_is {op : Nat} (h : aK op = 1) : (aB op == 116) = true := by unfold aB; rw [if_pos h]; rfl
theorem tA_no {op : Nat} (h : ¬ aK op = 1) : (aB op == 116) = false := by unfold aB; rw [if_neg h]; (repeat' split) <;> rfl
set_option maxRecDepth 100000 in
set_option maxHeartbeats 2000000 in
theorem apart_any (x : InsV) (hop : x.op < 256) (hs : x.text.size ≤ 9223372036854775807) (w : World) :
    Calls Tryd.prog 36 #[x.val] w (RetB (.bool (apartS x)) w) := by
  obtain ⟨op, a, int, text⟩ := x
  simp only at hop hs
  simp only [InsV.val]
  go_enter Tryd.func36, Tryd.ntmps36
  go_wp2_with fail
  refine (bkind_agg op hop _).mono ?_
  rintro e w1 ⟨rfl, hb1⟩
  have HB1 := Lib.hid hb1
  have HS1 := hb1.size
  simp only [World.size_alloc] at HS1
  have c1 := (bcell hb1).1
  have c2 := (bcell hb1).2
  clear hb1
  have hfl : ∀ w, (Instr.field 46 (.agg #[.string (wordK op), .int .u8 (aB op), .bool (numK op), .int .u8 (tB op), .int .i64 (takesK op), .int .i64 (leaveK op), .bool (manyK op), .bool (endsK op)]) 1).run Tryd.prog w = .ok (.int .u8 (aB op)) w := fun _ => by kernel_rfl
  by_cases hA : aK op = 1
  · have tA := tA_is hA
    have E := Lib.hid (show apartS ⟨op, a, int, text⟩ = rightI (InsV.ins ⟨op, 0, int, text⟩) 1 by unfold apartS; rw [if_pos hA])
    go_wp2_with fail
    refine (right_any ⟨op, 0, int, text⟩ 1 hop hs _).mono ?_
    rintro e w2 ⟨rfl, hb2⟩
    go_wp2_with fail
    go_ret
    exact ⟨by rw [E.out]; rfl, bthen ((bthen ((Below.refl _ w).alloc (Nat.le_refl _) _) HB1.out).setCell (p := ⟨w.heap.size, 1, none⟩) (Nat.le_refl _) _) hb2⟩
  · have tA := tA_no hA
    have E := Lib.hid (show apartS ⟨op, a, int, text⟩ = rightI (InsV.ins ⟨op, a, int, text⟩) 1 by unfold apartS; rw [if_neg hA])
    go_wp2_with fail
    refine (right_any ⟨op, a, int, text⟩ 1 hop hs _).mono ?_
    rintro e w2 ⟨rfl, hb2⟩
    go_wp2_with fail
    go_ret
    exact ⟨by rw [E.out]; rfl, bthen (bthen ((Below.refl _ w).alloc (Nat.le_refl _) _) HB1.out) hb2⟩
end Go.Proofs.YtefijgdbnjmifaaDoor
namespace Go.Proofs.YtefijgdbnjmifaaDoor
open Go.RowKit

def lowI (c : UInt8) : Int := bits .or .u8 (c.toNat : Int) 32
theorem low_at : ∀ n : Fin 256, bits .or .u8 ((n.val : Nat) : Int) 32 = ((n.val ||| 32 : Nat) : Int) := by decide +kernel
theorem low_is (c : UInt8) : lowI c = ((c.toNat ||| 32 : Nat) : Int) := low_at ⟨c.toNat, c.toNat_lt⟩
theorem low_95 {c : UInt8} (h : c.toNat = 95) : lowI c = 127 := by rw [low_is, h]; rfl
theorem low_lo (c : UInt8) : 0 ≤ lowI c := bits_lo_u8 _ _ _
theorem low_hi (c : UInt8) : lowI c ≤ 255 := bits_hi_u8 _ _ _
theorem low_any (c : UInt8) (w : World) : Calls Tryd.prog 97 #[.int .u8 (c.toNat : Int)] w fun e w' => e = .returned (.int .u8 (lowI c)) ∧ w' = w := Tryd.internal_strconv_lower _ w
/-- What the two digits say. -/
def hexR (a b : UInt8) : Value :=
  if hexN a < 16 ∧ hexN b < 16 then .tuple #[.int .u64 ((16 * hexN a + hexN b : Nat) : Int), .nilIface] else .tuple #[.int .u64 0, .iface 124 (.int .i64 2)]
theorem hexR_no {a b c : UInt8} (h : ¬ hexN c < 16) (hc : c = a ∨ c = b) : hexR a b = .tuple #[.int .u64 0, .iface 124 (.int .i64 2)] := by
  unfold hexR
  rw [if_neg]
  rintro ⟨h1, h2⟩
  rcases hc with rfl | rfl
  · exact h h1
  · exact h h2
theorem hexR_is {a b : UInt8} (h1 : hexN a < 16) (h2 : hexN b < 16) : hexR a b = .tuple #[.int .u64 ((16 * hexN a + hexN b : Nat) : Int), .nilIface] := if_pos ⟨h1, h2⟩
/-- How far the number is read. -/
def HexAt (a b : UInt8) (k : Nat) (n : Int) : Prop := (k = 0 ∧ n = 0) ∨ (k = 1 ∧ hexN a < 16 ∧ n = hexN a) ∨ (k = 2 ∧ hexN a < 16 ∧ hexN b < 16 ∧ n = ((16 * hexN a + hexN b : Nat) : Int))
theorem HexAt.next {a b : UInt8} {k : Nat} {n : Int} (h : HexAt a b k n) (hk : k < 2) : ∃ c : UInt8, ([a, b].getD k 0) = c ∧ 0 ≤ n ∧ n ≤ 15 ∧ (¬ hexN c < 16 → hexR a b = .tuple #[.int .u64 0, .iface 124 (.int .i64 2)]) ∧ (hexN c < 16 → HexAt a b (k + 1) (n * 16 + hexN c)) := by
  rcases h with ⟨rfl, rfl⟩ | ⟨rfl, h1, rfl⟩ | ⟨rfl, _⟩
  · exact ⟨a, rfl, by omega, by omega, fun h => hexR_no h (.inl rfl), fun h => .inr (.inl ⟨rfl, h, by omega⟩)⟩
  · exact ⟨b, rfl, by omega, by omega, fun h => hexR_no h (.inr rfl), fun h => .inr (.inr ⟨rfl, h1, h, by omega⟩)⟩
  · omega
theorem hexN_dig {c : UInt8} (h : 48 ≤ c.toNat ∧ c.toNat ≤ 57) : hexN c = c.toNat - 48 := if_pos h
theorem hexN_let {c : UInt8} (h : ¬ (48 ≤ c.toNat ∧ c.toNat ≤ 57)) (h2 : 97 ≤ (c.toNat ||| 32) ∧ (c.toNat ||| 32) ≤ 102) : hexN c = (c.toNat ||| 32) - 87 := by unfold hexN; rw [if_neg h, if_pos h2]
theorem hexN_bad {c : UInt8} (h : ¬ (48 ≤ c.toNat ∧ c.toNat ≤ 57)) (h2 : ¬ (97 ≤ (c.toNat ||| 32) ∧ (c.toNat ||| 32) ≤ 102)) : ¬ hexN c < 16 := by unfold hexN; rw [if_neg h, if_neg h2]; omega
set_option maxRecDepth 100000 in
set_option maxHeartbeats 2000000 in
theorem puint_any (t : ByteArray) (a b : UInt8) (ht : t.data.toList = [a, b]) (w : World) :
    Calls Tryd.prog 82 #[.string t, .int .i64 16, .int .i64 8] w (RetB (hexR a b) w) := by
  have hs : t.size = 2 := by have := congrArg List.length ht; simpa using this
  have hemp : t.toList.isEmpty = false := emptyNo (by omega)
  have hcv := Lib.run_convert_string_bytes (P := Tryd.prog) w 9 25 5 t (u := .string) Tryd.underlying9 Tryd.underlying25 Tryd.underlying5
  have hB : ∀ j, j < t.size → (Lib.bytesWorld w 5 t).cell? ⟨w.heap.size, j, none⟩ = some (.int .u8 (t.data.toList.getD j 0).toNat) := fun j hj => Lib.bytesWorld_cell w 5 t j hj
  have HBE := Lib.hid (show Below w.heap.size w (Lib.bytesWorld w 5 t) from Lib.bytesWorld_below _ _ _)
  obtain ⟨W1, hW1⟩ : ∃ W1, W1 = Lib.bytesWorld w 5 t := ⟨_, rfl⟩
  rw [← hW1] at hcv hB HBE
  clear hW1
  rw [ht] at hB
  clear ht
  have hmv : IntKind.u64.wrap (IntKind.u64.wrap 256 - 1) = 255 := by
    rw [IntKind.wrap_u64, IntKind.wrap_u64]
    decide
  go_enter Tryd.func82, Tryd.ntmps82
  go_wp2_with fail
  go_loopw [12, 13, 101] (fun vu vn vi wr => ∃ (k : Nat) (n : Int), vu = .bool false ∧ vn = .int .u64 n ∧ vi = .int .i64 k ∧ k ≤ t.size ∧ Hid (HexAt a b k n) ∧ wr = W1) (fun _ _ vi _ => t.size - (intOf vi).toNat)
  case atStart => exact ⟨0, 0, rfl, rfl, rfl, by omega, Lib.hid (.inl ⟨rfl, rfl⟩), rfl⟩
  case round =>
    obtain ⟨k, n, rfl, rfl, rfl, hk, hh, rfl⟩ := hrel
    by_cases hkn : k < t.size
    · have hc := hB k hkn
      obtain ⟨c, hcc, n0, n1, hno, hyes⟩ := hh.out.next (by omega)
      have hc256 : c.toNat < 256 := c.toNat_lt
      have NO := Lib.hid hno
      have YES := Lib.hid hyes
      rw [hcc] at hc
      clear hB hno hyes hcc
      by_cases hdig : 48 ≤ c.toNat ∧ c.toNat ≤ 57
      · have E := hexN_dig hdig
        have YE := Lib.hid (YES.out (by omega))
        rw [E] at YE
        obtain ⟨hd0, hd1⟩ := hdig
        have b0 : ((c.toNat : Int) == 95) = false := beq_eq_false_iff_ne.2 (by omega)
        have b1 : decide ((48 : Int) ≤ (c.toNat : Int)) = true := decide_eq_true (by omega)
        have b2 : decide ((c.toNat : Int) ≤ 57) = true := decide_eq_true (by omega)
        have e1 : ((c.toNat - 48 : Nat) : Int) = (c.toNat : Int) - 48 := by omega
        rw [e1] at YE
        obtain ⟨d, hd⟩ : ∃ d, d = (c.toNat : Int) - 48 := ⟨_, rfl⟩
        rw [← hd] at YE
        have q0 : 0 ≤ d := by omega
        have q1 : d ≤ 9 := by omega
        clear E NO YES e1 hd0 hd1
        go_wp2_with fail
        go_roundw
        case rel => exact ⟨k + 1, _, rfl, rfl, by go_num, by omega, Lib.hid (by have := YE.out; first | exact this | (rw [hd] at this; exact this)), trivial⟩
        case measure => simp [intOf]; omega
      · have L0 := low_lo c
        have L1 := low_hi c
        have LI := low_is c
        have L95 := low_95 (c := c)
        have LOW := Lib.hid (low_any c)
        generalize lowI c = l at *
        by_cases hlet : 97 ≤ (c.toNat ||| 32) ∧ (c.toNat ||| 32) ≤ 102
        · have E := hexN_let hdig hlet
          have YE := Lib.hid (YES.out (by omega))
          rw [E] at YE
          have e1 : (((c.toNat ||| 32) - 87 : Nat) : Int) = l - 97 + 10 := by omega
          rw [e1] at YE
          have b3 : decide ((97 : Int) ≤ l) = true := decide_eq_true (by omega)
          have b4 : decide (l ≤ 122) = true := decide_eq_true (by omega)
          have q0 : (97 : Int) ≤ l := by omega
          have q1 : l ≤ 102 := by omega
          have b0 : ((c.toNat : Int) == 95) = false := beq_eq_false_iff_ne.2 (fun h => by have := L95 (by omega); omega)
          clear NO YES E e1 hlet LI L95 L0 L1
          by_cases h48 : c.toNat < 48
          · have b1 : decide ((48 : Int) ≤ (c.toNat : Int)) = false := decide_eq_false (by omega)
            clear h48 hdig
            go_wp2_with (go_at_call 97; refine (LOW.out _).mono ?_; rintro e w' ⟨rfl, rfl⟩)
            go_roundw
            case rel => exact ⟨k + 1, _, rfl, rfl, by go_num, by omega, Lib.hid YE.out, trivial⟩
            case measure => simp [intOf]; omega
          · have b1 : decide ((48 : Int) ≤ (c.toNat : Int)) = true := decide_eq_true (by omega)
            have b2 : decide ((c.toNat : Int) ≤ 57) = false := decide_eq_false (by omega)
            clear h48 hdig
            go_wp2_with (go_at_call 97; refine (LOW.out _).mono ?_; rintro e w' ⟨rfl, rfl⟩)
            go_roundw
            case rel => exact ⟨k + 1, _, rfl, rfl, by go_num, by omega, Lib.hid YE.out, trivial⟩
            case measure => simp [intOf]; omega
        · have E := Lib.hid (NO.out (hexN_bad hdig hlet))
          have b0 : ((c.toNat : Int) == 95) = decide (c.toNat = 95) := by by_cases h : c.toNat = 95 <;> simp [h]; omega
          have bd : ∃ q : Bool, ((c.toNat : Int) == 95) = q := ⟨_, rfl⟩
          clear b0
          obtain ⟨q, b0⟩ := bd
          have HL : l < 97 ∨ 122 < l ∨ (103 ≤ l ∧ l ≤ 122) := by omega
          have HD : c.toNat < 48 ∨ 57 < c.toNat := by omega
          clear NO YES hlet LI L95 hdig
          rcases HD with hd | hd
          · have b1 : decide ((48 : Int) ≤ (c.toNat : Int)) = false := decide_eq_false (by omega)
            rcases HL with h | h | ⟨h, h'⟩
            · have b3 : decide ((97 : Int) ≤ l) = false := decide_eq_false (by omega)
              go_wp2_with (go_at_call 97; refine (LOW.out _).mono ?_; rintro e w' ⟨rfl, rfl⟩)
              all_goals
                go_ret2
                exact ⟨by rw [E.out]; rfl, HBE.out⟩
            · have b3 : decide ((97 : Int) ≤ l) = true := decide_eq_true (by omega)
              have b4 : decide (l ≤ 122) = false := decide_eq_false (by omega)
              go_wp2_with (go_at_call 97; refine (LOW.out _).mono ?_; rintro e w' ⟨rfl, rfl⟩)
              all_goals
                go_ret2
                exact ⟨by rw [E.out]; rfl, HBE.out⟩
            · have b3 : decide ((97 : Int) ≤ l) = true := decide_eq_true (by omega)
              have b4 : decide (l ≤ 122) = true := decide_eq_true (by omega)
              go_wp2_with (go_at_call 97; refine (LOW.out _).mono ?_; rintro e w' ⟨rfl, rfl⟩)
              all_goals
                go_ret2
                exact ⟨by rw [E.out]; rfl, HBE.out⟩
          · have b1 : decide ((48 : Int) ≤ (c.toNat : Int)) = true := decide_eq_true (by omega)
            have b2 : decide ((c.toNat : Int) ≤ 57) = false := decide_eq_false (by omega)
            rcases HL with h | h | ⟨h, h'⟩
            · have b3 : decide ((97 : Int) ≤ l) = false := decide_eq_false (by omega)
              go_wp2_with (go_at_call 97; refine (LOW.out _).mono ?_; rintro e w' ⟨rfl, rfl⟩)
              all_goals
                go_ret2
                exact ⟨by rw [E.out]; rfl, HBE.out⟩
            · have b3 : decide ((97 : Int) ≤ l) = true := decide_eq_true (by omega)
              have b4 : decide (l ≤ 122) = false := decide_eq_false (by omega)
              go_wp2_with (go_at_call 97; refine (LOW.out _).mono ?_; rintro e w' ⟨rfl, rfl⟩)
              all_goals
                go_ret2
                exact ⟨by rw [E.out]; rfl, HBE.out⟩
            · have b3 : decide ((97 : Int) ≤ l) = true := decide_eq_true (by omega)
              have b4 : decide (l ≤ 122) = true := decide_eq_true (by omega)
              go_wp2_with (go_at_call 97; refine (LOW.out _).mono ?_; rintro e w' ⟨rfl, rfl⟩)
              all_goals
                go_ret2
                exact ⟨by rw [E.out]; rfl, HBE.out⟩
    · obtain ⟨rfl, _⟩ | ⟨rfl, _⟩ | ⟨rfl, h1, h2, hn⟩ := hh.out
      · omega
      · omega
      have E := Lib.hid (hexR_is h1 h2)
      have HN := Lib.hid hn
      clear hh hn h1 h2
      go_wp2_with fail
      go_ret2
      exact ⟨by rw [E.out, ← HN.out]; rfl, HBE.out⟩
/-- The library's error of what is none lies in its variable. -/
def SynVar (w : World) : Prop := ∃ ev, w.cell? ⟨2, 0, none⟩ = some ev ∧ (ev = .nilIface ∨ ∃ te pe, ev = .iface te pe) ∧ 2 < w.heap.size
theorem SynVar.below {w w' : World} (h : SynVar w) (hb : Below w.heap.size w w') : SynVar w' := by
  obtain ⟨ev, h1, h2, h3⟩ := h
  exact ⟨ev, (hb.cell (p := ⟨2, 0, none⟩) h3).trans h1, h2, Nat.lt_of_lt_of_le h3 hb.size⟩
/-- strconv.ParseUint of two bytes at 16, 8. -/
def HexPost (a b : UInt8) (w : World) (e : Ending) (w' : World) : Prop :=
  (∃ er : Value, e = .returned (.tuple #[.int .u64 (if hexN a < 16 ∧ hexN b < 16 then ((16 * hexN a + hexN b : Nat) : Int) else 0), er]) ∧ (hexN a < 16 ∧ hexN b < 16 → er = .nilIface) ∧ (¬ (hexN a < 16 ∧ hexN b < 16) → ∃ N, er = .iface 125 (.pointer (some ⟨N, 0, none⟩)))) ∧ Below w.heap.size w w'
set_option maxRecDepth 100000 in
set_option maxHeartbeats 2000000 in
theorem parseuint_any (t : ByteArray) (a b : UInt8) (ht : t.data.toList = [a, b]) (w : World) (hv : SynVar w) :
    Calls Tryd.prog 70 #[.string t, .int .i64 16, .int .i64 8] w (HexPost a b w) := by
  have hs : t.size = 2 := by have := congrArg List.length ht; simpa using this
  have HV := Lib.hid hv
  clear hv
  have P := Lib.hid (puint_any t a b ht)
  go_enter Tryd.func70, Tryd.ntmps70
  go_wp2_with fail
  refine (P.out _).mono ?_
  rintro e w1 ⟨rfl, hb1⟩
  have HB1 := Lib.hid hb1
  clear hb1
  by_cases h : hexN a < 16 ∧ hexN b < 16
  · have E := hexR_is h.1 h.2
    rw [E]
    go_wp2_with fail
    go_ret2
    exact ⟨⟨_, by rw [if_pos h]; rfl, fun _ => rfl, fun hn => absurd h hn⟩, HB1.out⟩
  · have E : hexR a b = .tuple #[.int .u64 0, .iface 124 (.int .i64 2)] := if_neg h
    rw [E]
    go_wp2_with fail
    obtain ⟨ev, v1, v2, _⟩ := HV.out.below HB1.out
    refine (Tryd.strconv_toError_syntax _ _ _ _ ev _ (by omega) v1 v2).mono ?_
    rintro e w2 ⟨N, rfl, hN, _, hb2⟩
    go_wp2_with fail
    go_ret2
    exact ⟨⟨_, by rw [if_neg h]; rfl, fun hn => absurd hn h, fun _ => ⟨N, rfl⟩⟩, bthen HB1.out hb2⟩
end Go.Proofs.YtefijgdbnjmifaaDoor
namespace Go.Proofs.YtefijgdbnjmifaaDoor
open Go.RowKit

theorem get_at (s : ByteArray) (k : Nat) (h : k < s.size) : s.data.toList.getD k 0 = s[k] := by
  have h' : k < s.data.toList.length := by simpa using h
  rw [List.getD_eq_getElem?_getD, List.getElem?_eq_getElem h']
  rfl
theorem two_at (s : ByteArray) (k : Nat) (h : k + 2 ≤ s.size) : (s.extract k (k + 2)).data.toList = [s.data.toList.getD k 0, s.data.toList.getD (k + 1) 0] := by
  rw [Lib.extract_data]
  have h0 : k < s.data.toList.length := by simp; omega
  have h1 : k + 1 < s.data.toList.length := by simp; omega
  rw [List.drop_eq_getElem_cons h0, List.drop_eq_getElem_cons h1, show k + 2 - k = 2 by omega]
  simp only [List.take_succ_cons, List.take_zero, List.getD_eq_getElem?_getD, List.getElem?_eq_getElem h0, List.getElem?_eq_getElem h1, Option.getD_some]
theorem escL_no1 {l : List UInt8} (h : l.getD 0 0 ≠ 92) : escL l = false := by unfold escL; rw [decide_eq_false h]; rfl
theorem escL_no2 {l : List UInt8} (h : ¬ 4 ≤ l.length) : escL l = false := by unfold escL; rw [decide_eq_false h, Bool.and_false]; rfl
theorem escL_no3 {l : List UInt8} (h : ¬ (hexN (l.getD 2 0) < 16 ∧ hexN (l.getD 3 0) < 16)) : escL l = false := by
  unfold escL
  rw [Bool.and_assoc (_ && _)]
  rw [show (decide (hexN (l.getD 2 0) < 16) && decide (hexN (l.getD 3 0) < 16)) = false by rw [Bool.and_eq_false_iff, decide_eq_false_iff_not, decide_eq_false_iff_not]; omega, Bool.and_false]
theorem escL_is {l : List UInt8} (h : l.getD 0 0 = 92) (h4 : 4 ≤ l.length) (h2 : hexN (l.getD 2 0) < 16 ∧ hexN (l.getD 3 0) < 16) : escL l = true := by
  unfold escL; rw [decide_eq_true h, decide_eq_true h4, decide_eq_true h2.1, decide_eq_true h2.2]; rfl
theorem dropGet (l : List UInt8) (k j : Nat) : (l.drop k).getD j 0 = l.getD (k + j) 0 := by
  rw [List.getD_eq_getElem?_getD, List.getD_eq_getElem?_getD, List.getElem?_drop]
theorem own_str {w : World} {base : Nat} {v : Value} {bs : List UInt8} (h : OwnBy w base v bs) : (convert 25 9 v).run Tryd.prog w = .ok (.string (sp bs)) w := by
  by_cases hn : 0 < bs.length
  · obtain ⟨g, cap, rfl, hs⟩ := h.src hn
    exact own_conv hs
  · have h0 : bs = [] := by cases bs with
      | nil => rfl
      | cons _ _ => exact absurd (Nat.succ_pos _) hn
    subst h0
    obtain ⟨A, c, rfl⟩ := own_slice h
    show (convert 25 9 (.slice A 0 c)).run Tryd.prog w = _
    rw [run_convert_bytes_string w 25 9 5 A 0 c Tryd.underlying25 Tryd.underlying5 Tryd.underlying9]
    cases A <;> simp [Conv.bytesToString, loadCells, go_sem] <;> rfl
/-- How far the text is read. -/
def UnqAt (L cs : List UInt8) (k : Nat) : Prop := cs ++ unqL (L.drop k) = unqS L ∧ cs.length ≤ k
theorem UnqAt.one {L cs : List UInt8} {k : Nat} (h : UnqAt L cs k) (hk : k + 1 < L.length) (he : escL (L.drop k) = false) : UnqAt L (cs ++ [L.getD k 0]) (k + 1) := by
  obtain ⟨h1, h2⟩ := h
  rw [unqL_one (by simp only [List.length_drop]; omega) he, List.drop_drop, dropGet] at h1
  refine ⟨?_, by simp only [List.length_append, List.length_cons, List.length_nil]; omega⟩
  rw [List.append_assoc]; exact h1
theorem UnqAt.esc {L cs : List UInt8} {k : Nat} (h : UnqAt L cs k) (hk : k + 1 < L.length) (he : escL (L.drop k) = true) : UnqAt L (cs ++ [escV (L.drop k)]) (k + 4) := by
  obtain ⟨h1, h2⟩ := h
  rw [unqL_esc (by simp only [List.length_drop]; omega) he, List.drop_drop] at h1
  refine ⟨?_, by simp only [List.length_append, List.length_cons, List.length_nil]; omega⟩
  rw [List.append_assoc]; exact h1
theorem UnqAt.fin {L cs : List UInt8} {k : Nat} (h : UnqAt L cs k) (hk : ¬ k + 1 < L.length) : cs = unqS L := by
  obtain ⟨h1, h2⟩ := h
  rw [unqL_end (by simp only [List.length_drop]; omega), List.append_nil] at h1
  exact h1
set_option maxRecDepth 100000 in
set_option maxHeartbeats 2000000 in
theorem unquoted_any (s : ByteArray) (hs : s.size ≤ 1048576) (w : World) (hv : SynVar w) :
    Calls Tryd.prog 56 #[.string s] w (RetB (.string (sp (unqS s.data.toList))) w) := by
  obtain ⟨i0, hi, hz0, hz1, hz2⟩ := info_parts infoB
  have HI0 := Lib.hid hi
  have HZ0 := Lib.hid hz0
  have HZ1 := Lib.hid hz1
  have HZ2 := Lib.hid hz2
  have HV := Lib.hid hv
  clear hi hz0 hz1 hz2 hv
  go_enter Tryd.func56, Tryd.ntmps56
  go_wp2_with fail
  go_loopw [3, 4] (fun v i wr => ∃ (k : Nat) (cs : List UInt8), i = .int .i64 k ∧ 1 ≤ k ∧ k ≤ s.size + 4 ∧ Hid (UnqAt s.data.toList cs k) ∧ OwnBy wr w.heap.size v cs ∧ Below w.heap.size w wr) (fun _ i _ => s.size + 5 - (intOf i).toNat)
  case atStart => exact ⟨1, [], rfl, by omega, by omega, Lib.hid ⟨rfl, by simp⟩, OwnBy.nil _ _, Below.refl _ _⟩
  case round =>
    obtain ⟨k, cs, rfl, hk1, hk, hh, ho, hb⟩ := hrel
    have HO := Lib.hid ho
    have HB := Lib.hid hb
    clear ho hb
    have hcl := hh.out.2
    by_cases hlt : k + 1 < s.size
    · have HC := Lib.hid (get_at s k (by omega))
      have hcc : s[k].toNat < 256 := s[k].toNat_lt
      have hsz := HB.out.size
      by_cases h92 : s[k].toNat = 92
      · have b0 : ((s[k].toNat : Int) == 92) = true := beq_iff_eq.2 (by omega)
        by_cases h3 : k + 3 < s.size
        · have b1 : decide ((k : Int) + 3 < (s.size : Int)) = true := decide_eq_true (by omega)
          have T2 := two_at s (k + 2) (by omega)
          have G2 : (s.data.toList.drop k).getD 2 0 = s.data.toList.getD (k + 2) 0 := dropGet _ _ _
          have G3 : (s.data.toList.drop k).getD 3 0 = s.data.toList.getD (k + 2 + 1) 0 := dropGet _ _ _
          have G0 : (s.data.toList.drop k).getD 0 0 = 92 := by rw [dropGet, Nat.add_zero, HC.out]; exact UInt8.toNat_inj.1 h92
          have GL : 4 ≤ (s.data.toList.drop k).length := by rw [List.length_drop, dataLen]; omega
          generalize s.data.toList.getD (k + 2) 0 = ca at *
          generalize s.data.toList.getD (k + 2 + 1) 0 = cb at *
          have PU := Lib.hid (parseuint_any (s.extract (k + 2) (k + 4)) ca cb T2)
          have H92 := Lib.hid (show (.int .u8 92 : Value) = byteV s[k] by unfold byteV; rw [h92]; rfl)
          go_wp2_with fail
          refine (PU.out _ (HV.out.below HB.out)).mono ?_
          rintro e w1 ⟨⟨er, rfl, hyes, hno⟩, hb1⟩
          have HB1 := Lib.hid (bthen HB.out hb1)
          have HBR := Lib.hid hb1
          have hs1 := hb1.size
          clear hb1
          by_cases hx : hexN ca < 16 ∧ hexN cb < 16
          · have EY := Lib.hid (escL_is G0 GL (by rw [G2, G3]; exact hx))
            have hv : (((16 * hexN ca + hexN cb : Nat) : Int)) = ((escV (s.data.toList.drop k)).toNat : Int) := by
              unfold escV; rw [G2, G3, UInt8.toNat_ofNat']; omega
            have eb := (escV (s.data.toList.drop k)).toNat_lt
            obtain rfl := hyes hx
            rw [if_pos hx, hv]
            clear hyes hno hv
            go_wp2_with (at_builtin; refine wpList_append_own _ rfl _ _ 25 rfl w.heap.size 5 i0 (.int .u8 0) 1 1 Tryd.underlying25 HI0.out HZ0.out HZ1.out HZ2.out rfl (by decide) _ cs.length (cs.map byteV) rfl ?own ⟨w1.heap.size, 0, none⟩ 1 1 [.int .u8 ((escV (s.data.toList.drop k)).toNat : Int)] rfl rfl ?c1 ?c2 ?c3 ?c4 ?c5 ?_)
            case own => exact own_below HO.out (by exact bthen HBR.out (by go_grown))
            case c1 => exact cell_byte_new _ _ _ _ rfl
            case c2 => intro u hu; simp at hu; subst hu; rfl
            case c3 => unfold maxLen; omega
            case c4 => omega
            case c5 => simp; omega
            intro v' w3 hown' hgrow _
            have HOW := Lib.hid (OwnBy.snoc (b := escV (s.data.toList.drop k)) rfl hown')
            have HBW := Lib.hid (show Below w.heap.size w w3 from Below.grown (HB1.out.trans (by go_grown)) hgrow (by simp; omega) (fun q e => own_base HO.out e))
            clear hown' hgrow
            go_wp2_with fail
            go_roundw
            case rel => exact ⟨k + 4, cs ++ [escV (s.data.toList.drop k)], by go_num, by omega, by omega, Lib.hid (hh.out.esc (by rw [dataLen]; omega) EY.out), HOW.out, HBW.out⟩
            case measure => simp [intOf]; omega
          · obtain ⟨N, rfl⟩ := hno hx
            have EN := Lib.hid (escL_no3 (l := s.data.toList.drop k) (by rw [G2, G3]; exact hx))
            rw [if_neg hx]
            clear hyes hno
            go_wp2_with (at_builtin; refine wpList_append_own _ rfl _ _ 25 rfl w.heap.size 5 i0 (.int .u8 0) 1 1 Tryd.underlying25 HI0.out HZ0.out HZ1.out HZ2.out rfl (by decide) _ cs.length (cs.map byteV) rfl ?own ⟨w1.heap.size, 0, none⟩ 1 1 [.int .u8 92] rfl rfl ?c1 ?c2 ?c3 ?c4 ?c5 ?_)
            case own => exact own_below HO.out (by exact bthen HBR.out (by go_grown))
            case c1 => exact cell_byte_new _ _ _ _ rfl
            case c2 => intro u hu; simp at hu; subst hu; rfl
            case c3 => unfold maxLen; omega
            case c4 => omega
            case c5 => simp; omega
            intro v' w3 hown' hgrow _
            have HOW := Lib.hid (OwnBy.snoc (b := s[k]) H92.out hown')
            have HBW := Lib.hid (show Below w.heap.size w w3 from Below.grown (HB1.out.trans (by go_grown)) hgrow (by simp; omega) (fun q e => own_base HO.out e))
            clear hown' hgrow
            go_wp2_with fail
            go_roundw
            case rel => exact ⟨k + 1, cs ++ [s[k]], by go_num, by omega, by omega, Lib.hid (HC.out ▸ hh.out.one (by rw [dataLen]; omega) EN.out), HOW.out, HBW.out⟩
            case measure => simp [intOf]; omega
        · have b1 : decide ((k : Int) + 3 < (s.size : Int)) = false := decide_eq_false (by omega)
          have H92 := Lib.hid (show (.int .u8 92 : Value) = byteV s[k] by unfold byteV; rw [h92]; rfl)
          have EN := Lib.hid (escL_no2 (l := s.data.toList.drop k) (by rw [List.length_drop, dataLen]; omega))
          go_wp2_with (at_builtin; refine wpList_append_own _ rfl _ _ 25 rfl w.heap.size 5 i0 (.int .u8 0) 1 1 Tryd.underlying25 HI0.out HZ0.out HZ1.out HZ2.out rfl (by decide) _ cs.length (cs.map byteV) rfl ?own ⟨wr.heap.size, 0, none⟩ 1 1 [.int .u8 92] rfl rfl ?c1 ?c2 ?c3 ?c4 ?c5 ?_)
          case own => exact own_below HO.out (by go_grown)
          case c1 => exact cell_byte_new _ _ _ _ rfl
          case c2 => intro u hu; simp at hu; subst hu; rfl
          case c3 => unfold maxLen; omega
          case c4 => omega
          case c5 => simp; omega
          intro v' w3 hown' hgrow _
          have HOW := Lib.hid (OwnBy.snoc (b := s[k]) H92.out hown')
          have HBW := Lib.hid (show Below w.heap.size w w3 from Below.grown (HB.out.trans (by go_grown)) hgrow (by simp; omega) (fun q e => own_base HO.out e))
          clear hown' hgrow
          go_wp2_with fail
          go_roundw
          case rel => exact ⟨k + 1, cs ++ [s[k]], by go_num, by omega, by omega, Lib.hid (HC.out ▸ hh.out.one (by rw [dataLen]; omega) EN.out), HOW.out, HBW.out⟩
          case measure => simp [intOf]; omega
      · have b0 : ((s[k].toNat : Int) == 92) = false := beq_eq_false_iff_ne.2 (by omega)
        have EN := Lib.hid (escL_no1 (l := s.data.toList.drop k) (by rw [dropGet, Nat.add_zero, HC.out]; intro e; rw [e] at h92; exact h92 rfl))
        go_wp2_with (at_builtin; refine wpList_append_own _ rfl _ _ 25 rfl w.heap.size 5 i0 (.int .u8 0) 1 1 Tryd.underlying25 HI0.out HZ0.out HZ1.out HZ2.out rfl (by decide) _ cs.length (cs.map byteV) rfl ?own ⟨wr.heap.size, 0, none⟩ 1 1 [.int .u8 (s[k].toNat : Int)] rfl rfl ?c1 ?c2 ?c3 ?c4 ?c5 ?_)
        case own => exact own_below HO.out (by go_grown)
        case c1 => exact cell_byte_new _ _ _ _ rfl
        case c2 => intro u hu; simp at hu; subst hu; rfl
        case c3 => unfold maxLen; omega
        case c4 => omega
        case c5 => simp; omega
        intro v' w3 hown' hgrow _
        have HOW := Lib.hid (OwnBy.snoc (b := s[k]) rfl hown')
        have HBW := Lib.hid (show Below w.heap.size w w3 from Below.grown (HB.out.trans (by go_grown)) hgrow (by simp; omega) (fun q e => own_base HO.out e))
        clear hown' hgrow
        go_wp2_with fail
        go_roundw
        case rel => exact ⟨k + 1, cs ++ [s[k]], by go_num, by omega, by omega, Lib.hid (HC.out ▸ hh.out.one (by rw [dataLen]; omega) EN.out), HOW.out, HBW.out⟩
        case measure => simp [intOf]; omega
    · have E := Lib.hid (hh.out.fin (by rw [dataLen]; omega))
      have CV := own_str HO.out
      go_wp2_with fail
      go_ret
      exact ⟨by rw [E.out]; rfl, HB.out⟩
end Go.Proofs.YtefijgdbnjmifaaDoor

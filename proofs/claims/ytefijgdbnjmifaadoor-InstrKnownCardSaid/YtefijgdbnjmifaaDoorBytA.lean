/- Numbers and texts put behind bytes, walked. Whole numbers and texts as bytes, the program's and the reference's, walked. -/
import Derived.Test.YtefijgdbnjmifaaDoorBytP
import Derived.Test.YtefijgdbnjmifaaDoorCodeC
import Derived.Test.YtefijgdbnjmifaaDoorBase
import Derived.Lib.AppendStr
import Derived.Laws.AppendOwnNone
import Derived.Laws.Bits64b
import Derived.Laws.BitsLemmas
import Derived.Laws.Bits64
namespace Go.Proofs.YtefijgdbnjmifaaDoor
open Go.RowKit

def byteV (b : UInt8) : Value := .int .u8 (b.toNat : Int)
/-- A row of the call's own that holds these bytes. -/
def OwnBy (w : World) (base : Nat) (v : Value) (bs : List UInt8) : Prop := w.ownsRow base 5 1 v bs.length (bs.map byteV)
theorem OwnBy.nil (w : World) (base : Nat) : OwnBy w base (.slice none 0 0) [] := ⟨rfl, .inl ⟨rfl, rfl⟩⟩
theorem OwnBy.keep {w w' : World} {base : Nat} {v : Value} {bs : List UInt8} (h : OwnBy w base v bs) (hb : Below w.heap.size w w') : OwnBy w' base v bs := own_below h hb
/-- The call answers a row of the call's own (from block base on) that holds these bytes. -/
def BPost (base : Nat) (bs : List UInt8) (w : World) (e : Ending) (w' : World) : Prop := ∃ v, e = .returned v ∧ OwnBy w' base v bs ∧ Below base w w'
theorem infoB : (Tryd.prog.info? 5).map (fun i => (i.zero, i.size, i.bytes)) = some (some (.int .u8 0), 1, 1) := by kernel_rfl
theorem uintB_pos (n : Nat) : 0 < (uintB n).length := by
  by_cases h : n < 128
  · rw [uintB_last h]; simp
  · rw [uintB_more h]; simp
theorem cell_byte_new (w : World) (x : Value) (t : TypeId) (g : Nat) (hg : w.heap.size = g) : ∀ j u, [x][j]? = some u → (w.alloc (.cells #[x] t)).cell? ((⟨g, 0, none⟩ : Addr).add j) = some u := by
  intro j u hj
  subst hg
  match j, hj with
  | 0, hj => simp at hj; subst hj; simp [Addr.add]
  | j + 1, hj => simp at hj
theorem OwnBy.snoc {w : World} {base : Nat} {v x : Value} {bs : List UInt8} {b : UInt8} (hx : x = byteV b) (h : w.ownsRow base 5 1 v (bs.length + 1) (bs.map byteV ++ [x])) : OwnBy w base v (bs ++ [b]) := by
  subst hx
  unfold OwnBy
  rw [List.length_append, List.map_append]
  exact h
theorem or128 : ∀ x : Nat, x < 256 → x ||| 128 = x % 128 + 128 := by decide +kernel
theorem byt_more (m : Nat) : bits .or .u8 ((m : Int) % 256) 128 = ((UInt8.ofNat (m % 128 + 128)).toNat : Int) := by
  have h : bits .or .u8 ((m % 256 : Nat) : Int) 128 = ((m % 256 ||| 128 : Nat) : Int) := (bits_nat .u8 8 (by decide) wraps_u8 (m % 256) 128 (Nat.mod_lt _ (by decide)) (by decide)).2
  rw [or128 _ (Nat.mod_lt _ (by decide))] at h
  rw [show ((m : Int) % 256) = ((m % 256 : Nat) : Int) by omega, h]
  have : (UInt8.ofNat (m % 128 + 128)).toNat = m % 128 + 128 := by rw [UInt8.toNat_ofNat']; omega
  rw [this]; omega
theorem byt_last {m : Nat} (h : m < 128) : (.int .u8 (m : Int) : Value) = byteV (UInt8.ofNat m) := by
  have : (UInt8.ofNat m).toNat = m := by rw [UInt8.toNat_ofNat']; omega
  unfold byteV; rw [this]
set_option maxRecDepth 100000 in
set_option maxHeartbeats 1000000 in
theorem puts_any {w : World} {base : Nat} {v : Value} {bs : List UInt8} (n : Nat) (hn : n < 18446744073709551616) (hbase : base ≤ w.heap.size) (hown : OwnBy w base v bs) (hlen : bs.length ≤ 70368744177664) :
    Calls Tryd.prog 38 #[v, .int .u64 n] w (BPost base (bs ++ uintB n) w) := by
  obtain ⟨i0, hi, hz0, hz1, hz2⟩ := info_parts infoB
  have HI0 := Lib.hid hi
  have HZ0 := Lib.hid hz0
  have HZ1 := Lib.hid hz1
  have HZ2 := Lib.hid hz2
  have HO := Lib.hid hown
  have HT := Lib.hid (show (bs ++ uintB n).length ≤ 70368744177674 by rw [List.length_append]; have := uintB_len10 hn; omega)
  clear hi hz0 hz1 hz2 hown
  go_enter Tryd.func38, Tryd.ntmps38
  go_wp2_with fail
  go_loopw [0, 1] (fun v nn wr => ∃ (m : Nat) (cs : List UInt8), nn = .int .u64 m ∧ m < 18446744073709551616 ∧ cs ++ uintB m = bs ++ uintB n ∧ OwnBy wr base v cs ∧ Below base w wr) (fun _ nn _ => (intOf nn).toNat)
  case atStart => exact ⟨n, bs, rfl, hn, rfl, HO.out, Below.refl _ _⟩
  case round =>
    obtain ⟨m, cs, rfl, hm, he, ho, hb⟩ := hrel
    have HE := Lib.hid he
    have HC := Lib.hid ho
    have hcl : cs.length + 1 ≤ 70368744177674 := by have h1 := HT.out; rw [← he, List.length_append] at h1; have := uintB_pos m; omega
    have hsz := hb.size
    clear he ho
    by_cases h127 : m < 128
    · have HX := Lib.hid (byt_last h127)
      have HU := Lib.hid (uintB_last h127)
      go_wp2_with (at_builtin; refine wpList_append_own _ rfl _ _ 25 rfl base 5 i0 (.int .u8 0) 1 1 Tryd.underlying25 HI0.out HZ0.out HZ1.out HZ2.out rfl (by decide) _ cs.length (cs.map byteV) rfl ?own ⟨wr.heap.size, 0, none⟩ 1 1 [.int .u8 (m : Int)] rfl rfl ?c1 ?c2 ?c3 ?c4 ?c5 ?_)
      case own => exact own_below HC.out (by go_grown)
      case c1 => exact cell_byte_new _ _ _ _ rfl
      case c2 => intro u hu; simp at hu; subst hu; rfl
      case c3 => unfold maxLen; omega
      case c4 => omega
      case c5 => simp; omega
      intro v' w3 hown' hgrow _
      have HOW := Lib.hid (OwnBy.snoc HX.out hown')
      have HBW := Lib.hid (show Below base w w3 from Below.grown (by go_grown) hgrow (by simp; omega) (fun q e => own_base HC.out e))
      clear hown' hgrow
      go_wp2_with fail
      go_ret
      exact ⟨v', rfl, by rw [← HE.out, HU.out]; exact HOW.out, HBW.out⟩
    · have HX := Lib.hid (byt_more m)
      have HU := Lib.hid (uintB_more h127)
      go_wp2_with (at_builtin; refine wpList_append_own _ rfl _ _ 25 rfl base 5 i0 (.int .u8 0) 1 1 Tryd.underlying25 HI0.out HZ0.out HZ1.out HZ2.out rfl (by decide) _ cs.length (cs.map byteV) rfl ?own ⟨wr.heap.size, 0, none⟩ 1 1 [.int .u8 (bits .or .u8 ((m : Int) % 256) 128)] rfl rfl ?c1 ?c2 ?c3 ?c4 ?c5 ?_)
      case own => exact own_below HC.out (by go_grown)
      case c1 => exact cell_byte_new _ _ _ _ rfl
      case c2 => intro u hu; simp at hu; subst hu; rfl
      case c3 => unfold maxLen; omega
      case c4 => omega
      case c5 => simp; omega
      intro v' w3 hown' hgrow _
      have HOW := Lib.hid (OwnBy.snoc (b := UInt8.ofNat (m % 128 + 128)) (by rw [HX.out]; rfl) hown')
      have HBW := Lib.hid (show Below base w w3 from Below.grown (by go_grown) hgrow (by simp; omega) (fun q e => own_base HC.out e))
      clear hown' hgrow
      go_wp2_with fail
      go_roundw
      case rel => exact ⟨m / 128, cs ++ [UInt8.ofNat (m % 128 + 128)], by go_num, by omega, by rw [← HE.out, HU.out, List.append_assoc]; rfl, HOW.out, HBW.out⟩
      case measure => simp [intOf]; omega
end Go.Proofs.YtefijgdbnjmifaaDoor
namespace Go.Proofs.YtefijgdbnjmifaaDoor
open Go.RowKit

theorem xor_none (a : Nat) (h : a < 18446744073709551616) : bits .xor .u64 (a : Int) 0 = (a : Int) := by
  have := bits_xor_u64_nat a 0 h (by decide)
  rw [Nat.xor_zero] at this
  exact this
theorem xor_all (a : Nat) (h : a < 18446744073709551616) : bits .xor .u64 (a : Int) 18446744073709551615 = ((18446744073709551615 - a : Nat) : Int) := by
  have h1 := bits_xor_u64_nat a 18446744073709551615 h (by decide)
  have h2 : a ^^^ 18446744073709551615 = 18446744073709551615 - a := by
    have e : (BitVec.ofNat 64 a ^^^ BitVec.allOnes 64).toNat = 18446744073709551615 - a := by
      rw [BitVec.xor_allOnes, BitVec.toNat_not, BitVec.toNat_ofNat, Nat.mod_eq_of_lt (by omega)]
    rw [BitVec.toNat_xor, BitVec.toNat_ofNat, BitVec.toNat_allOnes, Nat.mod_eq_of_lt (by omega)] at e
    exact e
  rw [h2] at h1
  exact h1
theorem zig_up {n : Int} (h : 0 ≤ n) (h1 : n ≤ 9223372036854775807) : bits .xor .u64 (n * 2) (n / 9223372036854775808) = ((zigN n : Nat) : Int) := by
  rw [show n / 9223372036854775808 = 0 by omega, zig_pos h]
  obtain ⟨k, rfl⟩ := Int.eq_ofNat_of_zero_le h
  have := xor_none (2 * k) (by omega)
  rw [show ((k : Int) * 2) = ((2 * k : Nat) : Int) by omega, this]
  omega
theorem zig_down {n : Int} (h : ¬ 0 ≤ n) (h0 : -9223372036854775808 ≤ n) : bits .xor .u64 (IntKind.u64.wrap (IntKind.u64.wrap n * 2)) (IntKind.u64.wrap (n / 9223372036854775808)) = ((zigN n : Nat) : Int) := by
  rw [show n / 9223372036854775808 = -1 by omega, zig_neg h, IntKind.wrap_u64, IntKind.wrap_u64, IntKind.wrap_u64]
  obtain ⟨k, hk⟩ := Int.eq_ofNat_of_zero_le (show 0 ≤ 2 * n + 18446744073709551616 by omega)
  have := xor_all k (by omega)
  rw [show (n % 18446744073709551616 * 2) % 18446744073709551616 = (k : Int) by omega, show ((-1 : Int) % 18446744073709551616) = 18446744073709551615 by decide, this]
  omega
theorem zig_walk (n : Int) (h0 : -9223372036854775808 ≤ n) (h1 : n ≤ 9223372036854775807) (w : World) :
    Calls Tryd.prog 40 #[.int .i64 n] w (Ret (.int .u64 (zigN n : Int)) w) := by
  by_cases h : 0 ≤ n
  · have Z := Lib.hid (zig_up h h1)
    go_enter Tryd.func40, Tryd.ntmps40
    go_wp2_with fail
    go_ret
    exact ⟨ret_int Z.out, rfl⟩
  · have Z := Lib.hid (zig_down h h0)
    go_enter Tryd.func40, Tryd.ntmps40
    go_wp2_with fail
    go_ret
    exact ⟨ret_int Z.out, rfl⟩
theorem putu_any (n : Nat) (hn : n < 18446744073709551616) (w : World) : Calls Tryd.prog 18 #[.int .u64 n] w (BPost w.heap.size (uintB n) w) := by
  go_enter Tryd.func18, Tryd.ntmps18
  go_wp2_with fail
  refine (puts_any n hn (Nat.le_refl _) (OwnBy.nil w w.heap.size) (by simp)).mono ?_
  rintro e w1 ⟨v, rfl, ho, hb⟩
  go_wp2_with fail
  go_ret
  exact ⟨v, rfl, ho, hb⟩
theorem putu_z (n : Nat) {z : Int} (hz : z = (n : Int)) (hn : n < 18446744073709551616) (w : World) : Calls Tryd.prog 18 #[.int .u64 z] w (BPost w.heap.size (uintB n) w) := by subst hz; exact putu_any n hn w
theorem puti_any (n : Int) (h0 : -9223372036854775808 ≤ n) (h1 : n ≤ 9223372036854775807) (w : World) : Calls Tryd.prog 20 #[.int .i64 n] w (BPost w.heap.size (uintB (zigN n)) w) := by
  go_enter Tryd.func20, Tryd.ntmps20
  go_wp2_with fail
  refine (zig_walk n h0 h1 w).mono ?_
  rintro e w1 ⟨rfl, rfl⟩
  go_wp2_with fail
  refine (puts_any (zigN n) (zig_lt h0 h1) (Nat.le_refl _) (OwnBy.nil w w.heap.size) (by simp)).mono ?_
  rintro e w1 ⟨v, rfl, ho, hb⟩
  go_wp2_with fail
  go_ret
  exact ⟨v, rfl, ho, hb⟩
theorem strCells_bytes (s : ByteArray) : Go.Lib.strCells s = s.data.toList.map byteV := rfl
theorem OwnBy.text {w : World} {base : Nat} {v : Value} {bs : List UInt8} {s : ByteArray} (h : w.ownsRow base 5 1 v (bs.length + s.size) (bs.map byteV ++ Go.Lib.strCells s)) : OwnBy w base v (bs ++ s.data.toList) := by
  unfold OwnBy
  rw [List.length_append, List.map_append, ← strCells_bytes]
  have e : s.data.toList.length = s.size := by simp
  rw [e]
  exact h
theorem puttexts_any (s : ByteArray) (hs : s.size ≤ 35184372088832) (w : World) : Calls Tryd.prog 41 #[.slice none 0 0, .string s] w (BPost w.heap.size (uintB s.size ++ s.data.toList) w) := by
  obtain ⟨i0, hi, hz0, hz1, hz2⟩ := info_parts infoB
  have HI0 := Lib.hid hi
  have HZ0 := Lib.hid hz0
  have HZ1 := Lib.hid hz1
  have HZ2 := Lib.hid hz2
  have HL := uintB_len10 (n := s.size) (by omega)
  clear hi hz0 hz1 hz2
  go_enter Tryd.func41, Tryd.ntmps41
  go_wp2_with fail
  refine (puts_any s.size (by omega) (Nat.le_refl _) (OwnBy.nil w w.heap.size) (by simp)).mono ?_
  rintro e w1 ⟨v, rfl, ho, hb⟩
  rw [List.nil_append] at ho
  have HO := Lib.hid ho
  have hz := hb.size
  clear ho
  go_wp2_with (at_builtin; refine Go.Lib.wpList_append_own_string _ rfl _ _ 25 9 rfl w.heap.size 5 i0 Tryd.underlying25 Tryd.underlying9 HI0.out HZ0.out HZ1.out HZ2.out v (uintB s.size).length ((uintB s.size).map byteV) rfl ?own s rfl ?c1 ?c2 ?c3 ?_)
  case own => exact HO.out
  case c1 => unfold maxLen; omega
  case c2 => omega
  case c3 => exact hz
  intro v' w3 hown' hgrow _
  have HOW := Lib.hid (OwnBy.text hown')
  have HBW := Lib.hid (show Below w.heap.size w w3 from Below.grown (by go_grown) hgrow hz (fun q e => own_base HO.out e))
  clear hown' hgrow
  go_wp2_with fail
  go_ret
  exact ⟨v', rfl, HOW.out, HBW.out⟩
theorem putt_any (s : ByteArray) (hs : s.size ≤ 35184372088832) (w : World) : Calls Tryd.prog 21 #[.string s] w (BPost w.heap.size (uintB s.size ++ s.data.toList) w) := by
  go_enter Tryd.func21, Tryd.ntmps21
  go_wp2_with fail
  refine (puttexts_any s hs w).mono ?_
  rintro e w1 ⟨v, rfl, ho, hb⟩
  go_wp2_with fail
  go_ret
  exact ⟨v, rfl, ho, hb⟩
theorem byt_rem (m : Nat) : (.int .u8 ((m : Int) % 128 + 128) : Value) = byteV (UInt8.ofNat (m % 128 + 128)) := by
  have : (UInt8.ofNat (m % 128 + 128)).toNat = m % 128 + 128 := by rw [UInt8.toNat_ofNat']; omega
  unfold byteV; rw [this]
  exact congrArg (Value.int .u8) (by omega)
set_option maxRecDepth 100000 in
set_option maxHeartbeats 1000000 in
theorem ruintb_any (n : Nat) (hn : n < 18446744073709551616) (w : World) :
    Calls Tryd.prog 23 #[.int .u64 n] w (BPost w.heap.size (uintB n) w) := by
  obtain ⟨i0, hi, hz0, hz1, hz2⟩ := info_parts infoB
  have HI0 := Lib.hid hi
  have HZ0 := Lib.hid hz0
  have HZ1 := Lib.hid hz1
  have HZ2 := Lib.hid hz2
  have HT := Lib.hid (uintB_len10 hn)
  clear hi hz0 hz1 hz2
  go_enter Tryd.func23, Tryd.ntmps23
  go_wp2_with fail
  go_loopw [3, 0] (fun v nn wr => ∃ (m : Nat) (cs : List UInt8), nn = .int .u64 m ∧ m < 18446744073709551616 ∧ cs ++ uintB m = uintB n ∧ OwnBy wr w.heap.size v cs ∧ Below w.heap.size w wr) (fun _ nn _ => (intOf nn).toNat)
  case atStart => exact ⟨n, [], rfl, hn, rfl, OwnBy.nil _ _, Below.refl _ _⟩
  case round =>
    obtain ⟨m, cs, rfl, hm, he, ho, hb⟩ := hrel
    have HE := Lib.hid he
    have HC := Lib.hid ho
    have hcl : cs.length + 1 ≤ 10 := by have h1 := HT.out; rw [← he, List.length_append] at h1; have := uintB_pos m; omega
    have hsz := hb.size
    clear he ho
    by_cases h127 : m < 128
    · have HX := Lib.hid (byt_last h127)
      have HU := Lib.hid (uintB_last h127)
      go_wp2_with (at_builtin; refine wpList_append_own _ rfl _ _ 25 rfl w.heap.size 5 i0 (.int .u8 0) 1 1 Tryd.underlying25 HI0.out HZ0.out HZ1.out HZ2.out rfl (by decide) _ cs.length (cs.map byteV) rfl ?own ⟨wr.heap.size, 0, none⟩ 1 1 [.int .u8 (m : Int)] rfl rfl ?c1 ?c2 ?c3 ?c4 ?c5 ?_)
      case own => exact own_below HC.out (by go_grown)
      case c1 => exact cell_byte_new _ _ _ _ rfl
      case c2 => intro u hu; simp at hu; subst hu; rfl
      case c3 => unfold maxLen; omega
      case c4 => omega
      case c5 => simp; omega
      intro v' w3 hown' hgrow _
      have HOW := Lib.hid (OwnBy.snoc HX.out hown')
      have HBW := Lib.hid (show Below w.heap.size w w3 from Below.grown (by go_grown) hgrow (by simp; omega) (fun q e => own_base HC.out e))
      clear hown' hgrow
      go_wp2_with fail
      go_ret
      exact ⟨v', rfl, by rw [← HE.out, HU.out]; exact HOW.out, HBW.out⟩
    · have HX := Lib.hid (byt_rem m)
      have HU := Lib.hid (uintB_more h127)
      go_wp2_with (at_builtin; refine wpList_append_own _ rfl _ _ 25 rfl w.heap.size 5 i0 (.int .u8 0) 1 1 Tryd.underlying25 HI0.out HZ0.out HZ1.out HZ2.out rfl (by decide) _ cs.length (cs.map byteV) rfl ?own ⟨wr.heap.size, 0, none⟩ 1 1 [.int .u8 ((m : Int) % 128 + 128)] rfl rfl ?c1 ?c2 ?c3 ?c4 ?c5 ?_)
      case own => exact own_below HC.out (by go_grown)
      case c1 => exact cell_byte_new _ _ _ _ rfl
      case c2 => intro u hu; simp at hu; subst hu; rfl
      case c3 => unfold maxLen; omega
      case c4 => omega
      case c5 => simp; omega
      intro v' w3 hown' hgrow _
      have HOW := Lib.hid (OwnBy.snoc HX.out hown')
      have HBW := Lib.hid (show Below w.heap.size w w3 from Below.grown (by go_grown) hgrow (by simp; omega) (fun q e => own_base HC.out e))
      clear hown' hgrow
      go_wp2_with fail
      go_roundw
      case rel => exact ⟨m / 128, cs ++ [UInt8.ofNat (m % 128 + 128)], by go_num, by omega, by rw [← HE.out, HU.out, List.append_assoc]; rfl, HOW.out, HBW.out⟩
      case measure => simp [intOf]; omega
theorem ruintb_z (n : Nat) {z : Int} (hz : z = (n : Int)) (hn : n < 18446744073709551616) (w : World) :
    Calls Tryd.prog 23 #[.int .u64 z] w (BPost w.heap.size (uintB n) w) := by subst hz; exact ruintb_any n hn w
theorem rintb_any (n : Int) (h0 : -9223372036854775808 ≤ n) (h1 : n ≤ 9223372036854775807) (w : World) : Calls Tryd.prog 24 #[.int .i64 n] w (BPost w.heap.size (uintB (zigN n)) w) := by
  by_cases h : 0 ≤ n
  · have Z := Lib.hid (zig_pos h)
    go_enter Tryd.func24, Tryd.ntmps24
    go_wp2_with fail
    refine (ruintb_z (zigN n) (by rw [Z.out]) (zig_lt h0 h1) _).mono ?_
    rintro e w1 ⟨v, rfl, ho, hb⟩
    go_wp2_with fail
    go_ret
    exact ⟨v, rfl, ho, hb⟩
  · have Z := Lib.hid (zig_neg h)
    go_enter Tryd.func24, Tryd.ntmps24
    go_wp2_with fail
    refine (ruintb_z (zigN n) (by rw [Z.out]; omega) (zig_lt h0 h1) _).mono ?_
    rintro e w1 ⟨v, rfl, ho, hb⟩
    go_wp2_with fail
    go_ret
    exact ⟨v, rfl, ho, hb⟩
theorem rtextb_any (s : ByteArray) (hs : s.size ≤ 35184372088832) (w : World) : Calls Tryd.prog 25 #[.string s] w (BPost w.heap.size (uintB s.size ++ s.data.toList) w) := by
  obtain ⟨i0, hi, hz0, hz1, hz2⟩ := info_parts infoB
  have HI0 := Lib.hid hi
  have HZ0 := Lib.hid hz0
  have HZ1 := Lib.hid hz1
  have HZ2 := Lib.hid hz2
  have HL := uintB_len10 (n := s.size) (by omega)
  clear hi hz0 hz1 hz2
  go_enter Tryd.func25, Tryd.ntmps25
  go_wp2_with fail
  refine (ruintb_any s.size (by omega) w).mono ?_
  rintro e w1 ⟨v, rfl, ho, hb⟩
  have HO := Lib.hid ho
  have hz := hb.size
  clear ho
  go_wp2_with (at_builtin; refine Go.Lib.wpList_append_own_string _ rfl _ _ 25 9 rfl w.heap.size 5 i0 Tryd.underlying25 Tryd.underlying9 HI0.out HZ0.out HZ1.out HZ2.out v (uintB s.size).length ((uintB s.size).map byteV) rfl ?own s rfl ?c1 ?c2 ?c3 ?_)
  case own => exact HO.out
  case c1 => unfold maxLen; omega
  case c2 => omega
  case c3 => exact hz
  intro v' w3 hown' hgrow _
  have HOW := Lib.hid (OwnBy.text hown')
  have HBW := Lib.hid (show Below w.heap.size w w3 from Below.grown (by go_grown) hgrow hz (fun q e => own_base HO.out e))
  clear hown' hgrow
  go_wp2_with fail
  go_ret
  exact ⟨v', rfl, HOW.out, HBW.out⟩
end Go.Proofs.YtefijgdbnjmifaaDoor

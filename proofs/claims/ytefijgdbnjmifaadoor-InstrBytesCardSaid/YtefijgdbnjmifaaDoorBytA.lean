/- Numbers and texts put behind bytes, walked. -/
import Derived.Test.YtefijgdbnjmifaaDoorBytP
import Derived.Test.YtefijgdbnjmifaaDoorBase
import Derived.Lib.AppendStr
import Derived.Laws.AppendOwnNone
import Derived.Laws.Bits64b
import Derived.Laws.BitsLemmas
namespace Go.Proofs.YtefijgdbnjmifaaDoor
open Go.RowKit

def byteV (b : UInt8) : Value := .int .u8 (b.toNat : Int)
/-- A row of the call's own that holds these bytes. -/
def OwnBy (w : World) (base : Nat) (v : Value) (bs : List UInt8) : Prop := w.ownsRow base 5 1 v bs.length (bs.map byteV)
theorem OwnBy.nil (w : World) (base : Nat) : OwnBy w base (.slice none 0 0) [] := ⟨rfl, .inl ⟨rfl, rfl⟩⟩
theorem own_below {w w' : World} {base e sz n : Nat} {v : Value} {xs : List Value} (h : w.ownsRow base e sz v n xs) (hb : Below w.heap.size w w') : w'.ownsRow base e sz v n xs := by
  obtain ⟨h1, h2 | ⟨g, cap, cur, a, b, c, d⟩⟩ := h
  · exact ⟨h1, .inl h2⟩
  · exact ⟨h1, .inr ⟨g, cap, cur, a, b, (hb.block g (Array.getElem?_eq_some_iff.1 c).1).trans c, d⟩⟩
theorem OwnBy.keep {w w' : World} {base : Nat} {v : Value} {bs : List UInt8} (h : OwnBy w base v bs) (hb : Below w.heap.size w w') : OwnBy w' base v bs := own_below h hb
/-- The call answers a row of the call's own (from block base on) that holds these bytes. -/
def BPost (base : Nat) (bs : List UInt8) (w : World) (e : Ending) (w' : World) : Prop := ∃ v, e = .returned v ∧ OwnBy w' base v bs ∧ Below base w w'
theorem infoB : (Tryd.prog.info? 5).map (fun i => (i.zero, i.size, i.bytes)) = some (some (.int .u8 0), 1, 1) := by kernel_rfl
theorem uintB_pos (n : Nat) : 0 < (uintB n).length := by
  by_cases h : n < 128
  · rw [uintB_last h]; simp
  · rw [uintB_more h]; simp
theorem cell_byte_new (w : World) (x : Value) (t : TypeId) (g : Nat) (hg : w.heap.size = g) : ∀ j u, [x][j]? = some u → (w.alloc (.cells #[x] t)).cell? ((⟨g, 0, none⟩ : Addr).add j) = some u := by
  intro j u hj
  subst hg
  match j, hj with
  | 0, hj => simp at hj; subst hj; simp [Addr.add]
  | j + 1, hj => simp at hj
theorem OwnBy.snoc {w : World} {base : Nat} {v x : Value} {bs : List UInt8} {b : UInt8} (hx : x = byteV b) (h : w.ownsRow base 5 1 v (bs.length + 1) (bs.map byteV ++ [x])) : OwnBy w base v (bs ++ [b]) := by
  subst hx
  unfold OwnBy
  rw [List.length_append, List.map_append]
  exact h
theorem or128 : ∀ x : Nat, x < 256 → x ||| 128 = x % 128 + 128 := by decide +kernel
theorem byt_more (m : Nat) : bits .or .u8 ((m : Int) % 256) 128 = ((UInt8.ofNat (m % 128 + 128)).toNat : Int) := by
  have h : bits .or .u8 ((m % 256 : Nat) : Int) 128 = ((m % 256 ||| 128 : Nat) : Int) := (bits_nat .u8 8 (by decide) wraps_u8 (m % 256) 128 (Nat.mod_lt _ (by decide)) (by decide)).2
  rw [or128 _ (Nat.mod_lt _ (by decide))] at h
  rw [show ((m : Int) % 256) = ((m % 256 : Nat) : Int) by omega, h]
  have : (UInt8.ofNat (m % 128 + 128)).toNat = m % 128 + 128 := by rw [UInt8.toNat_ofNat']; omega
  rw [this]; omega
theorem byt_last {m : Nat} (h : m < 128) : (.int .u8 (m : Int) : Value) = byteV (UInt8.ofNat m) := by
  have : (UInt8.ofNat m).toNat = m := by rw [UInt8.toNat_ofNat']; omega
  unfold byteV; rw [this]
set_option maxRecDepth 100000 in
set_option maxHeartbeats 1000000 in
theorem puts_any {w : World} {base : Nat} {v : Value} {bs : List UInt8} (n : Nat) (hn : n < 18446744073709551616) (hbase : base ≤ w.heap.size) (hown : OwnBy w base v bs) (hlen : bs.length ≤ 70368744177664) :
    Calls Tryd.prog 38 #[v, .int .u64 n] w (BPost base (bs ++ uintB n) w) := by
  obtain ⟨i0, hi, hz0, hz1, hz2⟩ := info_parts infoB
  have HI0 := Lib.hid hi
  have HZ0 := Lib.hid hz0
  have HZ1 := Lib.hid hz1
  have HZ2 := Lib.hid hz2
  have HO := Lib.hid hown
  have HT := Lib.hid (show (bs ++ uintB n).length ≤ 70368744177674 by rw [List.length_append]; have := uintB_len10 hn; omega)
  clear hi hz0 hz1 hz2 hown
  go_enter Tryd.func38, Tryd.ntmps38
  go_wp2_with fail
  go_loopw [0, 1] (fun v nn wr => ∃ (m : Nat) (cs : List UInt8), nn = .int .u64 m ∧ m < 18446744073709551616 ∧ cs ++ uintB m = bs ++ uintB n ∧ OwnBy wr base v cs ∧ Below base w wr) (fun _ nn _ => (intOf nn).toNat)
  case atStart => exact ⟨n, bs, rfl, hn, rfl, HO.out, Below.refl _ _⟩
  case round =>
    obtain ⟨m, cs, rfl, hm, he, ho, hb⟩ := hrel
    have HE := Lib.hid he
    have HC := Lib.hid ho
    have hcl : cs.length + 1 ≤ 70368744177674 := by have h1 := HT.out; rw [← he, List.length_append] at h1; have := uintB_pos m; omega
    have hsz := hb.size
    clear he ho
    by_cases h127 : m < 128
    · have HX := Lib.hid (byt_last h127)
      have HU := Lib.hid (uintB_last h127)
      go_wp2_with (at_builtin; refine wpList_append_own _ rfl _ _ 25 rfl base 5 i0 (.int .u8 0) 1 1 Tryd.underlying25 HI0.out HZ0.out HZ1.out HZ2.out rfl (by decide) _ cs.length (cs.map byteV) rfl ?own ⟨wr.heap.size, 0, none⟩ 1 1 [.int .u8 (m : Int)] rfl rfl ?c1 ?c2 ?c3 ?c4 ?c5 ?_)
      case own => exact own_below HC.out (by go_grown)
      case c1 => exact cell_byte_new _ _ _ _ rfl
      case c2 => intro u hu; simp at hu; subst hu; rfl
      case c3 => unfold maxLen; omega
      case c4 => omega
      case c5 => simp; omega
      intro v' w3 hown' hgrow _
      have HOW := Lib.hid (OwnBy.snoc HX.out hown')
      have HBW := Lib.hid (show Below base w w3 from Below.grown (by go_grown) hgrow (by simp; omega) (fun q e => own_base HC.out e))
      clear hown' hgrow
      go_wp2_with fail
      go_ret
      exact ⟨v', rfl, by rw [← HE.out, HU.out]; exact HOW.out, HBW.out⟩
    · have HX := Lib.hid (byt_more m)
      have HU := Lib.hid (uintB_more h127)
      go_wp2_with (at_builtin; refine wpList_append_own _ rfl _ _ 25 rfl base 5 i0 (.int .u8 0) 1 1 Tryd.underlying25 HI0.out HZ0.out HZ1.out HZ2.out rfl (by decide) _ cs.length (cs.map byteV) rfl ?own ⟨wr.heap.size, 0, none⟩ 1 1 [.int .u8 (bits .or .u8 ((m : Int) % 256) 128)] rfl rfl ?c1 ?c2 ?c3 ?c4 ?c5 ?_)
      case own => exact own_below HC.out (by go_grown)
      case c1 => exact cell_byte_new _ _ _ _ rfl
      case c2 => intro u hu; simp at hu; subst hu; rfl
      case c3 => unfold maxLen; omega
      case c4 => omega
      case c5 => simp; omega
      intro v' w3 hown' hgrow _
      have HOW := Lib.hid (OwnBy.snoc (b := UInt8.ofNat (m % 128 + 128)) (by rw [HX.out]; rfl) hown')
      have HBW := Lib.hid (show Below base w w3 from Below.grown (by go_grown) hgrow (by simp; omega) (fun q e => own_base HC.out e))
      clear hown' hgrow
      go_wp2_with fail
      go_roundw
      case rel => exact ⟨m / 128, cs ++ [UInt8.ofNat (m % 128 + 128)], by go_num, by omega, by rw [← HE.out, HU.out, List.append_assoc]; rfl, HOW.out, HBW.out⟩
      case measure => simp [intOf]; omega
end Go.Proofs.YtefijgdbnjmifaaDoor

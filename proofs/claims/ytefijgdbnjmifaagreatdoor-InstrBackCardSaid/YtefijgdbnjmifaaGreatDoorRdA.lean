/- The reader of bytes, walked: the next byte, a number. The reader of bytes, walked: a whole number, a text. -/
import Derived.Test.YtefijgdbnjmifaaGreatDoorBase
import Derived.Test.YtefijgdbnjmifaaGreatDoorLookP
import Derived.Deep.QuietTactic
import Derived.BigQuiet
import Derived.Laws.Bits64b
import Derived.Laws.BitsLemmas
import Derived.Defers
import Derived.Recover
import Derived.Lib.SlBytesRow
import Derived.RegionTactic
namespace Go.Proofs.YtefijgdbnjmifaaGreatDoor
open Go.RowKit

/-- What a reader gives up with. -/
def faultV (at_ : Int) (e : Int) : Value := .iface 107 (.agg #[.int .i64 at_, .int .i64 e])
def Fault (at_ : Int) (er : Int) (w : World) (e : Ending) (w' : World) : Prop := e = .panicked [{ v := faultV at_ er, recovered := false }] ∧ w = w'
theorem fail_any (at_ er : Int) (w : World) : Calls Tryz.prog 59 #[.int .i64 at_, .int .i64 er] w (Fault at_ er w) := by
  go_enter Tryz.func59, Tryz.ntmps59
  go_wp2
  exact ⟨rfl, rfl, rfl⟩
/-- A reader of the bytes at A: block rb; its place is p. -/
structure RD (w : World) (rb : Nat) (A : Option Addr) (n cc : Nat) (l : List UInt8) (p : Nat) : Prop where
  c0 : w.cell? ⟨rb, 0, none⟩ = some (.slice A n cc)
  c1 : w.cell? ⟨rb, 1, none⟩ = some (.int .i64 p)
  fz : w.frozen? ⟨rb, 1, none⟩ = false
  len : l.length = n
  le : p ≤ n
  bytes : Sl w 1 A n (fun j => .int .u8 (byt l j : Int))
  ne : 0 < n → ∀ b off, A = some ⟨b, off, none⟩ → b ≠ rb
  lt : rb < w.heap.size
  cap : n ≤ cc
  capb : cc ≤ 9223372036854775807
  nil : A = none → cc = 0
/-- The reader has gone on; else all is as it was. -/
def Goes (rb : Nat) (q : Nat) (w w' : World) : Prop := w'.os = w.os ∧ w'.tape = w.tape ∧ w'.output = w.output ∧ w'.heap.size = w.heap.size ∧ (∀ k, k ≠ rb → w'.heap[k]? = w.heap[k]?) ∧ w'.cell? ⟨rb, 0, none⟩ = w.cell? ⟨rb, 0, none⟩ ∧ w'.cell? ⟨rb, 1, none⟩ = some (.int .i64 q) ∧ w'.frozen? ⟨rb, 1, none⟩ = w.frozen? ⟨rb, 1, none⟩
theorem Goes.rd {w w' : World} {rb : Nat} {A : Option Addr} {n cc : Nat} {l : List UInt8} {p q : Nat} (g : Goes rb q w w') (h : RD w rb A n cc l p) (hq : q ≤ n) : RD w' rb A n cc l q where
  c0 := g.2.2.2.2.2.1.trans h.c0
  c1 := g.2.2.2.2.2.2.1
  fz := g.2.2.2.2.2.2.2.trans h.fz
  len := h.len
  le := hq
  bytes := fun hn => by
    obtain ⟨b, off, e, hlt, hc⟩ := h.bytes hn
    exact ⟨b, off, e, by rw [g.2.2.2.1]; exact hlt, fun j hj => (World.cell?_of_block (a := ⟨b, off + j, none⟩) (g.2.2.2.2.1 b (h.ne hn b off e))).trans (hc j hj)⟩
  ne := h.ne
  lt := by rw [g.2.2.2.1]; exact h.lt
  cap := h.cap
  capb := h.capb
  nil := h.nil
theorem Goes.then {w w1 w2 : World} {rb p q : Nat} (h : Goes rb p w w1) (k : Goes rb q w1 w2) : Goes rb q w w2 :=
  ⟨k.1.trans h.1, k.2.1.trans h.2.1, k.2.2.1.trans h.2.2.1, k.2.2.2.1.trans h.2.2.2.1, fun j hj => (k.2.2.2.2.1 j hj).trans (h.2.2.2.2.1 j hj), k.2.2.2.2.2.1.trans h.2.2.2.2.2.1, k.2.2.2.2.2.2.1, k.2.2.2.2.2.2.2.trans h.2.2.2.2.2.2.2⟩
theorem Goes.drew {w : World} {rb p : Nat} (h : w.cell? ⟨rb, 1, none⟩ = some (.int .i64 p)) (q : Nat) : Goes rb p w (w.drewN q) := by
  refine ⟨?_, ?_, ?_, ?_, fun k _ => ?_, ?_, ?_, ?_⟩
  all_goals first | rfl | (simp [World.drewN]; done) | exact h
theorem Goes.store {w : World} {rb p : Nat} {u : Value} (h : w.cell? ⟨rb, 1, none⟩ = some u) : Goes rb p w (w.setCell ⟨rb, 1, none⟩ (.int .i64 p)) :=
  ⟨rfl, rfl, rfl, by simp, fun k hk => heap_setCell_other _ _ k _ hk, World.cell?_setCell_other _ _ _ _ (by simp), World.cell?_setCell_same _ _ _ h, World.frozen?_setCell _ _ _ _⟩
set_option maxHeartbeats 1000000 in
theorem next_end {w : World} {rb : Nat} {A : Option Addr} {n cc : Nat} {l : List UInt8} {p : Nat} (h : RD w rb A n cc l p) (hp : p = n) (hn : (n : Int) ≤ 140737488351232) :
    Calls Tryz.prog 58 #[.pointer (some ⟨rb, 0, none⟩)] w (fun e w' => e = .panicked [{ v := faultV n 4, recovered := false }] ∧ Goes rb p w w') := by
  have c0 := h.c0
  have c1 := h.c1
  clear h
  subst hp
  have heq : ((p : Int) == (p : Int)) = true := beq_self_eq_true _
  go_enter Tryz.func58, Tryz.ntmps58
  go_wp2_with fail
  go_quiet (fail)
  go_wp2_with fail
  refine (fail_any _ _ _).mono ?_
  rintro e w2 ⟨rfl, rfl⟩
  exact ⟨rfl, rfl, Goes.drew c1 _⟩
theorem RD.at {w : World} {rb : Nat} {A : Option Addr} {n cc : Nat} {l : List UInt8} {p : Nat} (h : RD w rb A n cc l p) (hp : p < n) : ∃ b off, A = some ⟨b, off, none⟩ ∧ b ≠ rb ∧ b < w.heap.size ∧ w.cell? ⟨b, off + p, none⟩ = some (.int .u8 (byt l p : Int)) := by
  obtain ⟨b, off, e, hlt, hc⟩ := h.bytes (by omega)
  exact ⟨b, off, e, h.ne (by omega) b off e, hlt, hc p (by omega)⟩
set_option maxHeartbeats 1000000 in
theorem next_some {w : World} {rb : Nat} {A : Option Addr} {n cc : Nat} {l : List UInt8} {p : Nat} (h : RD w rb A n cc l p) (hp : p < n) (hn : (n : Int) ≤ 140737488351232) :
    Calls Tryz.prog 58 #[.pointer (some ⟨rb, 0, none⟩)] w (fun e w' => e = .returned (.int .u8 (byt l p : Int)) ∧ Goes rb (p + 1) w w') := by
  have c0 := h.c0
  have c1 := h.c1
  have fz := h.fz
  have hlt := h.lt
  obtain ⟨b, off, rfl, hne, hbl, hcell⟩ := h.at hp
  clear h
  have heq : ((p : Int) == (n : Int)) = false := beq_eq_false_iff_ne.2 (by omega)
  generalize byt l p = c at *
  go_enter Tryz.func58, Tryz.ntmps58
  go_wp2_with fail
  go_quiet (fail)
  generalize nq = n1
  go_wp2_with fail
  have d0 : ((w.drewN n1).setCell ⟨rb, 1, none⟩ (.int .i64 ((p : Int) + 1))).cell? ⟨rb, 0, none⟩ = some (.slice (some ⟨b, off, none⟩) n cc) := (World.cell?_setCell_other _ _ _ _ (by simp)).trans c0
  have d1 : ((w.drewN n1).setCell ⟨rb, 1, none⟩ (.int .i64 ((p : Int) + 1))).cell? ⟨rb, 1, none⟩ = some (.int .i64 ((p : Int) + 1)) := World.cell?_setCell_same _ _ _ c1
  have d2 : ((w.drewN n1).setCell ⟨rb, 1, none⟩ (.int .i64 ((p : Int) + 1))).cell? ⟨b, off + p, none⟩ = some (.int .u8 (c : Int)) := (World.cell?_setCell_other _ _ _ _ (fun e => by injection e with e1 _ _; exact hne e1.symm)).trans hcell
  have hw1 : IntKind.i64.wrap ((p : Int) + 1 - 1) = (p : Int) := by rw [IntWalk.i64_in _ (by omega)]; omega
  have hp0 : (0 : Int) ≤ (p : Int) := by omega
  have hp1 : (p : Int) < (n : Int) := by omega
  go_quiet (fail)
  go_wp2_with fail
  go_ret
  refine ⟨rfl, ?_⟩
  have g := Goes.store (p := p + 1) (show (w.drewN n1).cell? ⟨rb, 1, none⟩ = some (.int .i64 (p : Int)) from c1)
  exact ((Goes.drew c1 n1).then g).then (Goes.drew g.2.2.2.2.2.2.1 _)
theorem wrap_u64_nat (x : Nat) (h : x < 2 ^ 64) : IntKind.u64.wrap (x : Int) = (x : Int) := by
  rw [IntKind.wrap_u64]
  have : (x : Int) < 18446744073709551616 := by have e : (2 : Nat) ^ 64 = 18446744073709551616 := by decide
                                                rw [e] at h; omega
  omega
theorem and127 (c : Nat) (h : c < 256) : bits .and .u8 (c : Int) 127 = ((c % 128 : Nat) : Int) := by
  have := (bits_nat .u8 8 (by decide) wraps_u8 c 127 (by omega) (by omega)).1
  rw [show c &&& 127 = c % 128 from Nat.and_two_pow_sub_one_eq_mod c 7] at this
  exact this
theorem num_step {l : List UInt8} {k acc : Nat} (h : Nm l k acc) (hb : ¬ ((byt l k = 0 ∧ 0 < k) ∨ (k = 9 ∧ byt l k ≠ 1))) :
    bits .or .u64 (acc : Int) (IntKind.u64.wrap (IntKind.u64.wrap (bits .and .u8 (byt l k : Int) 127) * 2 ^ (7 * k))) = ((acc + byt l k % 128 * 2 ^ (7 * k) : Nat) : Int) := by
  have hc := byt_lt l k
  obtain ⟨u1, u2⟩ := h.u64 hb
  have hm : byt l k % 128 < 2 ^ 64 := Nat.lt_of_lt_of_le (Nat.mod_lt _ (by omega)) (by decide)
  rw [and127 _ hc, wrap_u64_nat _ hm, show (((byt l k % 128 : Nat) : Int) * 2 ^ (7 * k)) = ((byt l k % 128 * 2 ^ (7 * k) : Nat) : Int) by simp, wrap_u64_nat _ u2]
  have e : (2 : Nat) ^ 64 = 18446744073709551616 := by decide
  rw [e] at u1 u2
  rw [bits_or_u64_nat _ _ (by omega) u2, h.or]
/-- What reading a number comes to. -/
def NPost (l : List UInt8) (rb : Nat) (w : World) (e : Ending) (w' : World) : Prop :=
  ((numS l).2.2 = 0 ∧ e = .returned (.int .u64 ((numS l).1 : Int)) ∧ (numS l).2.1 ≤ l.length ∧ Goes rb (numS l).2.1 w w') ∨
  ((numS l).2.2 ≠ 0 ∧ e = .panicked [{ v := faultV ((numS l).2.1 : Int) (numS l).2.2, recovered := false }] ∧ ∃ q, Goes rb q w w')
set_option maxRecDepth 100000 in
set_option maxHeartbeats 4000000 in
theorem number_any {w : World} {rb : Nat} {A : Option Addr} {n cc : Nat} {l : List UInt8} (h : RD w rb A n cc l 0) (hn : (n : Int) ≤ 140737488351232) :
    Calls Tryz.prog 39 #[.pointer (some ⟨rb, 0, none⟩)] w (NPost l rb w) := by
  have H := Lib.hid h
  have HL := Lib.hid h.len
  clear h
  go_enter Tryz.func39, Tryz.ntmps39
  go_wp2_with fail
  go_loopw [3, 4, 5] (fun a i _ wr => ∃ (k acc : Nat), i = .int .i64 k ∧ a = .int .u64 acc ∧ k ≤ n ∧ Nm l k acc ∧ Goes rb k w wr) (fun _ i _ _ => 10 - (intOf i).toNat)
  case atStart => exact ⟨0, 0, rfl, rfl, Nat.zero_le _, Nm.start l, Goes.drew H.out.c1 0⟩
  case round =>
    obtain ⟨k, acc, rfl, rfl, hkn, hnm, hg⟩ := hrel
    have hle := hnm.le
    have NM := Lib.hid hnm
    have G := Lib.hid hg
    have RR := Lib.hid (hg.rd H.out hkn)
    clear hnm hg
    by_cases hlt : k < n
    · have BL := byt_lt l k
      have ULT := Lib.hid (fun hb => NM.out.u64 hb)
      go_wp2_with fail
      refine (next_some RR.out hlt hn).mono ?_
      rintro e w2 ⟨rfl, hg2⟩
      have G2 := Lib.hid (G.out.then hg2)
      have c1 := hg2.2.2.2.2.2.2.1
      clear hg2
      have e9 : ((k : Int) == 9) = decide (k = 9) := by
        by_cases h9 : k = 9
        · subst h9; rfl
        · rw [decide_eq_false h9]; exact beq_eq_false_iff_ne.2 (by omega)
      by_cases hbad : (byt l k = 0 ∧ 0 < k) ∨ (k = 9 ∧ byt l k ≠ 1)
      · have E := Lib.hid (NM.out.bad (by have := HL.out; omega) hbad)
        have hw : IntKind.i64.wrap (((k + 1 : Nat) : Int) - 1) = (k : Int) := by rw [IntWalk.i64_in _ (by omega)]; omega
        clear e9
        generalize byt l k = c at *
        go_wp2_with (go_at_call 59; refine (fail_any _ _ _).mono ?_; rintro e w3 ⟨rfl, rfl⟩)
        all_goals
          refine ⟨rfl, .inr ?_⟩
          rw [E.out]
          first
            | exact ⟨by simp, rfl, k + 1, G2.out⟩
            | (obtain rfl : k = 9 := by omega
               exact ⟨by simp, rfl, _, G2.out⟩)
      · have ST := Lib.hid (num_step NM.out hbad)
        have LA := Lib.hid (fun h => NM.out.last (by have := HL.out; omega) hbad h)
        have MO := Lib.hid (fun h => NM.out.more (by have := HL.out; omega) hbad h)
        clear e9
        by_cases h0 : byt l k = 0
        · have hk0 : k = 0 := by omega
          subst hk0
          have ha0 : acc = 0 := by have := NM.out.lt; simpa using this
          subst ha0
          have LA2 := Lib.hid (LA.out (by omega))
          rw [h0] at LA2 ⊢
          clear h0 hbad ULT ST LA MO BL
          go_wp2_with fail
          go_ret
          refine .inl ?_
          rw [LA2.out]
          exact ⟨rfl, ret_int (by decide), by have := HL.out; show 0 + 1 ≤ l.length; omega, G2.out⟩
        · have hne : ((byt l k : Int) == 0) = false := beq_eq_false_iff_ne.2 (by omega)
          by_cases h128 : byt l k < 128
          · have LA2 := Lib.hid (LA.out h128)
            generalize byt l k = c at *
            go_wp2_with fail
            all_goals first
              | (exfalso; omega)
              | (go_ret
                 refine .inl ?_
                 rw [LA2.out]
                 exact ⟨rfl, ret_int ST.out, by have := HL.out; show k + 1 ≤ l.length; omega, G2.out⟩)
              | (obtain rfl : k = 9 := by omega
                 go_ret
                 refine .inl ?_
                 rw [LA2.out]
                 exact ⟨rfl, ret_int ST.out, by have := HL.out; show 9 + 1 ≤ l.length; omega, G2.out⟩)
          · have MO2 := Lib.hid (MO.out h128)
            have hk9 : k ≠ 9 := by omega
            have hk9b : ((k : Int) == 9) = false := beq_eq_false_iff_ne.2 (by omega)
            generalize byt l k = c at *
            clear hk9
            go_wp2_with fail
            go_roundw
            case rel => exact ⟨k + 1, _, by go_num, int_eq ST.out, by omega, MO2.out, G2.out⟩
            case measure => simp [intOf]; omega
    · have E := Lib.hid (NM.out.ended (by have := HL.out; omega))
      go_wp2_with fail
      refine (next_end RR.out (by omega) hn).mono ?_
      rintro e w2 ⟨rfl, hg2⟩
      refine ⟨rfl, .inr ?_⟩
      rw [E.out]
      exact ⟨by simp, by rw [HL.out], k, G.out.then hg2⟩
end Go.Proofs.YtefijgdbnjmifaaGreatDoor
namespace Go.Proofs.YtefijgdbnjmifaaGreatDoor
open Go.RowKit

def zagI (v : Nat) : Int := if v % 2 = 1 then -((v / 2 : Nat) : Int) - 1 else ((v / 2 : Nat) : Int)
theorem and1 (v : Nat) (h : v < 18446744073709551616) : bits .and .u64 (v : Int) 1 = ((v % 2 : Nat) : Int) := by
  have := bits_and_u64_nat v 1 h (by omega)
  rw [show v &&& 1 = v % 2 from Nat.and_two_pow_sub_one_eq_mod v 1] at this
  exact this
theorem xor0 (x : Int) (h0 : -9223372036854775808 ≤ x) (h1 : x ≤ 9223372036854775807) : bits .xor .i64 x 0 = x := by
  have e : BitVec.ofInt 64 x ^^^ BitVec.ofInt 64 0 = BitVec.ofInt 64 x := by simp
  show IntKind.i64.wrap ((BitVec.ofInt 64 x ^^^ BitVec.ofInt 64 0).toNat : Int) = x
  rw [e, BitVec.toNat_ofInt, IntKind.wrap_i64]
  omega
theorem xorm1 (x : Int) (h0 : -9223372036854775808 ≤ x) (h1 : x ≤ 9223372036854775807) : bits .xor .i64 x (-1) = -x - 1 := by
  have e : BitVec.ofInt 64 x ^^^ BitVec.ofInt 64 (-1) = ~~~ (BitVec.ofInt 64 x) := by
    have : BitVec.ofInt 64 (-1) = BitVec.allOnes 64 := by decide
    rw [this, BitVec.xor_allOnes]
  show IntKind.i64.wrap ((BitVec.ofInt 64 x ^^^ BitVec.ofInt 64 (-1)).toNat : Int) = -x - 1
  rw [e, BitVec.toNat_not, BitVec.toNat_ofInt, IntKind.wrap_i64]
  omega
theorem numGo_lt (l : List UInt8) : ∀ (f i n : Nat), Nm l i n → f = 10 - i → (numGo l f i n).1 < 2 ^ 64 := by
  intro f
  induction f with
  | zero => intro i n h _; show (0 : Nat) < _; decide
  | succ f ih =>
    intro i n h hf
    by_cases he : l.length ≤ i
    · rw [numGo_end he]; show (0 : Nat) < _; decide
    · by_cases hb : (byt l i = 0 ∧ 0 < i) ∨ (i = 9 ∧ byt l i ≠ 1)
      · rw [numGo_bad (by omega) hb]; show (0 : Nat) < _; decide
      · by_cases h1 : byt l i < 128
        · rw [numGo_last (by omega) hb h1]; exact (h.u64 hb).1
        · rw [numGo_more (by omega) hb h1]
          exact ih _ _ (h.more (by omega) hb h1) (by omega)
theorem num_lt (l : List UInt8) : (numS l).1 < 18446744073709551616 := numGo_lt l 10 0 0 (Nm.start l) rfl
/-- What reading a whole number comes to. -/
def WPost (l : List UInt8) (rb : Nat) (w : World) (e : Ending) (w' : World) : Prop :=
  ((numS l).2.2 = 0 ∧ e = .returned (.int .i64 (zagI (numS l).1)) ∧ (numS l).2.1 ≤ l.length ∧ Goes rb (numS l).2.1 w w') ∨
  ((numS l).2.2 ≠ 0 ∧ e = .panicked [{ v := faultV ((numS l).2.1 : Int) (numS l).2.2, recovered := false }] ∧ ∃ q, Goes rb q w w')
set_option maxRecDepth 100000 in
theorem whole_any {w : World} {rb : Nat} {A : Option Addr} {n cc : Nat} {l : List UInt8} (h : RD w rb A n cc l 0) (hn : (n : Int) ≤ 140737488351232) :
    Calls Tryz.prog 61 #[.pointer (some ⟨rb, 0, none⟩)] w (WPost l rb w) := by
  go_enter Tryz.func61, Tryz.ntmps61
  go_wp2_with fail
  refine (number_any h hn).mono ?_
  rintro e w2 (⟨h1, rfl, h3, h4⟩ | ⟨h1, rfl, q, h4⟩)
  · have hv := num_lt l
    have HG := Lib.hid h4
    clear h h4
    by_cases hp : (numS l).1 % 2 = 1
    · have a1 : bits .and .u64 ((numS l).1 : Int) 1 = 1 := by rw [and1 _ hv, hp]; rfl
      have X1 := Lib.hid (xorm1 (((numS l).1 : Int) / 2) (by omega) (by omega))
      have Z := Lib.hid (show zagI (numS l).1 = -(((numS l).1 / 2 : Nat) : Int) - 1 from if_pos hp)
      clear hp
      go_wp2_with fail
      go_ret
      exact .inl ⟨h1, ret_int (by rw [X1.out, Z.out]; omega), h3, HG.out⟩
    · have a1 : bits .and .u64 ((numS l).1 : Int) 1 = 0 := by rw [and1 _ hv, show (numS l).1 % 2 = 0 by omega]; rfl
      have X1 := Lib.hid (xor0 (((numS l).1 : Int) / 2) (by omega) (by omega))
      have Z := Lib.hid (show zagI (numS l).1 = (((numS l).1 / 2 : Nat) : Int) from if_neg hp)
      clear hp
      go_wp2_with fail
      go_ret
      exact .inl ⟨h1, ret_int (by rw [X1.out, Z.out]; omega), h3, HG.out⟩
  · exact ⟨rfl, .inr ⟨h1, rfl, q, h4⟩⟩
def strB (l : List UInt8) : ByteArray := ⟨l.toArray⟩
theorem rd_bytes {w : World} {b off n : Nat} {l : List UInt8} (hl : l.length = n) (h : ∀ j, j < n → w.cell? ⟨b, off + j, none⟩ = some (.int .u8 (byt l j : Int))) : Go.Lib.Bytes w b off (strB l) := fun i hi => by
  have hi' : i < l.length := hi
  rw [h i (by omega)]
  have : (strB l)[i].toNat = byt l i := by
    unfold byt
    rw [List.getD, List.getElem?_eq_getElem hi']; rfl
  exact congrArg (fun z : Nat => some (Value.int .u8 (z : Int))) this.symm
theorem ext_take (l : List UInt8) (p k : Nat) : (strB l).extract p (p + k) = strB ((l.drop p).take k) := by
  apply ByteArray.ext
  apply Array.toList_inj.1
  rw [Lib.extract_data]
  simp [strB]
set_option maxRecDepth 100000 in
set_option maxHeartbeats 2000000 in
theorem bytes_no {w : World} {rb : Nat} {A : Option Addr} {n cc : Nat} {l : List UInt8} {p : Nat} (h : RD w rb A n cc l p) (hn : (n : Int) ≤ 140737488351232) (k : Nat) (hk : n - p < k) :
    Calls Tryz.prog 64 #[.pointer (some ⟨rb, 0, none⟩), .int .u64 k] w (fun e w' => e = .panicked [{ v := faultV n 4, recovered := false }] ∧ Goes rb p w w') := by
  have c0 := h.c0
  have c1 := h.c1
  have le := h.le
  clear h
  have hw1 : IntKind.i64.wrap ((n : Int) - (p : Int)) = (n : Int) - (p : Int) := IntWalk.i64_in _ (by omega)
  have hw2 : IntKind.u64.wrap ((n : Int) - (p : Int)) = (n : Int) - (p : Int) := by rw [IntKind.wrap_u64]; omega
  have hd : decide ((n : Int) - (p : Int) < (k : Int)) = true := decide_eq_true (by omega)
  go_enter Tryz.func64, Tryz.ntmps64
  go_wp2_with fail
  go_quiet (fail)
  go_wp2_with fail
  refine (fail_any _ _ _).mono ?_
  rintro e w2 ⟨rfl, rfl⟩
  exact ⟨rfl, rfl, Goes.drew c1 _⟩
set_option maxRecDepth 100000 in
set_option maxHeartbeats 2000000 in
theorem bytes_some {w : World} {rb : Nat} {A : Option Addr} {n cc : Nat} {l : List UInt8} {p : Nat} (h : RD w rb A n cc l p) (hn : (n : Int) ≤ 140737488351232) (k : Nat) (hk : k ≤ n - p) (hk0 : 0 < k) :
    Calls Tryz.prog 64 #[.pointer (some ⟨rb, 0, none⟩), .int .u64 k] w (fun e w' => e = .returned (.string (strB ((l.drop p).take k))) ∧ Goes rb (p + k) w w') := by
  have c0 := h.c0
  have c1 := h.c1
  have le := h.le
  have fz := h.fz
  have hcap := h.cap
  have hcapb := h.capb
  have hlt := h.lt
  have hl := h.len
  obtain ⟨b, off, hA, hbl, hcell⟩ := h.bytes (by omega)
  have hne := h.ne (by omega) b off hA
  subst hA
  clear h
  have HL := Lib.hid hl
  have HCE := Lib.hid hcell
  clear hl hcell
  have hw1 : IntKind.i64.wrap ((n : Int) - (p : Int)) = (n : Int) - (p : Int) := IntWalk.i64_in _ (by omega)
  have hw2 : IntKind.u64.wrap ((n : Int) - (p : Int)) = (n : Int) - (p : Int) := by rw [IntKind.wrap_u64]; omega
  have hd : decide ((n : Int) - (p : Int) < (k : Int)) = false := decide_eq_false (by omega)
  have hw3 : IntKind.i64.wrap (k : Int) = (k : Int) := IntWalk.i64_in _ (by omega)
  have hw4 : IntKind.i64.wrap ((p : Int) + (k : Int)) = (p : Int) + (k : Int) := IntWalk.i64_in _ (by omega)
  have hw5 : IntKind.i64.wrap ((p : Int) + (k : Int) - (k : Int)) = (p : Int) := by rw [IntWalk.i64_in _ (by omega)]; omega
  go_enter Tryz.func64, Tryz.ntmps64
  go_wp2_with fail
  go_quiet (fail)
  generalize nq = n1
  go_wp2_with fail
  have d0 : ((w.drewN n1).setCell ⟨rb, 1, none⟩ (.int .i64 ((p : Int) + (k : Int)))).cell? ⟨rb, 0, none⟩ = some (.slice (some ⟨b, off, none⟩) n cc) := (World.cell?_setCell_other _ _ _ _ (by simp)).trans c0
  have d1 : ((w.drewN n1).setCell ⟨rb, 1, none⟩ (.int .i64 ((p : Int) + (k : Int)))).cell? ⟨rb, 1, none⟩ = some (.int .i64 ((p : Int) + (k : Int))) := World.cell?_setCell_same _ _ _ c1
  have hB : Go.Lib.Bytes ((w.drewN n1).setCell ⟨rb, 1, none⟩ (.int .i64 ((p : Int) + (k : Int)))) b off (strB l) := rd_bytes HL.out (fun j hj => (World.cell?_setCell_other _ _ _ _ (fun e => by injection e with e1 _ _; exact hne e1.symm)).trans (HCE.out j (by omega)))
  have hcv : ∀ q cap, (convert 25 9 (.slice (some ⟨b, off + p, none⟩) k cap)).run Tryz.prog (((w.drewN n1).setCell ⟨rb, 1, none⟩ (.int .i64 ((p : Int) + (k : Int)))).drewN q) = .ok (.string (strB ((l.drop p).take k))) (((w.drewN n1).setCell ⟨rb, 1, none⟩ (.int .i64 ((p : Int) + (k : Int)))).drewN q) := fun q cap => by
    have := Go.Lib.run_convert_window (P := Tryz.prog) _ 25 5 9 Tryz.underlying25 Tryz.underlying5 Tryz.underlying9 b off (strB l) (hB.drewN q) p k cap (by show p + k ≤ l.length; have := HL.out; omega)
    rw [ext_take] at this
    exact this
  have HB := Lib.hid hB
  clear hB
  have p1 : (0 : Int) ≤ (p : Int) := by omega
  have p2 : (p : Int) ≤ (p : Int) + (k : Int) := by omega
  have p3 : (p : Int) + (k : Int) ≤ (cc : Int) := by omega
  go_quiet (fail)
  go_wp2_with fail
  go_ret
  refine ⟨rfl, ?_⟩
  have g := Goes.store (p := p + k) (show (w.drewN n1).cell? ⟨rb, 1, none⟩ = some (.int .i64 (p : Int)) from c1)
  exact ((Goes.drew c1 n1).then g).then (Goes.drew g.2.2.2.2.2.2.1 _)
set_option maxRecDepth 100000 in
set_option maxHeartbeats 2000000 in
theorem bytes_zero {w : World} {rb : Nat} {A : Option Addr} {n cc : Nat} {l : List UInt8} {p : Nat} (h : RD w rb A n cc l p) (hn : (n : Int) ≤ 140737488351232) :
    Calls Tryz.prog 64 #[.pointer (some ⟨rb, 0, none⟩), .int .u64 0] w (fun e w' => e = .returned (.string (strB [])) ∧ Goes rb p w w') := by
  have c0 := h.c0
  have c1 := h.c1
  have le := h.le
  have fz := h.fz
  have hcap := h.cap
  have hcapb := h.capb
  have hlt := h.lt
  have hnil := Lib.hid h.nil
  clear h
  have hw1 : IntKind.i64.wrap ((n : Int) - (p : Int)) = (n : Int) - (p : Int) := IntWalk.i64_in _ (by omega)
  have hw2 : IntKind.u64.wrap ((n : Int) - (p : Int)) = (n : Int) - (p : Int) := by rw [IntKind.wrap_u64]; omega
  have hd : decide ((n : Int) - (p : Int) < 0) = false := decide_eq_false (by omega)
  have hcv : ∀ (q : Option Addr) (cap : Nat) (w : World), (convert 25 9 (.slice q 0 cap)).run Tryz.prog w = .ok (.string (strB [])) w := fun q cap w => by
    rw [run_convert_bytes_string w 25 9 5 q 0 cap Tryz.underlying25 Tryz.underlying5 Tryz.underlying9]
    cases q <;> simp [Conv.bytesToString, loadCells, go_sem] <;> rfl
  go_enter Tryz.func64, Tryz.ntmps64
  go_wp2_with fail
  go_quiet (fail)
  generalize nq = n1
  go_wp2_with fail
  have d0 : ((w.drewN n1).setCell ⟨rb, 1, none⟩ (.int .i64 (p : Int))).cell? ⟨rb, 0, none⟩ = some (.slice A n cc) := (World.cell?_setCell_other _ _ _ _ (by simp)).trans c0
  have d1 : ((w.drewN n1).setCell ⟨rb, 1, none⟩ (.int .i64 (p : Int))).cell? ⟨rb, 1, none⟩ = some (.int .i64 (p : Int)) := World.cell?_setCell_same _ _ _ c1
  have p1 : (0 : Int) ≤ (p : Int) := by omega
  have p3 : (p : Int) ≤ (cc : Int) := by omega
  have fin : ∀ q, Goes rb p w (((w.drewN n1).setCell ⟨rb, 1, none⟩ (.int .i64 (p : Int))).drewN q) := fun q => by
    have g := Goes.store (p := p) (show (w.drewN n1).cell? ⟨rb, 1, none⟩ = some (.int .i64 (p : Int)) from c1)
    exact ((Goes.drew c1 n1).then g).then (Goes.drew g.2.2.2.2.2.2.1 _)
  have FIN := Lib.hid fin
  clear fin
  cases A with
  | none =>
    have hcc := hnil.out rfl
    subst hcc
    have hn0 : n = 0 := by omega
    subst hn0
    have hp0 : p = 0 := by omega
    subst hp0
    go_quiet (fail)
    go_wp2_with fail
    go_ret
    exact ⟨rfl, FIN.out _⟩
  | some a =>
    by_cases hpc : p = cc
    · subst hpc
      go_quiet (fail)
      go_wp2_with fail
      go_ret
      exact ⟨rfl, FIN.out _⟩
    · have p4 : (p : Int) < (cc : Int) := by omega
      go_quiet (fail)
      go_wp2_with fail
      go_ret
      exact ⟨rfl, FIN.out _⟩
end Go.Proofs.YtefijgdbnjmifaaGreatDoor

/- The reader of bytes, walked: the next byte, a number, a whole number, a text's bytes, from any place on. Reading with what is caught: the closures that catch, walked. Printed by gen_nd.py. Reading with what is caught, walked. Printed by gen_nd.py. -/
import Derived.Test.YtaeophaecclnbaaGreatDoorBase
import Derived.Test.YtaeophaecclnbaaGreatDoorMgA
import Derived.Deep.QuietTactic
import Derived.BigQuiet
import Derived.Laws.Bits64b
import Derived.Laws.BitsLemmas
import Derived.Defers
import Derived.Recover
import Derived.Lib.SlBytesRow
import Derived.RegionTactic
namespace Go.Proofs.YtaeophaecclnbaaGreatDoor
open Go.RowKit

/-- What a reader gives up with. -/
def faultV (at_ : Int) (e : Int) : Value := .iface 143 (.agg #[.int .i64 at_, .int .i64 e])
def Fault (at_ : Int) (er : Int) (w : World) (e : Ending) (w' : World) : Prop := e = .panicked [{ v := faultV at_ er, recovered := false }] ∧ w = w'
theorem fail_any (at_ er : Int) (w : World) : Calls Tryz.prog 65 #[.int .i64 at_, .int .i64 er] w (Fault at_ er w) := by
  go_enter Tryz.func65, Tryz.ntmps65
  go_wp2
  exact ⟨rfl, rfl, rfl⟩
/-- A reader of the bytes at A: block rb; its place is p. -/
structure RD (w : World) (rb : Nat) (A : Option Addr) (n cc : Nat) (l : List UInt8) (p : Nat) : Prop where
  c0 : w.cell? ⟨rb, 0, none⟩ = some (.slice A n cc)
  c1 : w.cell? ⟨rb, 1, none⟩ = some (.int .i64 p)
  fz : w.frozen? ⟨rb, 1, none⟩ = false
  len : l.length = n
  le : p ≤ n
  bytes : Sl w 1 A n (fun j => .int .u8 (byt l j : Int))
  ne : 0 < n → ∀ b off, A = some ⟨b, off, none⟩ → b ≠ rb
  lt : rb < w.heap.size
  cap : n ≤ cc
  capb : cc ≤ 9223372036854775807
  nil : A = none → cc = 0
/-- The reader has gone on; else all is as it was. -/
def Goes (rb : Nat) (q : Nat) (w w' : World) : Prop := w'.os = w.os ∧ w'.tape = w.tape ∧ w'.output = w.output ∧ w'.heap.size = w.heap.size ∧ (∀ k, k ≠ rb → w'.heap[k]? = w.heap[k]?) ∧ w'.cell? ⟨rb, 0, none⟩ = w.cell? ⟨rb, 0, none⟩ ∧ w'.cell? ⟨rb, 1, none⟩ = some (.int .i64 q) ∧ w'.frozen? ⟨rb, 1, none⟩ = w.frozen? ⟨rb, 1, none⟩
theorem Goes.rd {w w' : World} {rb : Nat} {A : Option Addr} {n cc : Nat} {l : List UInt8} {p q : Nat} (g : Goes rb q w w') (h : RD w rb A n cc l p) (hq : q ≤ n) : RD w' rb A n cc l q where
  c0 := g.2.2.2.2.2.1.trans h.c0
  c1 := g.2.2.2.2.2.2.1
  fz := g.2.2.2.2.2.2.2.trans h.fz
  len := h.len
  le := hq
  bytes := fun hn => by
    obtain ⟨b, off, e, hlt, hc⟩ := h.bytes hn
    exact ⟨b, off, e, by rw [g.2.2.2.1]; exact hlt, fun j hj => (World.cell?_of_block (a := ⟨b, off + j, none⟩) (g.2.2.2.2.1 b (h.ne hn b off e))).trans (hc j hj)⟩
  ne := h.ne
  lt := by rw [g.2.2.2.1]; exact h.lt
  cap := h.cap
  capb := h.capb
  nil := h.nil
theorem Goes.then {w w1 w2 : World} {rb p q : Nat} (h : Goes rb p w w1) (k : Goes rb q w1 w2) : Goes rb q w w2 :=
  ⟨k.1.trans h.1, k.2.1.trans h.2.1, k.2.2.1.trans h.2.2.1, k.2.2.2.1.trans h.2.2.2.1, fun j hj => (k.2.2.2.2.1 j hj).trans (h.2.2.2.2.1 j hj), k.2.2.2.2.2.1.trans h.2.2.2.2.2.1, k.2.2.2.2.2.2.1, k.2.2.2.2.2.2.2.trans h.2.2.2.2.2.2.2⟩
theorem Goes.drew {w : World} {rb p : Nat} (h : w.cell? ⟨rb, 1, none⟩ = some (.int .i64 p)) (q : Nat) : Goes rb p w (w.drewN q) := by
  refine ⟨?_, ?_, ?_, ?_, fun k _ => ?_, ?_, ?_, ?_⟩
  all_goals first | rfl | (simp [World.drewN]; done) | exact h
theorem Goes.store {w : World} {rb p : Nat} {u : Value} (h : w.cell? ⟨rb, 1, none⟩ = some u) : Goes rb p w (w.setCell ⟨rb, 1, none⟩ (.int .i64 p)) :=
  ⟨rfl, rfl, rfl, by simp, fun k hk => heap_setCell_other _ _ k _ hk, World.cell?_setCell_other _ _ _ _ (by simp), World.cell?_setCell_same _ _ _ h, World.frozen?_setCell _ _ _ _⟩
set_option maxHeartbeats 1000000 in
theorem next_end {w : World} {rb : Nat} {A : Option Addr} {n cc : Nat} {l : List UInt8} {p : Nat} (h : RD w rb A n cc l p) (hp : p = n) (hn : (n : Int) ≤ 140737488351232) :
    Calls Tryz.prog 66 #[.pointer (some ⟨rb, 0, none⟩)] w (fun e w' => e = .panicked [{ v := faultV n 4, recovered := false }] ∧ Goes rb p w w') := by
  have c0 := h.c0
  have c1 := h.c1
  clear h
  subst hp
  have heq : ((p : Int) == (p : Int)) = true := beq_self_eq_true _
  go_enter Tryz.func66, Tryz.ntmps66
  go_wp2_with fail
  go_quiet (fail)
  go_wp2_with fail
  refine (fail_any _ _ _).mono ?_
  rintro e w2 ⟨rfl, rfl⟩
  exact ⟨rfl, rfl, Goes.drew c1 _⟩
theorem RD.at {w : World} {rb : Nat} {A : Option Addr} {n cc : Nat} {l : List UInt8} {p : Nat} (h : RD w rb A n cc l p) (hp : p < n) : ∃ b off, A = some ⟨b, off, none⟩ ∧ b ≠ rb ∧ b < w.heap.size ∧ w.cell? ⟨b, off + p, none⟩ = some (.int .u8 (byt l p : Int)) := by
  obtain ⟨b, off, e, hlt, hc⟩ := h.bytes (by omega)
  exact ⟨b, off, e, h.ne (by omega) b off e, hlt, hc p (by omega)⟩
set_option maxHeartbeats 1000000 in
theorem next_some {w : World} {rb : Nat} {A : Option Addr} {n cc : Nat} {l : List UInt8} {p : Nat} (h : RD w rb A n cc l p) (hp : p < n) (hn : (n : Int) ≤ 140737488351232) :
    Calls Tryz.prog 66 #[.pointer (some ⟨rb, 0, none⟩)] w (fun e w' => e = .returned (.int .u8 (byt l p : Int)) ∧ Goes rb (p + 1) w w') := by
  have c0 := h.c0
  have c1 := h.c1
  have fz := h.fz
  have hlt := h.lt
  obtain ⟨b, off, rfl, hne, hbl, hcell⟩ := h.at hp
  clear h
  have heq : ((p : Int) == (n : Int)) = false := beq_eq_false_iff_ne.2 (by omega)
  generalize byt l p = c at *
  go_enter Tryz.func66, Tryz.ntmps66
  go_wp2_with fail
  go_quiet (fail)
  generalize nq = n1
  go_wp2_with fail
  have d0 : ((w.drewN n1).setCell ⟨rb, 1, none⟩ (.int .i64 ((p : Int) + 1))).cell? ⟨rb, 0, none⟩ = some (.slice (some ⟨b, off, none⟩) n cc) := (World.cell?_setCell_other _ _ _ _ (by simp)).trans c0
  have d1 : ((w.drewN n1).setCell ⟨rb, 1, none⟩ (.int .i64 ((p : Int) + 1))).cell? ⟨rb, 1, none⟩ = some (.int .i64 ((p : Int) + 1)) := World.cell?_setCell_same _ _ _ c1
  have d2 : ((w.drewN n1).setCell ⟨rb, 1, none⟩ (.int .i64 ((p : Int) + 1))).cell? ⟨b, off + p, none⟩ = some (.int .u8 (c : Int)) := (World.cell?_setCell_other _ _ _ _ (fun e => by injection e with e1 _ _; exact hne e1.symm)).trans hcell
  have hw1 : IntKind.i64.wrap ((p : Int) + 1 - 1) = (p : Int) := by rw [IntWalk.i64_in _ (by omega)]; omega
  have hp0 : (0 : Int) ≤ (p : Int) := by omega
  have hp1 : (p : Int) < (n : Int) := by omega
  go_quiet (fail)
  go_wp2_with fail
  go_ret
  refine ⟨rfl, ?_⟩
  have g := Goes.store (p := p + 1) (show (w.drewN n1).cell? ⟨rb, 1, none⟩ = some (.int .i64 (p : Int)) from c1)
  exact ((Goes.drew c1 n1).then g).then (Goes.drew g.2.2.2.2.2.2.1 _)
theorem wrap_u64_nat (x : Nat) (h : x < 2 ^ 64) : IntKind.u64.wrap (x : Int) = (x : Int) := by
  rw [IntKind.wrap_u64]
  have : (x : Int) < 18446744073709551616 := by have e : (2 : Nat) ^ 64 = 18446744073709551616 := by decide
                                                rw [e] at h; omega
  omega
theorem and127 (c : Nat) (h : c < 256) : bits .and .u8 (c : Int) 127 = ((c % 128 : Nat) : Int) := by
  have := (bits_nat .u8 8 (by decide) wraps_u8 c 127 (by omega) (by omega)).1
  rw [show c &&& 127 = c % 128 from Nat.and_two_pow_sub_one_eq_mod c 7] at this
  exact this
theorem num_step {l : List UInt8} {k acc : Nat} (h : Nm l k acc) (hb : ¬ ((byt l k = 0 ∧ 0 < k) ∨ (k = 9 ∧ byt l k ≠ 1))) :
    bits .or .u64 (acc : Int) (IntKind.u64.wrap (IntKind.u64.wrap (bits .and .u8 (byt l k : Int) 127) * 2 ^ (7 * k))) = ((acc + byt l k % 128 * 2 ^ (7 * k) : Nat) : Int) := by
  have hc := byt_lt l k
  obtain ⟨u1, u2⟩ := h.u64 hb
  have hm : byt l k % 128 < 2 ^ 64 := Nat.lt_of_lt_of_le (Nat.mod_lt _ (by omega)) (by decide)
  rw [and127 _ hc, wrap_u64_nat _ hm, show (((byt l k % 128 : Nat) : Int) * 2 ^ (7 * k)) = ((byt l k % 128 * 2 ^ (7 * k) : Nat) : Int) by simp, wrap_u64_nat _ u2]
  have e : (2 : Nat) ^ 64 = 18446744073709551616 := by decide
  rw [e] at u1 u2
  rw [bits_or_u64_nat _ _ (by omega) u2, h.or]
/-- What reading a number comes to, from a place on. -/
def NPost (l : List UInt8) (p : Nat) (rb : Nat) (w : World) (e : Ending) (w' : World) : Prop :=
  ((numS (l.drop p)).2.2 = 0 ∧ e = .returned (.int .u64 ((numS (l.drop p)).1 : Int)) ∧ p + (numS (l.drop p)).2.1 ≤ l.length ∧ Goes rb (p + (numS (l.drop p)).2.1) w w') ∨
  ((numS (l.drop p)).2.2 ≠ 0 ∧ e = .panicked [{ v := faultV ((p + (numS (l.drop p)).2.1 : Nat) : Int) (numS (l.drop p)).2.2, recovered := false }] ∧ ∃ q, Goes rb q w w')
set_option maxRecDepth 100000 in
set_option maxHeartbeats 4000000 in
theorem number_any {w : World} {rb : Nat} {A : Option Addr} {n cc : Nat} {l : List UInt8} {p : Nat} (h : RD w rb A n cc l p) (hn : (n : Int) ≤ 140737488351232) :
    Calls Tryz.prog 37 #[.pointer (some ⟨rb, 0, none⟩)] w (NPost l p rb w) := by
  have H := Lib.hid h
  have HL := Lib.hid h.len
  have hpn := h.le
  clear h
  unfold NPost
  have hbm : ∀ k, byt l (p + k) = byt (l.drop p) k := fun k => (byt_drop l p k).symm
  have HM := Lib.hid (show (l.drop p).length = n - p by rw [List.length_drop, HL.out])
  generalize l.drop p = m at *
  go_enter Tryz.func37, Tryz.ntmps37
  go_wp2_with fail
  go_loopw [3, 4, 5] (fun a i _ wr => ∃ (k acc : Nat), i = .int .i64 k ∧ a = .int .u64 acc ∧ p + k ≤ n ∧ Nm m k acc ∧ Goes rb (p + k) w wr) (fun _ i _ _ => 10 - (intOf i).toNat)
  case atStart => exact ⟨0, 0, rfl, rfl, hpn, Nm.start m, Goes.drew H.out.c1 0⟩
  case round =>
    obtain ⟨k, acc, rfl, rfl, hkn, hnm, hg⟩ := hrel
    have hle := hnm.le
    have NM := Lib.hid hnm
    have G := Lib.hid hg
    have RR := Lib.hid (hg.rd H.out hkn)
    clear hnm hg
    by_cases hlt : p + k < n
    · have BL := byt_lt m k
      have ULT := Lib.hid (fun hb => NM.out.u64 hb)
      go_wp2_with fail
      refine (next_some RR.out hlt hn).mono ?_
      rw [hbm k]
      rintro e w2 ⟨rfl, hg2⟩
      have G2 := Lib.hid (G.out.then hg2)
      have c1 := hg2.2.2.2.2.2.2.1
      clear hg2
      have e9 : ((k : Int) == 9) = decide (k = 9) := by
        by_cases h9 : k = 9
        · subst h9; rfl
        · rw [decide_eq_false h9]; exact beq_eq_false_iff_ne.2 (by omega)
      have ML : k < m.length := by have := HM.out; omega
      clear hbm
      by_cases hbad : (byt m k = 0 ∧ 0 < k) ∨ (k = 9 ∧ byt m k ≠ 1)
      · have E := Lib.hid (NM.out.bad ML hbad)
        have hw : IntKind.i64.wrap (((p + k + 1 : Nat) : Int) - 1) = ((p + k : Nat) : Int) := by rw [IntWalk.i64_in _ (by omega)]; omega
        clear e9
        generalize byt m k = c at *
        go_wp2_with (go_at_call 65; refine (fail_any _ _ _).mono ?_; rintro e w3 ⟨rfl, rfl⟩)
        all_goals
          refine ⟨rfl, .inr ?_⟩
          rw [E.out]
          first
            | exact ⟨by simp, rfl, p + k + 1, G2.out⟩
            | (obtain rfl : k = 9 := by omega
               exact ⟨by simp, rfl, _, G2.out⟩)
      · have ST := Lib.hid (num_step NM.out hbad)
        have LA := Lib.hid (fun h => NM.out.last ML hbad h)
        have MO := Lib.hid (fun h => NM.out.more ML hbad h)
        clear e9
        by_cases h0 : byt m k = 0
        · have hk0 : k = 0 := by omega
          subst hk0
          have ha0 : acc = 0 := by have := NM.out.lt; simpa using this
          subst ha0
          have LA2 := Lib.hid (LA.out (by omega))
          rw [h0] at LA2 ⊢
          clear h0 hbad ULT ST LA MO BL
          go_wp2_with fail
          go_ret
          refine .inl ?_
          rw [LA2.out]
          exact ⟨rfl, ret_int (by decide), by have := HL.out; show p + (0 + 1) ≤ l.length; omega, G2.out⟩
        · have hne : ((byt m k : Int) == 0) = false := beq_eq_false_iff_ne.2 (by omega)
          by_cases h128 : byt m k < 128
          · have LA2 := Lib.hid (LA.out h128)
            generalize byt m k = c at *
            go_wp2_with fail
            all_goals first
              | (exfalso; omega)
              | (go_ret
                 refine .inl ?_
                 rw [LA2.out]
                 exact ⟨rfl, ret_int ST.out, by have := HL.out; show p + (k + 1) ≤ l.length; omega, G2.out⟩)
              | (obtain rfl : k = 9 := by omega
                 go_ret
                 refine .inl ?_
                 rw [LA2.out]
                 exact ⟨rfl, ret_int ST.out, by have := HL.out; show p + (9 + 1) ≤ l.length; omega, G2.out⟩)
          · have MO2 := Lib.hid (MO.out h128)
            have hk9 : k ≠ 9 := by omega
            have hk9b : ((k : Int) == 9) = false := beq_eq_false_iff_ne.2 (by omega)
            generalize byt m k = c at *
            clear hk9
            go_wp2_with fail
            go_roundw
            case rel => exact ⟨k + 1, _, by go_num, int_eq ST.out, by omega, MO2.out, G2.out⟩
            case measure => simp [intOf]; omega
    · have E := Lib.hid (NM.out.ended (by have := HM.out; omega))
      go_wp2_with fail
      refine (next_end RR.out (by omega) hn).mono ?_
      rintro e w2 ⟨rfl, hg2⟩
      refine ⟨rfl, .inr ?_⟩
      rw [E.out]
      exact ⟨by simp, by rw [HM.out, show p + (n - p) = n by omega], p + k, G.out.then hg2⟩
theorem and1 (v : Nat) (h : v < 18446744073709551616) : bits .and .u64 (v : Int) 1 = ((v % 2 : Nat) : Int) := by
  have := bits_and_u64_nat v 1 h (by omega)
  rw [show v &&& 1 = v % 2 from Nat.and_two_pow_sub_one_eq_mod v 1] at this
  exact this
theorem xor0 (x : Int) (h0 : -9223372036854775808 ≤ x) (h1 : x ≤ 9223372036854775807) : bits .xor .i64 x 0 = x := by
  have e : BitVec.ofInt 64 x ^^^ BitVec.ofInt 64 0 = BitVec.ofInt 64 x := by simp
  show IntKind.i64.wrap ((BitVec.ofInt 64 x ^^^ BitVec.ofInt 64 0).toNat : Int) = x
  rw [e, BitVec.toNat_ofInt, IntKind.wrap_i64]
  omega
theorem xorm1 (x : Int) (h0 : -9223372036854775808 ≤ x) (h1 : x ≤ 9223372036854775807) : bits .xor .i64 x (-1) = -x - 1 := by
  have e : BitVec.ofInt 64 x ^^^ BitVec.ofInt 64 (-1) = ~~~ (BitVec.ofInt 64 x) := by
    have : BitVec.ofInt 64 (-1) = BitVec.allOnes 64 := by decide
    rw [this, BitVec.xor_allOnes]
  show IntKind.i64.wrap ((BitVec.ofInt 64 x ^^^ BitVec.ofInt 64 (-1)).toNat : Int) = -x - 1
  rw [e, BitVec.toNat_not, BitVec.toNat_ofInt, IntKind.wrap_i64]
  omega
/-- What reading a whole number comes to. -/
def WPost (l : List UInt8) (p : Nat) (rb : Nat) (w : World) (e : Ending) (w' : World) : Prop :=
  ((numS (l.drop p)).2.2 = 0 ∧ e = .returned (.int .i64 (zagI (numS (l.drop p)).1)) ∧ p + (numS (l.drop p)).2.1 ≤ l.length ∧ Goes rb (p + (numS (l.drop p)).2.1) w w') ∨
  ((numS (l.drop p)).2.2 ≠ 0 ∧ e = .panicked [{ v := faultV ((p + (numS (l.drop p)).2.1 : Nat) : Int) (numS (l.drop p)).2.2, recovered := false }] ∧ ∃ q, Goes rb q w w')
set_option maxRecDepth 100000 in
theorem whole_any {w : World} {rb : Nat} {A : Option Addr} {n cc : Nat} {l : List UInt8} {p : Nat} (h : RD w rb A n cc l p) (hn : (n : Int) ≤ 140737488351232) :
    Calls Tryz.prog 39 #[.pointer (some ⟨rb, 0, none⟩)] w (WPost l p rb w) := by
  go_enter Tryz.func39, Tryz.ntmps39
  go_wp2_with fail
  refine (number_any h hn).mono ?_
  rintro e w2 (⟨h1, rfl, h3, h4⟩ | ⟨h1, rfl, q, h4⟩)
  · have hv := num_lt (l.drop p)
    have HG := Lib.hid h4
    clear h h4
    by_cases hp : (numS (l.drop p)).1 % 2 = 1
    · have a1 : bits .and .u64 ((numS (l.drop p)).1 : Int) 1 = 1 := by rw [and1 _ hv, hp]; rfl
      have X1 := Lib.hid (xorm1 (((numS (l.drop p)).1 : Int) / 2) (by omega) (by omega))
      have Z := Lib.hid (show zagI (numS (l.drop p)).1 = -(((numS (l.drop p)).1 / 2 : Nat) : Int) - 1 from if_pos hp)
      clear hp
      go_wp2_with fail
      go_ret
      exact .inl ⟨h1, ret_int (by rw [X1.out, Z.out]; omega), h3, HG.out⟩
    · have a1 : bits .and .u64 ((numS (l.drop p)).1 : Int) 1 = 0 := by rw [and1 _ hv, show (numS (l.drop p)).1 % 2 = 0 by omega]; rfl
      have X1 := Lib.hid (xor0 (((numS (l.drop p)).1 : Int) / 2) (by omega) (by omega))
      have Z := Lib.hid (show zagI (numS (l.drop p)).1 = (((numS (l.drop p)).1 / 2 : Nat) : Int) from if_neg hp)
      clear hp
      go_wp2_with fail
      go_ret
      exact .inl ⟨h1, ret_int (by rw [X1.out, Z.out]; omega), h3, HG.out⟩
  · exact ⟨rfl, .inr ⟨h1, rfl, q, h4⟩⟩
theorem rd_bytes {w : World} {b off n : Nat} {l : List UInt8} (hl : l.length = n) (h : ∀ j, j < n → w.cell? ⟨b, off + j, none⟩ = some (.int .u8 (byt l j : Int))) : Go.Lib.Bytes w b off (strB l) := fun i hi => by
  have hi' : i < l.length := hi
  rw [h i (by omega)]
  have : (strB l)[i].toNat = byt l i := by
    unfold byt
    rw [List.getD, List.getElem?_eq_getElem hi']; rfl
  exact congrArg (fun z : Nat => some (Value.int .u8 (z : Int))) this.symm
set_option maxRecDepth 100000 in
set_option maxHeartbeats 2000000 in
theorem bytes_no {w : World} {rb : Nat} {A : Option Addr} {n cc : Nat} {l : List UInt8} {p : Nat} (h : RD w rb A n cc l p) (hn : (n : Int) ≤ 140737488351232) (k : Nat) (hk : n - p < k) :
    Calls Tryz.prog 36 #[.pointer (some ⟨rb, 0, none⟩), .int .u64 k] w (fun e w' => e = .panicked [{ v := faultV n 4, recovered := false }] ∧ Goes rb p w w') := by
  have c0 := h.c0
  have c1 := h.c1
  have le := h.le
  clear h
  have hw1 : IntKind.i64.wrap ((n : Int) - (p : Int)) = (n : Int) - (p : Int) := IntWalk.i64_in _ (by omega)
  have hw2 : IntKind.u64.wrap ((n : Int) - (p : Int)) = (n : Int) - (p : Int) := by rw [IntKind.wrap_u64]; omega
  have hd : decide ((n : Int) - (p : Int) < (k : Int)) = true := decide_eq_true (by omega)
  go_enter Tryz.func36, Tryz.ntmps36
  go_wp2_with fail
  go_quiet (fail)
  go_wp2_with fail
  refine (fail_any _ _ _).mono ?_
  rintro e w2 ⟨rfl, rfl⟩
  exact ⟨rfl, rfl, Goes.drew c1 _⟩
set_option maxRecDepth 100000 in
set_option maxHeartbeats 2000000 in
theorem bytes_some {w : World} {rb : Nat} {A : Option Addr} {n cc : Nat} {l : List UInt8} {p : Nat} (h : RD w rb A n cc l p) (hn : (n : Int) ≤ 140737488351232) (k : Nat) (hk : k ≤ n - p) (hk0 : 0 < k) :
    Calls Tryz.prog 36 #[.pointer (some ⟨rb, 0, none⟩), .int .u64 k] w (fun e w' => e = .returned (.string (strB ((l.drop p).take k))) ∧ Goes rb (p + k) w w') := by
  have c0 := h.c0
  have c1 := h.c1
  have le := h.le
  have fz := h.fz
  have hcap := h.cap
  have hcapb := h.capb
  have hlt := h.lt
  have hl := h.len
  obtain ⟨b, off, hA, hbl, hcell⟩ := h.bytes (by omega)
  have hne := h.ne (by omega) b off hA
  subst hA
  clear h
  have HL := Lib.hid hl
  have HCE := Lib.hid hcell
  clear hl hcell
  have hw1 : IntKind.i64.wrap ((n : Int) - (p : Int)) = (n : Int) - (p : Int) := IntWalk.i64_in _ (by omega)
  have hw2 : IntKind.u64.wrap ((n : Int) - (p : Int)) = (n : Int) - (p : Int) := by rw [IntKind.wrap_u64]; omega
  have hd : decide ((n : Int) - (p : Int) < (k : Int)) = false := decide_eq_false (by omega)
  have hw3 : IntKind.i64.wrap (k : Int) = (k : Int) := IntWalk.i64_in _ (by omega)
  have hw4 : IntKind.i64.wrap ((p : Int) + (k : Int)) = (p : Int) + (k : Int) := IntWalk.i64_in _ (by omega)
  have hw5 : IntKind.i64.wrap ((p : Int) + (k : Int) - (k : Int)) = (p : Int) := by rw [IntWalk.i64_in _ (by omega)]; omega
  go_enter Tryz.func36, Tryz.ntmps36
  go_wp2_with fail
  go_quiet (fail)
  generalize nq = n1
  go_wp2_with fail
  have d0 : ((w.drewN n1).setCell ⟨rb, 1, none⟩ (.int .i64 ((p : Int) + (k : Int)))).cell? ⟨rb, 0, none⟩ = some (.slice (some ⟨b, off, none⟩) n cc) := (World.cell?_setCell_other _ _ _ _ (by simp)).trans c0
  have d1 : ((w.drewN n1).setCell ⟨rb, 1, none⟩ (.int .i64 ((p : Int) + (k : Int)))).cell? ⟨rb, 1, none⟩ = some (.int .i64 ((p : Int) + (k : Int))) := World.cell?_setCell_same _ _ _ c1
  have hB : Go.Lib.Bytes ((w.drewN n1).setCell ⟨rb, 1, none⟩ (.int .i64 ((p : Int) + (k : Int)))) b off (strB l) := rd_bytes HL.out (fun j hj => (World.cell?_setCell_other _ _ _ _ (fun e => by injection e with e1 _ _; exact hne e1.symm)).trans (HCE.out j (by omega)))
  have hcv : ∀ q cap, (convert 34 9 (.slice (some ⟨b, off + p, none⟩) k cap)).run Tryz.prog (((w.drewN n1).setCell ⟨rb, 1, none⟩ (.int .i64 ((p : Int) + (k : Int)))).drewN q) = .ok (.string (strB ((l.drop p).take k))) (((w.drewN n1).setCell ⟨rb, 1, none⟩ (.int .i64 ((p : Int) + (k : Int)))).drewN q) := fun q cap => by
    have := Go.Lib.run_convert_window (P := Tryz.prog) _ 34 5 9 Tryz.underlying34 Tryz.underlying5 Tryz.underlying9 b off (strB l) (hB.drewN q) p k cap (by show p + k ≤ l.length; have := HL.out; omega)
    rw [ext_take] at this
    exact this
  have HB := Lib.hid hB
  clear hB
  have p1 : (0 : Int) ≤ (p : Int) := by omega
  have p2 : (p : Int) ≤ (p : Int) + (k : Int) := by omega
  have p3 : (p : Int) + (k : Int) ≤ (cc : Int) := by omega
  go_quiet (fail)
  go_wp2_with fail
  go_ret
  refine ⟨rfl, ?_⟩
  have g := Goes.store (p := p + k) (show (w.drewN n1).cell? ⟨rb, 1, none⟩ = some (.int .i64 (p : Int)) from c1)
  exact ((Goes.drew c1 n1).then g).then (Goes.drew g.2.2.2.2.2.2.1 _)
set_option maxRecDepth 100000 in
set_option maxHeartbeats 2000000 in
theorem bytes_zero {w : World} {rb : Nat} {A : Option Addr} {n cc : Nat} {l : List UInt8} {p : Nat} (h : RD w rb A n cc l p) (hn : (n : Int) ≤ 140737488351232) :
    Calls Tryz.prog 36 #[.pointer (some ⟨rb, 0, none⟩), .int .u64 0] w (fun e w' => e = .returned (.string (strB [])) ∧ Goes rb p w w') := by
  have c0 := h.c0
  have c1 := h.c1
  have le := h.le
  have fz := h.fz
  have hcap := h.cap
  have hcapb := h.capb
  have hlt := h.lt
  have hnil := Lib.hid h.nil
  clear h
  have hw1 : IntKind.i64.wrap ((n : Int) - (p : Int)) = (n : Int) - (p : Int) := IntWalk.i64_in _ (by omega)
  have hw2 : IntKind.u64.wrap ((n : Int) - (p : Int)) = (n : Int) - (p : Int) := by rw [IntKind.wrap_u64]; omega
  have hd : decide ((n : Int) - (p : Int) < 0) = false := decide_eq_false (by omega)
  have hcv : ∀ (q : Option Addr) (cap : Nat) (w : World), (convert 34 9 (.slice q 0 cap)).run Tryz.prog w = .ok (.string (strB [])) w := fun q cap w => by
    rw [run_convert_bytes_string w 34 9 5 q 0 cap Tryz.underlying34 Tryz.underlying5 Tryz.underlying9]
    cases q <;> simp [Conv.bytesToString, loadCells, go_sem] <;> rfl
  go_enter Tryz.func36, Tryz.ntmps36
  go_wp2_with fail
  go_quiet (fail)
  generalize nq = n1
  go_wp2_with fail
  have d0 : ((w.drewN n1).setCell ⟨rb, 1, none⟩ (.int .i64 (p : Int))).cell? ⟨rb, 0, none⟩ = some (.slice A n cc) := (World.cell?_setCell_other _ _ _ _ (by simp)).trans c0
  have d1 : ((w.drewN n1).setCell ⟨rb, 1, none⟩ (.int .i64 (p : Int))).cell? ⟨rb, 1, none⟩ = some (.int .i64 (p : Int)) := World.cell?_setCell_same _ _ _ c1
  have p1 : (0 : Int) ≤ (p : Int) := by omega
  have p3 : (p : Int) ≤ (cc : Int) := by omega
  have fin : ∀ q, Goes rb p w (((w.drewN n1).setCell ⟨rb, 1, none⟩ (.int .i64 (p : Int))).drewN q) := fun q => by
    have g := Goes.store (p := p) (show (w.drewN n1).cell? ⟨rb, 1, none⟩ = some (.int .i64 (p : Int)) from c1)
    exact ((Goes.drew c1 n1).then g).then (Goes.drew g.2.2.2.2.2.2.1 _)
  have FIN := Lib.hid fin
  clear fin
  cases A with
  | none =>
    have hcc := hnil.out rfl
    subst hcc
    have hn0 : n = 0 := by omega
    subst hn0
    have hp0 : p = 0 := by omega
    subst hp0
    go_quiet (fail)
    go_wp2_with fail
    go_ret
    exact ⟨rfl, FIN.out _⟩
  | some a =>
    by_cases hpc : p = cc
    · subst hpc
      go_quiet (fail)
      go_wp2_with fail
      go_ret
      exact ⟨rfl, FIN.out _⟩
    · have p4 : (p : Int) < (cc : Int) := by omega
      go_quiet (fail)
      go_wp2_with fail
      go_ret
      exact ⟨rfl, FIN.out _⟩
end Go.Proofs.YtaeophaecclnbaaGreatDoor
namespace Go.Proofs.YtaeophaecclnbaaGreatDoor
open Go.RowKit

/-- What the closure lays: the three results. -/
def CaughtP (a b c : Nat) (v : Value) (pos er : Int) (w w' : World) : Prop :=
  w'.os = w.os ∧ w'.tape = w.tape ∧ w'.output = w.output ∧ w.heap.size ≤ w'.heap.size ∧ (∀ k, k < w.heap.size → k ≠ a → k ≠ b → k ≠ c → w'.heap[k]? = w.heap[k]?) ∧
    w'.cell? ⟨a, 0, none⟩ = some v ∧ w'.cell? ⟨b, 0, none⟩ = some (.int .i64 pos) ∧ w'.cell? ⟨c, 0, none⟩ = some (.int .i64 er)
def QC (a b c : Nat) (v : Value) (pos er : Int) (w : World) (e : Exit) (x : Act) (w' : World) : Prop := e = .normal ∧ x.defers = [] ∧ CaughtP a b c v pos er w w'
theorem cpost_of {w : World} {a b c : Nat} {x y z : Value} (ha : w.cell? ⟨a, 0, none⟩ = some x) (hb : w.cell? ⟨b, 0, none⟩ = some y) (hc : w.cell? ⟨c, 0, none⟩ = some z) (hab : a ≠ b) (hac : a ≠ c) (hbc : b ≠ c) (v : Value) (pos er : Int) (o : Obj) :
    CaughtP a b c v pos er w ((((w.setCell ⟨a, 0, none⟩ v).setCell ⟨b, 0, none⟩ (.int .i64 pos)).setCell ⟨c, 0, none⟩ (.int .i64 er)).alloc o).drew := by
  have la : a < w.heap.size := World.block_lt_of_cell? w _ ha
  have lb : b < w.heap.size := World.block_lt_of_cell? w _ hb
  have lc : c < w.heap.size := World.block_lt_of_cell? w _ hc
  have nab : (⟨b, 0, none⟩ : Addr) ≠ ⟨a, 0, none⟩ := fun e => by injection e with e1 _ _; exact hab e1.symm
  have nac : (⟨c, 0, none⟩ : Addr) ≠ ⟨a, 0, none⟩ := fun e => by injection e with e1 _ _; exact hac e1.symm
  have nbc : (⟨c, 0, none⟩ : Addr) ≠ ⟨b, 0, none⟩ := fun e => by injection e with e1 _ _; exact hbc e1.symm
  have hs : (((w.setCell ⟨a, 0, none⟩ v).setCell ⟨b, 0, none⟩ (.int .i64 pos)).setCell ⟨c, 0, none⟩ (.int .i64 er)).heap.size = w.heap.size := by simp
  have B : Below w.heap.size (((w.setCell ⟨a, 0, none⟩ v).setCell ⟨b, 0, none⟩ (.int .i64 pos)).setCell ⟨c, 0, none⟩ (.int .i64 er)) ((((w.setCell ⟨a, 0, none⟩ v).setCell ⟨b, 0, none⟩ (.int .i64 pos)).setCell ⟨c, 0, none⟩ (.int .i64 er)).alloc o).drew :=
    ((Below.refl _ _).alloc (by rw [hs]; exact Nat.le_refl _) o).drew
  refine ⟨B.os, B.tape, B.output, by have := B.size; rw [hs] at this; exact this, fun k hk h1 h2 h3 => ?_, ?_, ?_, ?_⟩
  · rw [B.block k hk, heap_setCell_other _ _ k _ h3, heap_setCell_other _ _ k _ h2, heap_setCell_other _ _ k _ h1]
  · rw [B.cell (p := ⟨a, 0, none⟩) la, World.cell?_setCell_other _ _ _ _ nac, World.cell?_setCell_other _ _ _ _ nab]
    exact World.cell?_setCell_same _ _ _ ha
  · rw [B.cell (p := ⟨b, 0, none⟩) lb, World.cell?_setCell_other _ _ _ _ nbc]
    exact World.cell?_setCell_same _ _ _ ((World.cell?_setCell_other _ _ _ _ (fun e => nab e.symm)).trans hb)
  · rw [B.cell (p := ⟨c, 0, none⟩) lc]
    exact World.cell?_setCell_same _ _ _ ((World.cell?_setCell_other _ _ _ _ (fun e => nbc e.symm)).trans ((World.cell?_setCell_other _ _ _ _ (fun e => nac e.symm)).trans hc))
set_option maxRecDepth 100000 in
theorem catch_p_uint64 (a b c : Nat) (hab : a ≠ b) (hac : a ≠ c) (hbc : b ≠ c) (pos er : Int) (older : List PanicEntry) (w : World) (x y z : Value) (ha : w.cell? ⟨a, 0, none⟩ = some x) (hb : w.cell? ⟨b, 0, none⟩ = some y) (hc : w.cell? ⟨c, 0, none⟩ = some z)
    (fa : w.frozen? ⟨a, 0, none⟩ = false) (fb : w.frozen? ⟨b, 0, none⟩ = false) (fc : w.frozen? ⟨c, 0, none⟩ = false) :
    CallsD Tryz.prog 153 #[.pointer (some ⟨a, 0, none⟩), .pointer (some ⟨b, 0, none⟩), .pointer (some ⟨c, 0, none⟩)] (.panicking ({ v := faultV pos er, recovered := false } :: older)) w fun e u' w' =>
      e = .returned (.tuple #[]) ∧ u' = .panicking ({ v := faultV pos er, recovered := true } :: older) ∧ CaughtP a b c (.int .u64 0) pos er w w' := by
  have hta : ∀ w, (Instr.typeAssert (faultV pos er) 20 143 true).run Tryz.prog w = .ok (.tuple #[.agg #[.int .i64 pos, .int .i64 er], .bool true]) w := fun _ => by unfold faultV; kernel_rfl
  refine callsD_of_wpS Tryz.func153 rfl fun c₀ cs hu => ?_
  apply wpS_seq
  apply wpS_region
  simp [wpOpsS, go_sem, recoverD, hu, Tryz.ntmps153, Exit.thenS, hta]
  refine wpS_of_wp ?_
  refine wp_mono (Q := QC a b c (.int .u64 0) pos er w) ?_ ?_
  rotate_left
  · rintro e a' w' ⟨rfl, h2, h3⟩
    cases c₀
    simp_all [bodyPostS, results, Tryz.results153]
  have la : a < w.heap.size := World.block_lt_of_cell? w _ ha
  have lb : b < w.heap.size := World.block_lt_of_cell? w _ hb
  have lc : c < w.heap.size := World.block_lt_of_cell? w _ hc
  clear hu hta
  rw [show Array.replicate 14 undef = #[undef, undef, undef, undef, undef, undef, undef, undef, undef, undef, undef, undef, undef, undef] from rfl]
  simp only [List.setIfInBounds_toArray, List.set_cons_succ, List.set_cons_zero, List.append_toArray, List.cons_append, List.nil_append]
  go_wp2_with fail
  have na : a ≠ w.heap.size := by omega
  have nb : b ≠ w.heap.size := by omega
  have nc : c ≠ w.heap.size := by omega
  go_region
  exact ⟨rfl, rfl, cpost_of ha hb hc hab hac hbc _ _ _ _⟩
set_option maxRecDepth 100000 in
theorem catch_r_uint64 (p q r : Value) (w : World) :
    CallsD Tryz.prog 153 #[p, q, r] .returning w fun e u' w' => e = .returned (.tuple #[]) ∧ u' = .returning ∧ w' = w.alloc (.cells #[.int .i64 0, .int .i64 0] 143) := by
  have hta : ∀ w, (Instr.typeAssert .nilIface 20 143 true).run Tryz.prog w = .ok (.tuple #[.agg #[.int .i64 0, .int .i64 0], .bool false]) w := fun _ => by kernel_rfl
  refine callsD_of_wpS Tryz.func153 rfl fun c₀ cs hu => ?_
  apply wpS_seq
  apply wpS_region
  simp [wpOpsS, go_sem, recoverD, hu, Tryz.ntmps153, Exit.thenS, hta]
  apply wpS_seq
  apply wpS_region
  simp [wpOpsS, go_sem, Exit.thenS]
  refine wpS_cond (t := false) (by simp [Act.eval, Array.replicate]) ?_
  simp only [Bool.false_eq_true, if_false]
  refine wpS_of_wp (wp_skip ?_)
  cases c₀
  simp_all [bodyPostS, results, Tryz.results153]
set_option maxRecDepth 100000 in
theorem catch_p_int64 (a b c : Nat) (hab : a ≠ b) (hac : a ≠ c) (hbc : b ≠ c) (pos er : Int) (older : List PanicEntry) (w : World) (x y z : Value) (ha : w.cell? ⟨a, 0, none⟩ = some x) (hb : w.cell? ⟨b, 0, none⟩ = some y) (hc : w.cell? ⟨c, 0, none⟩ = some z)
    (fa : w.frozen? ⟨a, 0, none⟩ = false) (fb : w.frozen? ⟨b, 0, none⟩ = false) (fc : w.frozen? ⟨c, 0, none⟩ = false) :
    CallsD Tryz.prog 67 #[.pointer (some ⟨a, 0, none⟩), .pointer (some ⟨b, 0, none⟩), .pointer (some ⟨c, 0, none⟩)] (.panicking ({ v := faultV pos er, recovered := false } :: older)) w fun e u' w' =>
      e = .returned (.tuple #[]) ∧ u' = .panicking ({ v := faultV pos er, recovered := true } :: older) ∧ CaughtP a b c (.int .i64 0) pos er w w' := by
  have hta : ∀ w, (Instr.typeAssert (faultV pos er) 20 143 true).run Tryz.prog w = .ok (.tuple #[.agg #[.int .i64 pos, .int .i64 er], .bool true]) w := fun _ => by unfold faultV; kernel_rfl
  refine callsD_of_wpS Tryz.func67 rfl fun c₀ cs hu => ?_
  apply wpS_seq
  apply wpS_region
  simp [wpOpsS, go_sem, recoverD, hu, Tryz.ntmps67, Exit.thenS, hta]
  refine wpS_of_wp ?_
  refine wp_mono (Q := QC a b c (.int .i64 0) pos er w) ?_ ?_
  rotate_left
  · rintro e a' w' ⟨rfl, h2, h3⟩
    cases c₀
    simp_all [bodyPostS, results, Tryz.results67]
  have la : a < w.heap.size := World.block_lt_of_cell? w _ ha
  have lb : b < w.heap.size := World.block_lt_of_cell? w _ hb
  have lc : c < w.heap.size := World.block_lt_of_cell? w _ hc
  clear hu hta
  rw [show Array.replicate 14 undef = #[undef, undef, undef, undef, undef, undef, undef, undef, undef, undef, undef, undef, undef, undef] from rfl]
  simp only [List.setIfInBounds_toArray, List.set_cons_succ, List.set_cons_zero, List.append_toArray, List.cons_append, List.nil_append]
  go_wp2_with fail
  have na : a ≠ w.heap.size := by omega
  have nb : b ≠ w.heap.size := by omega
  have nc : c ≠ w.heap.size := by omega
  go_region
  exact ⟨rfl, rfl, cpost_of ha hb hc hab hac hbc _ _ _ _⟩
set_option maxRecDepth 100000 in
theorem catch_r_int64 (p q r : Value) (w : World) :
    CallsD Tryz.prog 67 #[p, q, r] .returning w fun e u' w' => e = .returned (.tuple #[]) ∧ u' = .returning ∧ w' = w.alloc (.cells #[.int .i64 0, .int .i64 0] 143) := by
  have hta : ∀ w, (Instr.typeAssert .nilIface 20 143 true).run Tryz.prog w = .ok (.tuple #[.agg #[.int .i64 0, .int .i64 0], .bool false]) w := fun _ => by kernel_rfl
  refine callsD_of_wpS Tryz.func67 rfl fun c₀ cs hu => ?_
  apply wpS_seq
  apply wpS_region
  simp [wpOpsS, go_sem, recoverD, hu, Tryz.ntmps67, Exit.thenS, hta]
  apply wpS_seq
  apply wpS_region
  simp [wpOpsS, go_sem, Exit.thenS]
  refine wpS_cond (t := false) (by simp [Act.eval, Array.replicate]) ?_
  simp only [Bool.false_eq_true, if_false]
  refine wpS_of_wp (wp_skip ?_)
  cases c₀
  simp_all [bodyPostS, results, Tryz.results67]
set_option maxRecDepth 100000 in
theorem catch_p_string (a b c : Nat) (hab : a ≠ b) (hac : a ≠ c) (hbc : b ≠ c) (pos er : Int) (older : List PanicEntry) (w : World) (x y z : Value) (ha : w.cell? ⟨a, 0, none⟩ = some x) (hb : w.cell? ⟨b, 0, none⟩ = some y) (hc : w.cell? ⟨c, 0, none⟩ = some z)
    (fa : w.frozen? ⟨a, 0, none⟩ = false) (fb : w.frozen? ⟨b, 0, none⟩ = false) (fc : w.frozen? ⟨c, 0, none⟩ = false) :
    CallsD Tryz.prog 64 #[.pointer (some ⟨a, 0, none⟩), .pointer (some ⟨b, 0, none⟩), .pointer (some ⟨c, 0, none⟩)] (.panicking ({ v := faultV pos er, recovered := false } :: older)) w fun e u' w' =>
      e = .returned (.tuple #[]) ∧ u' = .panicking ({ v := faultV pos er, recovered := true } :: older) ∧ CaughtP a b c (.string ⟨#[]⟩) pos er w w' := by
  have hta : ∀ w, (Instr.typeAssert (faultV pos er) 20 143 true).run Tryz.prog w = .ok (.tuple #[.agg #[.int .i64 pos, .int .i64 er], .bool true]) w := fun _ => by unfold faultV; kernel_rfl
  refine callsD_of_wpS Tryz.func64 rfl fun c₀ cs hu => ?_
  apply wpS_seq
  apply wpS_region
  simp [wpOpsS, go_sem, recoverD, hu, Tryz.ntmps64, Exit.thenS, hta]
  refine wpS_of_wp ?_
  refine wp_mono (Q := QC a b c (.string ⟨#[]⟩) pos er w) ?_ ?_
  rotate_left
  · rintro e a' w' ⟨rfl, h2, h3⟩
    cases c₀
    simp_all [bodyPostS, results, Tryz.results64]
  have la : a < w.heap.size := World.block_lt_of_cell? w _ ha
  have lb : b < w.heap.size := World.block_lt_of_cell? w _ hb
  have lc : c < w.heap.size := World.block_lt_of_cell? w _ hc
  clear hu hta
  rw [show Array.replicate 14 undef = #[undef, undef, undef, undef, undef, undef, undef, undef, undef, undef, undef, undef, undef, undef] from rfl]
  simp only [List.setIfInBounds_toArray, List.set_cons_succ, List.set_cons_zero, List.append_toArray, List.cons_append, List.nil_append]
  go_wp2_with fail
  have na : a ≠ w.heap.size := by omega
  have nb : b ≠ w.heap.size := by omega
  have nc : c ≠ w.heap.size := by omega
  go_region
  exact ⟨rfl, rfl, cpost_of ha hb hc hab hac hbc _ _ _ _⟩
set_option maxRecDepth 100000 in
theorem catch_r_string (p q r : Value) (w : World) :
    CallsD Tryz.prog 64 #[p, q, r] .returning w fun e u' w' => e = .returned (.tuple #[]) ∧ u' = .returning ∧ w' = w.alloc (.cells #[.int .i64 0, .int .i64 0] 143) := by
  have hta : ∀ w, (Instr.typeAssert .nilIface 20 143 true).run Tryz.prog w = .ok (.tuple #[.agg #[.int .i64 0, .int .i64 0], .bool false]) w := fun _ => by kernel_rfl
  refine callsD_of_wpS Tryz.func64 rfl fun c₀ cs hu => ?_
  apply wpS_seq
  apply wpS_region
  simp [wpOpsS, go_sem, recoverD, hu, Tryz.ntmps64, Exit.thenS, hta]
  apply wpS_seq
  apply wpS_region
  simp [wpOpsS, go_sem, Exit.thenS]
  refine wpS_cond (t := false) (by simp [Act.eval, Array.replicate]) ?_
  simp only [Bool.false_eq_true, if_false]
  refine wpS_of_wp (wp_skip ?_)
  cases c₀
  simp_all [bodyPostS, results, Tryz.results64]
set_option maxRecDepth 100000 in
theorem catch_p_value (a b c : Nat) (hab : a ≠ b) (hac : a ≠ c) (hbc : b ≠ c) (pos er : Int) (older : List PanicEntry) (w : World) (x y z : Value) (ha : w.cell? ⟨a, 0, none⟩ = some x) (hb : w.cell? ⟨b, 0, none⟩ = some y) (hc : w.cell? ⟨c, 0, none⟩ = some z)
    (fa : w.frozen? ⟨a, 0, none⟩ = false) (fb : w.frozen? ⟨b, 0, none⟩ = false) (fc : w.frozen? ⟨c, 0, none⟩ = false) :
    CallsD Tryz.prog 68 #[.pointer (some ⟨a, 0, none⟩), .pointer (some ⟨b, 0, none⟩), .pointer (some ⟨c, 0, none⟩)] (.panicking ({ v := faultV pos er, recovered := false } :: older)) w fun e u' w' =>
      e = .returned (.tuple #[]) ∧ u' = .panicking ({ v := faultV pos er, recovered := true } :: older) ∧ CaughtP a b c (.slice none 0 0) pos er w w' := by
  have hta : ∀ w, (Instr.typeAssert (faultV pos er) 20 143 true).run Tryz.prog w = .ok (.tuple #[.agg #[.int .i64 pos, .int .i64 er], .bool true]) w := fun _ => by unfold faultV; kernel_rfl
  refine callsD_of_wpS Tryz.func68 rfl fun c₀ cs hu => ?_
  apply wpS_seq
  apply wpS_region
  simp [wpOpsS, go_sem, recoverD, hu, Tryz.ntmps68, Exit.thenS, hta]
  refine wpS_of_wp ?_
  refine wp_mono (Q := QC a b c (.slice none 0 0) pos er w) ?_ ?_
  rotate_left
  · rintro e a' w' ⟨rfl, h2, h3⟩
    cases c₀
    simp_all [bodyPostS, results, Tryz.results68]
  have la : a < w.heap.size := World.block_lt_of_cell? w _ ha
  have lb : b < w.heap.size := World.block_lt_of_cell? w _ hb
  have lc : c < w.heap.size := World.block_lt_of_cell? w _ hc
  clear hu hta
  rw [show Array.replicate 14 undef = #[undef, undef, undef, undef, undef, undef, undef, undef, undef, undef, undef, undef, undef, undef] from rfl]
  simp only [List.setIfInBounds_toArray, List.set_cons_succ, List.set_cons_zero, List.append_toArray, List.cons_append, List.nil_append]
  go_wp2_with fail
  have na : a ≠ w.heap.size := by omega
  have nb : b ≠ w.heap.size := by omega
  have nc : c ≠ w.heap.size := by omega
  go_region
  exact ⟨rfl, rfl, cpost_of ha hb hc hab hac hbc _ _ _ _⟩
set_option maxRecDepth 100000 in
theorem catch_r_value (p q r : Value) (w : World) :
    CallsD Tryz.prog 68 #[p, q, r] .returning w fun e u' w' => e = .returned (.tuple #[]) ∧ u' = .returning ∧ w' = w.alloc (.cells #[.int .i64 0, .int .i64 0] 143) := by
  have hta : ∀ w, (Instr.typeAssert .nilIface 20 143 true).run Tryz.prog w = .ok (.tuple #[.agg #[.int .i64 0, .int .i64 0], .bool false]) w := fun _ => by kernel_rfl
  refine callsD_of_wpS Tryz.func68 rfl fun c₀ cs hu => ?_
  apply wpS_seq
  apply wpS_region
  simp [wpOpsS, go_sem, recoverD, hu, Tryz.ntmps68, Exit.thenS, hta]
  apply wpS_seq
  apply wpS_region
  simp [wpOpsS, go_sem, Exit.thenS]
  refine wpS_cond (t := false) (by simp [Act.eval, Array.replicate]) ?_
  simp only [Bool.false_eq_true, if_false]
  refine wpS_of_wp (wp_skip ?_)
  cases c₀
  simp_all [bodyPostS, results, Tryz.results68]
end Go.Proofs.YtaeophaecclnbaaGreatDoor
namespace Go.Proofs.YtaeophaecclnbaaGreatDoor
open Go.RowKit

/-- The bytes that came in. -/
structure BS (w : World) (A : Option Addr) (n cc : Nat) (l : List UInt8) : Prop where
  len : l.length = n
  bytes : Sl w 1 A n (fun j => .int .u8 (byt l j : Int))
  cap : n ≤ cc
  capb : cc ≤ 9223372036854775807
  nil : A = none → cc = 0
  small : (n : Int) ≤ 140737488351232
theorem BS.below {w w' : World} {A : Option Addr} {n cc : Nat} {l : List UInt8} (h : BS w A n cc l) (hb : Below w.heap.size w w') : BS w' A n cc l := { h with bytes := h.bytes.keep hb }
theorem cell_new (W : World) (k : Nat) (hk : W.heap.size = k) (cs : Array Value) (t : TypeId) (j : Nat) : (W.alloc (.cells cs t)).cell? ⟨k, j, none⟩ = cs[j]? := by
  subst hk; rw [World.cell?_alloc_new]
theorem frozen_new (W : World) (k : Nat) (hk : W.heap.size = k) (cs : Array Value) (t : TypeId) (j : Nat) : (W.alloc (.cells cs t)).frozen? ⟨k, j, none⟩ = false := by
  subst hk; simp
theorem cell_old (W : World) (o : Obj) (k j : Nat) (hk : k < W.heap.size) : (W.alloc o).cell? ⟨k, j, none⟩ = W.cell? ⟨k, j, none⟩ := ((Below.refl W.heap.size W).alloc (Nat.le_refl _) o).cell (p := ⟨k, j, none⟩) hk
theorem frozen_old (W : World) (o : Obj) (k j : Nat) (hk : k < W.heap.size) : (W.alloc o).frozen? ⟨k, j, none⟩ = W.frozen? ⟨k, j, none⟩ := ((Below.refl W.heap.size W).alloc (Nat.le_refl _) o).frozen (p := ⟨k, j, none⟩) hk
/-- Four new blocks. -/
theorem four (w : World) (a b c p q : Value) (t1 t2 t3 t4 : TypeId) :
    (∀ W, W = (((w.alloc (.cells #[a] t1)).alloc (.cells #[b] t2)).alloc (.cells #[c] t3)).alloc (.cells #[p, q] t4) →
      W.cell? ⟨w.heap.size, 0, none⟩ = some a ∧ W.cell? ⟨w.heap.size + 1, 0, none⟩ = some b ∧ W.cell? ⟨w.heap.size + 1 + 1, 0, none⟩ = some c ∧ W.cell? ⟨w.heap.size + 1 + 1 + 1, 0, none⟩ = some p ∧ W.cell? ⟨w.heap.size + 1 + 1 + 1, 1, none⟩ = some q ∧
      W.frozen? ⟨w.heap.size, 0, none⟩ = false ∧ W.frozen? ⟨w.heap.size + 1, 0, none⟩ = false ∧ W.frozen? ⟨w.heap.size + 1 + 1, 0, none⟩ = false ∧ W.frozen? ⟨w.heap.size + 1 + 1 + 1, 1, none⟩ = false) := by
  rintro W rfl
  have e1 : (w.alloc (.cells #[a] t1)).heap.size = w.heap.size + 1 := by simp
  have e2 : ((w.alloc (.cells #[a] t1)).alloc (.cells #[b] t2)).heap.size = w.heap.size + 1 + 1 := by simp
  have e3 : (((w.alloc (.cells #[a] t1)).alloc (.cells #[b] t2)).alloc (.cells #[c] t3)).heap.size = w.heap.size + 1 + 1 + 1 := by simp
  refine ⟨?_, ?_, ?_, ?_, ?_, ?_, ?_, ?_, ?_⟩
  · rw [cell_old _ _ _ _ (by omega), cell_old _ _ _ _ (by omega), cell_old _ _ _ _ (by omega), cell_new _ _ rfl]; rfl
  · rw [cell_old _ _ _ _ (by omega), cell_old _ _ _ _ (by omega), cell_new _ _ e1]; rfl
  · rw [cell_old _ _ _ _ (by omega), cell_new _ _ e2]; rfl
  · rw [cell_new _ _ e3]; rfl
  · rw [cell_new _ _ e3]; rfl
  · rw [frozen_old _ _ _ _ (by omega), frozen_old _ _ _ _ (by omega), frozen_old _ _ _ _ (by omega), frozen_new _ _ rfl]
  · rw [frozen_old _ _ _ _ (by omega), frozen_old _ _ _ _ (by omega), frozen_new _ _ e1]
  · rw [frozen_old _ _ _ _ (by omega), frozen_new _ _ e2]
  · rw [frozen_new _ _ e3]
theorem Goes.cell {w w' : World} {rb q : Nat} (g : Goes rb q w w') {k : Nat} (hk : k ≠ rb) (o : Nat) : w'.cell? ⟨k, o, none⟩ = w.cell? ⟨k, o, none⟩ := World.cell?_of_block (a := ⟨k, o, none⟩) (g.2.2.2.2.1 k hk)
theorem Goes.frozen {w w' : World} {rb q : Nat} (g : Goes rb q w w') {k : Nat} (hk : k ≠ rb) (o : Nat) : w'.frozen? ⟨k, o, none⟩ = w.frozen? ⟨k, o, none⟩ := World.frozen?_of_block (a := ⟨k, o, none⟩) (g.2.2.2.2.1 k hk)
theorem Goes.below {w w' : World} {rb q : Nat} (g : Goes rb q w w') {B : Nat} (h : B ≤ rb) : Below B w w' := ⟨g.1, g.2.1, g.2.2.1, by rw [g.2.2.2.1]; exact Nat.le_refl _, fun k hk => g.2.2.2.2.1 k (by omega)⟩
theorem cpost_two {w : World} {a b c : Nat} {x y z : Value} (ha : w.cell? ⟨a, 0, none⟩ = some x) (hb : w.cell? ⟨b, 0, none⟩ = some y) (hc : w.cell? ⟨c, 0, none⟩ = some z) (hab : a ≠ b) (hac : a ≠ c) (hbc : b ≠ c) (u v : Value) (pos er : Int) :
    CaughtP a b c v pos er w ((((w.setCell ⟨a, 0, none⟩ u).setCell ⟨a, 0, none⟩ v).setCell ⟨b, 0, none⟩ (.int .i64 pos)).setCell ⟨c, 0, none⟩ (.int .i64 er)).drew := by
  have nab : (⟨b, 0, none⟩ : Addr) ≠ ⟨a, 0, none⟩ := fun e => by injection e with e1 _ _; exact hab e1.symm
  have nac : (⟨c, 0, none⟩ : Addr) ≠ ⟨a, 0, none⟩ := fun e => by injection e with e1 _ _; exact hac e1.symm
  have nbc : (⟨c, 0, none⟩ : Addr) ≠ ⟨b, 0, none⟩ := fun e => by injection e with e1 _ _; exact hbc e1.symm
  have la : a < w.heap.size := World.block_lt_of_cell? w _ ha
  have lb : b < w.heap.size := World.block_lt_of_cell? w _ hb
  have lc : c < w.heap.size := World.block_lt_of_cell? w _ hc
  have hs : ((((w.setCell ⟨a, 0, none⟩ u).setCell ⟨a, 0, none⟩ v).setCell ⟨b, 0, none⟩ (.int .i64 pos)).setCell ⟨c, 0, none⟩ (.int .i64 er)).heap.size = w.heap.size := by simp
  have B : Below w.heap.size ((((w.setCell ⟨a, 0, none⟩ u).setCell ⟨a, 0, none⟩ v).setCell ⟨b, 0, none⟩ (.int .i64 pos)).setCell ⟨c, 0, none⟩ (.int .i64 er)) ((((w.setCell ⟨a, 0, none⟩ u).setCell ⟨a, 0, none⟩ v).setCell ⟨b, 0, none⟩ (.int .i64 pos)).setCell ⟨c, 0, none⟩ (.int .i64 er)).drew := (Below.refl _ _).drew
  refine ⟨B.os, B.tape, B.output, by have := B.size; rw [hs] at this; exact this, fun k hk h1 h2 h3 => ?_, ?_, ?_, ?_⟩
  · rw [B.block k hk, heap_setCell_other _ _ k _ h3, heap_setCell_other _ _ k _ h2, heap_setCell_other _ _ k _ h1, heap_setCell_other _ _ k _ h1]
  · rw [B.cell (p := ⟨a, 0, none⟩) la, World.cell?_setCell_other _ _ _ _ nac, World.cell?_setCell_other _ _ _ _ nab]
    exact World.cell?_setCell_same _ _ _ (World.cell?_setCell_same _ _ _ ha)
  · rw [B.cell (p := ⟨b, 0, none⟩) lb, World.cell?_setCell_other _ _ _ _ nbc]
    exact World.cell?_setCell_same _ _ _ ((World.cell?_setCell_other _ _ _ _ (fun e => nab e.symm)).trans ((World.cell?_setCell_other _ _ _ _ (fun e => nab e.symm)).trans hb))
  · rw [B.cell (p := ⟨c, 0, none⟩) lc]
    exact World.cell?_setCell_same _ _ _ ((World.cell?_setCell_other _ _ _ _ (fun e => nbc e.symm)).trans ((World.cell?_setCell_other _ _ _ _ (fun e => nac e.symm)).trans ((World.cell?_setCell_other _ _ _ _ (fun e => nac e.symm)).trans hc)))
set_option maxRecDepth 100000 in
set_option maxHeartbeats 2000000 in
theorem read_uint64 {w : World} {A : Option Addr} {n cc : Nat} {l : List UInt8} (h : BS w A n cc l) :
    Calls Tryz.prog 116 #[.slice A n cc, .func (.func 37) #[] #[]] w (RetB (.tuple #[.int .u64 ((numS l).1 : Int), .int .i64 (numS l).2.1, .int .i64 (numS l).2.2]) w) := by
  have hmf : ∀ (fn : Fn) (first cap : Array Value) (w : World), (Instr.makeFunc fn first cap).run Tryz.prog w = .ok (.func fn first cap) w := fun _ _ _ _ => rfl
  have H := Lib.hid h
  clear h
  go_enter_defers Tryz.func116, Tryz.ntmps116
  go_wp2_with fail
  have hB : Below w.heap.size w ((((w.alloc (.cells #[.int .u64 0] 86)).alloc (.cells #[.int .i64 0] 3)).alloc (.cells #[.int .i64 0] 27)).alloc (.cells #[.slice A n cc, .int .i64 0] 146)) :=
    ((((Below.refl _ w).alloc (Nat.le_refl _) _).alloc (by simp) _).alloc (by simp; omega) _).alloc (by simp; omega) _
  have F := four w (.int .u64 0) (.int .i64 0) (.int .i64 0) (.slice A n cc) (.int .i64 0) 86 3 27 146 _ rfl
  have hrd : RD ((((w.alloc (.cells #[.int .u64 0] 86)).alloc (.cells #[.int .i64 0] 3)).alloc (.cells #[.int .i64 0] 27)).alloc (.cells #[.slice A n cc, .int .i64 0] 146)) (w.heap.size + 1 + 1 + 1) A n cc l 0 := {
    c0 := F.2.2.2.1
    c1 := F.2.2.2.2.1
    fz := F.2.2.2.2.2.2.2.2
    len := H.out.len
    le := Nat.zero_le _
    bytes := H.out.bytes.keep hB
    ne := fun hn b off e => by
      obtain ⟨b', off', e', hlt, _⟩ := H.out.bytes hn
      rw [e'] at e
      injection e with e
      injection e with e1 _ _
      omega
    lt := by simp
    cap := H.out.cap
    capb := H.out.capb
    nil := H.out.nil }
  refine (number_any hrd H.out.small).mono ?_
  unfold NPost
  simp only [List.drop_zero, Nat.zero_add]
  rintro e w5 (⟨h1, rfl, h3, h4⟩ | ⟨h1, rfl, q, h4⟩)
  · have r0 := (h4.cell (k := w.heap.size) (by omega) 0).trans F.1
    have r1 := (h4.cell (k := w.heap.size + 1) (by omega) 0).trans F.2.1
    have r2 := (h4.cell (k := w.heap.size + 1 + 1) (by omega) 0).trans F.2.2.1
    have f0 := (h4.frozen (k := w.heap.size) (by omega) 0).trans F.2.2.2.2.2.1
    have f1 := (h4.frozen (k := w.heap.size + 1) (by omega) 0).trans F.2.2.2.2.2.2.1
    have f2 := (h4.frozen (k := w.heap.size + 1 + 1) (by omega) 0).trans F.2.2.2.2.2.2.2.1
    have p1 := h4.2.2.2.2.2.2.1
    have HG := Lib.hid h4
    have hsz : w.heap.size + 1 + 1 + 1 < w5.heap.size := by rw [h4.2.2.2.1]; simp
    have HB := Lib.hid (hB.trans (h4.below (B := w.heap.size) (by omega)))
    clear h4 hrd hB F
    go_wp2_with fail
    go_region
    go_wp2_with fail
    have CP : CaughtP w.heap.size (w.heap.size + 1) (w.heap.size + 1 + 1) (.int .u64 ((numS l).1 : Int)) ((numS l).2.1 : Int) 0 w5 ((((w5.setCell ⟨w.heap.size, 0, none⟩ (.int .u64 ((numS l).1 : Int))).setCell ⟨w.heap.size, 0, none⟩ (.int .u64 ((numS l).1 : Int))).setCell ⟨w.heap.size + 1, 0, none⟩ (.int .i64 ((numS l).2.1 : Int))).setCell ⟨w.heap.size + 1 + 1, 0, none⟩ (.int .i64 0)).drew := by
      exact cpost_two r0 r1 r2 (by omega) (by omega) (by omega) _ _ _ _
    generalize ((((w5.setCell ⟨w.heap.size, 0, none⟩ (.int .u64 ((numS l).1 : Int))).setCell ⟨w.heap.size, 0, none⟩ (.int .u64 ((numS l).1 : Int))).setCell ⟨w.heap.size + 1, 0, none⟩ (.int .i64 ((numS l).2.1 : Int))).setCell ⟨w.heap.size + 1 + 1, 0, none⟩ (.int .i64 0)).drew = W6 at *
    obtain ⟨g1, g2, g3, g4, g5, g6, g7, g8⟩ := CP
    refine leaves_cons (f := 153) (args := #[.pointer (some ⟨w.heap.size, 0, none⟩), .pointer (some ⟨w.heap.size + 1, 0, none⟩), .pointer (some ⟨w.heap.size + 1 + 1, 0, none⟩)]) (by simp) (by simp [go_sem]) ?_
    refine (catch_r_uint64 _ _ _ _).mono ?_
    rintro e u' w'' ⟨rfl, rfl, rfl⟩
    have d0 := (cell_old W6 (.cells #[.int .i64 0, .int .i64 0] 143) w.heap.size 0 (by omega)).trans g6
    have d1 := (cell_old W6 (.cells #[.int .i64 0, .int .i64 0] 143) (w.heap.size + 1) 0 (by omega)).trans g7
    have d2 := (cell_old W6 (.cells #[.int .i64 0, .int .i64 0] 143) (w.heap.size + 1 + 1) 0 (by omega)).trans g8
    have BB : Below w.heap.size w5 W6 := ⟨g1, g2, g3, g4, fun k hk => g5 k (by omega) (by omega) (by omega) (by omega)⟩
    have PF := Lib.hid (show RetB (.tuple #[.int .u64 ((numS l).1 : Int), .int .i64 ((numS l).2.1 : Int), .int .i64 (numS l).2.2]) w (.returned (.tuple #[.int .u64 ((numS l).1 : Int), .int .i64 ((numS l).2.1 : Int), .int .i64 0])) (W6.alloc (.cells #[.int .i64 0, .int .i64 0] 143)) from ⟨by rw [h1], (HB.out.trans BB).alloc (by omega) _⟩)
    clear g1 g2 g3 g4 g5 g6 g7 g8 h1
    simp [Leaves, settle, results, Tryz.results116, go_sem, d0, d1, d2]
    exact PF.out
  · have r0 := (h4.cell (k := w.heap.size) (by omega) 0).trans F.1
    have r1 := (h4.cell (k := w.heap.size + 1) (by omega) 0).trans F.2.1
    have r2 := (h4.cell (k := w.heap.size + 1 + 1) (by omega) 0).trans F.2.2.1
    have f0 := (h4.frozen (k := w.heap.size) (by omega) 0).trans F.2.2.2.2.2.1
    have f1 := (h4.frozen (k := w.heap.size + 1) (by omega) 0).trans F.2.2.2.2.2.2.1
    have f2 := (h4.frozen (k := w.heap.size + 1 + 1) (by omega) 0).trans F.2.2.2.2.2.2.2.1
    have HB := Lib.hid (hB.trans (h4.below (B := w.heap.size) (by omega)))
    have hsz : w.heap.size + 1 + 1 + 1 < w5.heap.size := by rw [h4.2.2.2.1]; simp
    clear h4 hrd hB F
    refine leaves_cons (f := 153) (args := #[.pointer (some ⟨w.heap.size, 0, none⟩), .pointer (some ⟨w.heap.size + 1, 0, none⟩), .pointer (some ⟨w.heap.size + 1 + 1, 0, none⟩)]) (by simp) (by simp [go_sem]) ?_
    refine (catch_p_uint64 _ _ _ (by omega) (by omega) (by omega) _ _ [] _ _ _ _ r0 r1 r2 f0 f1 f2).mono ?_
    rintro e u' w'' ⟨rfl, rfl, g1, g2, g3, g4, g5, g6, g7, g8⟩
    have BB : Below w.heap.size w5 w'' := ⟨g1, g2, g3, by omega, fun k hk => g5 k (by omega) (by omega) (by omega) (by omega)⟩
    have Z : (.int .u64 ((numS l).1 : Int) : Value) = (.int .u64 0) := by rw [num_zero h1]; rfl
    have PF := Lib.hid (show RetB (.tuple #[.int .u64 ((numS l).1 : Int), .int .i64 ((numS l).2.1 : Int), .int .i64 (numS l).2.2]) w (.returned (.tuple #[.int .u64 0, .int .i64 ((numS l).2.1 : Int), .int .i64 (numS l).2.2])) w'' from ⟨by rw [Z], HB.out.trans BB⟩)
    clear g1 g2 g3 g4 g5 h1
    simp [Leaves, settle, results, Tryz.results116, go_sem, g6, g7, g8]
    exact PF.out
set_option maxRecDepth 100000 in
set_option maxHeartbeats 2000000 in
theorem read_int64 {w : World} {A : Option Addr} {n cc : Nat} {l : List UInt8} (h : BS w A n cc l) :
    Calls Tryz.prog 38 #[.slice A n cc, .func (.func 39) #[] #[]] w (RetB (.tuple #[.int .i64 (zagI (numS l).1), .int .i64 (numS l).2.1, .int .i64 (numS l).2.2]) w) := by
  have hmf : ∀ (fn : Fn) (first cap : Array Value) (w : World), (Instr.makeFunc fn first cap).run Tryz.prog w = .ok (.func fn first cap) w := fun _ _ _ _ => rfl
  have H := Lib.hid h
  clear h
  go_enter_defers Tryz.func38, Tryz.ntmps38
  go_wp2_with fail
  have hB : Below w.heap.size w ((((w.alloc (.cells #[.int .i64 0] 2)).alloc (.cells #[.int .i64 0] 3)).alloc (.cells #[.int .i64 0] 27)).alloc (.cells #[.slice A n cc, .int .i64 0] 146)) :=
    ((((Below.refl _ w).alloc (Nat.le_refl _) _).alloc (by simp) _).alloc (by simp; omega) _).alloc (by simp; omega) _
  have F := four w (.int .i64 0) (.int .i64 0) (.int .i64 0) (.slice A n cc) (.int .i64 0) 2 3 27 146 _ rfl
  have hrd : RD ((((w.alloc (.cells #[.int .i64 0] 2)).alloc (.cells #[.int .i64 0] 3)).alloc (.cells #[.int .i64 0] 27)).alloc (.cells #[.slice A n cc, .int .i64 0] 146)) (w.heap.size + 1 + 1 + 1) A n cc l 0 := {
    c0 := F.2.2.2.1
    c1 := F.2.2.2.2.1
    fz := F.2.2.2.2.2.2.2.2
    len := H.out.len
    le := Nat.zero_le _
    bytes := H.out.bytes.keep hB
    ne := fun hn b off e => by
      obtain ⟨b', off', e', hlt, _⟩ := H.out.bytes hn
      rw [e'] at e
      injection e with e
      injection e with e1 _ _
      omega
    lt := by simp
    cap := H.out.cap
    capb := H.out.capb
    nil := H.out.nil }
  refine (whole_any hrd H.out.small).mono ?_
  unfold WPost
  simp only [List.drop_zero, Nat.zero_add]
  rintro e w5 (⟨h1, rfl, h3, h4⟩ | ⟨h1, rfl, q, h4⟩)
  · have r0 := (h4.cell (k := w.heap.size) (by omega) 0).trans F.1
    have r1 := (h4.cell (k := w.heap.size + 1) (by omega) 0).trans F.2.1
    have r2 := (h4.cell (k := w.heap.size + 1 + 1) (by omega) 0).trans F.2.2.1
    have f0 := (h4.frozen (k := w.heap.size) (by omega) 0).trans F.2.2.2.2.2.1
    have f1 := (h4.frozen (k := w.heap.size + 1) (by omega) 0).trans F.2.2.2.2.2.2.1
    have f2 := (h4.frozen (k := w.heap.size + 1 + 1) (by omega) 0).trans F.2.2.2.2.2.2.2.1
    have p1 := h4.2.2.2.2.2.2.1
    have HG := Lib.hid h4
    have hsz : w.heap.size + 1 + 1 + 1 < w5.heap.size := by rw [h4.2.2.2.1]; simp
    have HB := Lib.hid (hB.trans (h4.below (B := w.heap.size) (by omega)))
    clear h4 hrd hB F
    go_wp2_with fail
    go_region
    go_wp2_with fail
    have CP : CaughtP w.heap.size (w.heap.size + 1) (w.heap.size + 1 + 1) (.int .i64 (zagI (numS l).1)) ((numS l).2.1 : Int) 0 w5 ((((w5.setCell ⟨w.heap.size, 0, none⟩ (.int .i64 (zagI (numS l).1))).setCell ⟨w.heap.size, 0, none⟩ (.int .i64 (zagI (numS l).1))).setCell ⟨w.heap.size + 1, 0, none⟩ (.int .i64 ((numS l).2.1 : Int))).setCell ⟨w.heap.size + 1 + 1, 0, none⟩ (.int .i64 0)).drew := by
      exact cpost_two r0 r1 r2 (by omega) (by omega) (by omega) _ _ _ _
    generalize ((((w5.setCell ⟨w.heap.size, 0, none⟩ (.int .i64 (zagI (numS l).1))).setCell ⟨w.heap.size, 0, none⟩ (.int .i64 (zagI (numS l).1))).setCell ⟨w.heap.size + 1, 0, none⟩ (.int .i64 ((numS l).2.1 : Int))).setCell ⟨w.heap.size + 1 + 1, 0, none⟩ (.int .i64 0)).drew = W6 at *
    obtain ⟨g1, g2, g3, g4, g5, g6, g7, g8⟩ := CP
    refine leaves_cons (f := 67) (args := #[.pointer (some ⟨w.heap.size, 0, none⟩), .pointer (some ⟨w.heap.size + 1, 0, none⟩), .pointer (some ⟨w.heap.size + 1 + 1, 0, none⟩)]) (by simp) (by simp [go_sem]) ?_
    refine (catch_r_int64 _ _ _ _).mono ?_
    rintro e u' w'' ⟨rfl, rfl, rfl⟩
    have d0 := (cell_old W6 (.cells #[.int .i64 0, .int .i64 0] 143) w.heap.size 0 (by omega)).trans g6
    have d1 := (cell_old W6 (.cells #[.int .i64 0, .int .i64 0] 143) (w.heap.size + 1) 0 (by omega)).trans g7
    have d2 := (cell_old W6 (.cells #[.int .i64 0, .int .i64 0] 143) (w.heap.size + 1 + 1) 0 (by omega)).trans g8
    have BB : Below w.heap.size w5 W6 := ⟨g1, g2, g3, g4, fun k hk => g5 k (by omega) (by omega) (by omega) (by omega)⟩
    have PF := Lib.hid (show RetB (.tuple #[.int .i64 (zagI (numS l).1), .int .i64 ((numS l).2.1 : Int), .int .i64 (numS l).2.2]) w (.returned (.tuple #[.int .i64 (zagI (numS l).1), .int .i64 ((numS l).2.1 : Int), .int .i64 0])) (W6.alloc (.cells #[.int .i64 0, .int .i64 0] 143)) from ⟨by rw [h1], (HB.out.trans BB).alloc (by omega) _⟩)
    clear g1 g2 g3 g4 g5 g6 g7 g8 h1
    simp [Leaves, settle, results, Tryz.results38, go_sem, d0, d1, d2]
    exact PF.out
  · have r0 := (h4.cell (k := w.heap.size) (by omega) 0).trans F.1
    have r1 := (h4.cell (k := w.heap.size + 1) (by omega) 0).trans F.2.1
    have r2 := (h4.cell (k := w.heap.size + 1 + 1) (by omega) 0).trans F.2.2.1
    have f0 := (h4.frozen (k := w.heap.size) (by omega) 0).trans F.2.2.2.2.2.1
    have f1 := (h4.frozen (k := w.heap.size + 1) (by omega) 0).trans F.2.2.2.2.2.2.1
    have f2 := (h4.frozen (k := w.heap.size + 1 + 1) (by omega) 0).trans F.2.2.2.2.2.2.2.1
    have HB := Lib.hid (hB.trans (h4.below (B := w.heap.size) (by omega)))
    have hsz : w.heap.size + 1 + 1 + 1 < w5.heap.size := by rw [h4.2.2.2.1]; simp
    clear h4 hrd hB F
    refine leaves_cons (f := 67) (args := #[.pointer (some ⟨w.heap.size, 0, none⟩), .pointer (some ⟨w.heap.size + 1, 0, none⟩), .pointer (some ⟨w.heap.size + 1 + 1, 0, none⟩)]) (by simp) (by simp [go_sem]) ?_
    refine (catch_p_int64 _ _ _ (by omega) (by omega) (by omega) _ _ [] _ _ _ _ r0 r1 r2 f0 f1 f2).mono ?_
    rintro e u' w'' ⟨rfl, rfl, g1, g2, g3, g4, g5, g6, g7, g8⟩
    have BB : Below w.heap.size w5 w'' := ⟨g1, g2, g3, by omega, fun k hk => g5 k (by omega) (by omega) (by omega) (by omega)⟩
    have Z : (.int .i64 (zagI (numS l).1) : Value) = (.int .i64 0) := by rw [num_zero h1]; rfl
    have PF := Lib.hid (show RetB (.tuple #[.int .i64 (zagI (numS l).1), .int .i64 ((numS l).2.1 : Int), .int .i64 (numS l).2.2]) w (.returned (.tuple #[.int .i64 0, .int .i64 ((numS l).2.1 : Int), .int .i64 (numS l).2.2])) w'' from ⟨by rw [Z], HB.out.trans BB⟩)
    clear g1 g2 g3 g4 g5 h1
    simp [Leaves, settle, results, Tryz.results38, go_sem, g6, g7, g8]
    exact PF.out
/-- What reading a text comes to. -/
def TPost (l : List UInt8) (rb : Nat) (w : World) (e : Ending) (w' : World) : Prop :=
  ((textS l).2.2 = 0 ∧ e = .returned (.string (strB (textS l).1)) ∧ (textS l).2.1 ≤ l.length ∧ Goes rb (textS l).2.1 w w') ∨
  ((textS l).2.2 ≠ 0 ∧ e = .panicked [{ v := faultV ((textS l).2.1 : Int) (textS l).2.2, recovered := false }] ∧ ∃ q, Goes rb q w w')
set_option maxRecDepth 100000 in
theorem text_do {w : World} {rb : Nat} {A : Option Addr} {n cc : Nat} {l : List UInt8} (h : RD w rb A n cc l 0) (hn : (n : Int) ≤ 140737488351232) :
    Calls Tryz.prog 35 #[.pointer (some ⟨rb, 0, none⟩)] w (TPost l rb w) := by
  go_enter Tryz.func35, Tryz.ntmps35
  go_wp2_with fail
  refine (number_any h hn).mono ?_
  unfold NPost
  simp only [List.drop_zero, Nat.zero_add]
  rintro e w2 (⟨h1, rfl, h3, h4⟩ | ⟨h1, rfl, q, h4⟩)
  · have hv := num_lt l
    have hl := h.len
    have R2 := h4.rd h (by omega)
    have HG := Lib.hid h4
    clear h h4
    by_cases hs : l.length - (numS l).2.1 < (numS l).1
    · have T := Lib.hid (text_short h1 hs)
      go_wp2_with fail
      refine (bytes_no R2 hn _ (by omega)).mono ?_
      rintro e w3 ⟨rfl, g⟩
      refine ⟨rfl, .inr ?_⟩
      rw [T.out]
      exact ⟨by simp, by rw [hl], _, HG.out.then g⟩
    · have T := Lib.hid (text_good h1 hs)
      by_cases h0 : (numS l).1 = 0
      · go_wp2_with fail
        refine (bytes_zero R2 hn).mono ?_
        rintro e w3 ⟨rfl, g⟩
        go_wp2_with fail
        go_ret
        refine .inl ?_
        rw [T.out, h0]
        exact ⟨rfl, by simp, by simpa using h3, HG.out.then g⟩
      · go_wp2_with fail
        refine (bytes_some R2 hn _ (by omega) (by omega)).mono ?_
        rintro e w3 ⟨rfl, g⟩
        go_wp2_with fail
        go_ret
        refine .inl ?_
        rw [T.out]
        exact ⟨rfl, rfl, by show (numS l).2.1 + (numS l).1 ≤ l.length; omega, HG.out.then g⟩
  · exact ⟨rfl, .inr (by rw [text_bad h1]; exact ⟨h1, rfl, q, h4⟩)⟩
set_option maxRecDepth 100000 in
set_option maxHeartbeats 2000000 in
theorem read_string {w : World} {A : Option Addr} {n cc : Nat} {l : List UInt8} (h : BS w A n cc l) :
    Calls Tryz.prog 34 #[.slice A n cc, .func (.func 35) #[] #[]] w (RetB (.tuple #[.string (strB (textS l).1), .int .i64 (textS l).2.1, .int .i64 (textS l).2.2]) w) := by
  have hmf : ∀ (fn : Fn) (first cap : Array Value) (w : World), (Instr.makeFunc fn first cap).run Tryz.prog w = .ok (.func fn first cap) w := fun _ _ _ _ => rfl
  have H := Lib.hid h
  clear h
  go_enter_defers Tryz.func34, Tryz.ntmps34
  go_wp2_with fail
  have hB : Below w.heap.size w ((((w.alloc (.cells #[.string ⟨#[]⟩] 9)).alloc (.cells #[.int .i64 0] 3)).alloc (.cells #[.int .i64 0] 27)).alloc (.cells #[.slice A n cc, .int .i64 0] 146)) :=
    ((((Below.refl _ w).alloc (Nat.le_refl _) _).alloc (by simp) _).alloc (by simp; omega) _).alloc (by simp; omega) _
  have F := four w (.string ⟨#[]⟩) (.int .i64 0) (.int .i64 0) (.slice A n cc) (.int .i64 0) 9 3 27 146 _ rfl
  have hrd : RD ((((w.alloc (.cells #[.string ⟨#[]⟩] 9)).alloc (.cells #[.int .i64 0] 3)).alloc (.cells #[.int .i64 0] 27)).alloc (.cells #[.slice A n cc, .int .i64 0] 146)) (w.heap.size + 1 + 1 + 1) A n cc l 0 := {
    c0 := F.2.2.2.1
    c1 := F.2.2.2.2.1
    fz := F.2.2.2.2.2.2.2.2
    len := H.out.len
    le := Nat.zero_le _
    bytes := H.out.bytes.keep hB
    ne := fun hn b off e => by
      obtain ⟨b', off', e', hlt, _⟩ := H.out.bytes hn
      rw [e'] at e
      injection e with e
      injection e with e1 _ _
      omega
    lt := by simp
    cap := H.out.cap
    capb := H.out.capb
    nil := H.out.nil }
  refine (text_do hrd H.out.small).mono ?_
  rintro e w5 (⟨h1, rfl, h3, h4⟩ | ⟨h1, rfl, q, h4⟩)
  · have r0 := (h4.cell (k := w.heap.size) (by omega) 0).trans F.1
    have r1 := (h4.cell (k := w.heap.size + 1) (by omega) 0).trans F.2.1
    have r2 := (h4.cell (k := w.heap.size + 1 + 1) (by omega) 0).trans F.2.2.1
    have f0 := (h4.frozen (k := w.heap.size) (by omega) 0).trans F.2.2.2.2.2.1
    have f1 := (h4.frozen (k := w.heap.size + 1) (by omega) 0).trans F.2.2.2.2.2.2.1
    have f2 := (h4.frozen (k := w.heap.size + 1 + 1) (by omega) 0).trans F.2.2.2.2.2.2.2.1
    have p1 := h4.2.2.2.2.2.2.1
    have HG := Lib.hid h4
    have hsz : w.heap.size + 1 + 1 + 1 < w5.heap.size := by rw [h4.2.2.2.1]; simp
    have HB := Lib.hid (hB.trans (h4.below (B := w.heap.size) (by omega)))
    clear h4 hrd hB F
    go_wp2_with fail
    go_region
    go_wp2_with fail
    have CP : CaughtP w.heap.size (w.heap.size + 1) (w.heap.size + 1 + 1) (.string (strB (textS l).1)) ((textS l).2.1 : Int) 0 w5 ((((w5.setCell ⟨w.heap.size, 0, none⟩ (.string (strB (textS l).1))).setCell ⟨w.heap.size, 0, none⟩ (.string (strB (textS l).1))).setCell ⟨w.heap.size + 1, 0, none⟩ (.int .i64 ((textS l).2.1 : Int))).setCell ⟨w.heap.size + 1 + 1, 0, none⟩ (.int .i64 0)).drew := by
      exact cpost_two r0 r1 r2 (by omega) (by omega) (by omega) _ _ _ _
    generalize ((((w5.setCell ⟨w.heap.size, 0, none⟩ (.string (strB (textS l).1))).setCell ⟨w.heap.size, 0, none⟩ (.string (strB (textS l).1))).setCell ⟨w.heap.size + 1, 0, none⟩ (.int .i64 ((textS l).2.1 : Int))).setCell ⟨w.heap.size + 1 + 1, 0, none⟩ (.int .i64 0)).drew = W6 at *
    obtain ⟨g1, g2, g3, g4, g5, g6, g7, g8⟩ := CP
    refine leaves_cons (f := 64) (args := #[.pointer (some ⟨w.heap.size, 0, none⟩), .pointer (some ⟨w.heap.size + 1, 0, none⟩), .pointer (some ⟨w.heap.size + 1 + 1, 0, none⟩)]) (by simp) (by simp [go_sem]) ?_
    refine (catch_r_string _ _ _ _).mono ?_
    rintro e u' w'' ⟨rfl, rfl, rfl⟩
    have d0 := (cell_old W6 (.cells #[.int .i64 0, .int .i64 0] 143) w.heap.size 0 (by omega)).trans g6
    have d1 := (cell_old W6 (.cells #[.int .i64 0, .int .i64 0] 143) (w.heap.size + 1) 0 (by omega)).trans g7
    have d2 := (cell_old W6 (.cells #[.int .i64 0, .int .i64 0] 143) (w.heap.size + 1 + 1) 0 (by omega)).trans g8
    have BB : Below w.heap.size w5 W6 := ⟨g1, g2, g3, g4, fun k hk => g5 k (by omega) (by omega) (by omega) (by omega)⟩
    have PF := Lib.hid (show RetB (.tuple #[.string (strB (textS l).1), .int .i64 ((textS l).2.1 : Int), .int .i64 (textS l).2.2]) w (.returned (.tuple #[.string (strB (textS l).1), .int .i64 ((textS l).2.1 : Int), .int .i64 0])) (W6.alloc (.cells #[.int .i64 0, .int .i64 0] 143)) from ⟨by rw [h1], (HB.out.trans BB).alloc (by omega) _⟩)
    clear g1 g2 g3 g4 g5 g6 g7 g8 h1
    simp [Leaves, settle, results, Tryz.results34, go_sem, d0, d1, d2]
    exact PF.out
  · have r0 := (h4.cell (k := w.heap.size) (by omega) 0).trans F.1
    have r1 := (h4.cell (k := w.heap.size + 1) (by omega) 0).trans F.2.1
    have r2 := (h4.cell (k := w.heap.size + 1 + 1) (by omega) 0).trans F.2.2.1
    have f0 := (h4.frozen (k := w.heap.size) (by omega) 0).trans F.2.2.2.2.2.1
    have f1 := (h4.frozen (k := w.heap.size + 1) (by omega) 0).trans F.2.2.2.2.2.2.1
    have f2 := (h4.frozen (k := w.heap.size + 1 + 1) (by omega) 0).trans F.2.2.2.2.2.2.2.1
    have HB := Lib.hid (hB.trans (h4.below (B := w.heap.size) (by omega)))
    have hsz : w.heap.size + 1 + 1 + 1 < w5.heap.size := by rw [h4.2.2.2.1]; simp
    clear h4 hrd hB F
    refine leaves_cons (f := 64) (args := #[.pointer (some ⟨w.heap.size, 0, none⟩), .pointer (some ⟨w.heap.size + 1, 0, none⟩), .pointer (some ⟨w.heap.size + 1 + 1, 0, none⟩)]) (by simp) (by simp [go_sem]) ?_
    refine (catch_p_string _ _ _ (by omega) (by omega) (by omega) _ _ [] _ _ _ _ r0 r1 r2 f0 f1 f2).mono ?_
    rintro e u' w'' ⟨rfl, rfl, g1, g2, g3, g4, g5, g6, g7, g8⟩
    have BB : Below w.heap.size w5 w'' := ⟨g1, g2, g3, by omega, fun k hk => g5 k (by omega) (by omega) (by omega) (by omega)⟩
    have Z : (.string (strB (textS l).1) : Value) = (.string ⟨#[]⟩) := by rw [text_none h1]; rfl
    have PF := Lib.hid (show RetB (.tuple #[.string (strB (textS l).1), .int .i64 ((textS l).2.1 : Int), .int .i64 (textS l).2.2]) w (.returned (.tuple #[.string ⟨#[]⟩, .int .i64 ((textS l).2.1 : Int), .int .i64 (textS l).2.2])) w'' from ⟨by rw [Z], HB.out.trans BB⟩)
    clear g1 g2 g3 g4 g5 h1
    simp [Leaves, settle, results, Tryz.results34, go_sem, g6, g7, g8]
    exact PF.out
set_option maxRecDepth 100000 in
theorem cuint_any {w : World} {A : Option Addr} {n cc : Nat} {l : List UInt8} (h : BS w A n cc l) :
    Calls Tryz.prog 71 #[.slice A n cc] w (RetB (.tuple #[.int .u64 ((numS l).1 : Int), .int .i64 (numS l).2.1, .int .i64 (numS l).2.2]) w) := by
  go_enter Tryz.func71, Tryz.ntmps71
  go_wp2_with fail
  refine (read_uint64 h).mono ?_
  rintro e w2 ⟨rfl, hb⟩
  go_wp2_with fail
  go_ret3
  exact ⟨rfl, hb⟩
set_option maxRecDepth 100000 in
theorem cint_any {w : World} {A : Option Addr} {n cc : Nat} {l : List UInt8} (h : BS w A n cc l) :
    Calls Tryz.prog 13 #[.slice A n cc] w (RetB (.tuple #[.int .i64 (zagI (numS l).1), .int .i64 (numS l).2.1, .int .i64 (numS l).2.2]) w) := by
  go_enter Tryz.func13, Tryz.ntmps13
  go_wp2_with fail
  refine (read_int64 h).mono ?_
  rintro e w2 ⟨rfl, hb⟩
  go_wp2_with fail
  go_ret3
  exact ⟨rfl, hb⟩
set_option maxRecDepth 100000 in
theorem ctext_any {w : World} {A : Option Addr} {n cc : Nat} {l : List UInt8} (h : BS w A n cc l) :
    Calls Tryz.prog 11 #[.slice A n cc] w (RetB (.tuple #[.string (strB (textS l).1), .int .i64 (textS l).2.1, .int .i64 (textS l).2.2]) w) := by
  go_enter Tryz.func11, Tryz.ntmps11
  go_wp2_with fail
  refine (read_string h).mono ?_
  rintro e w2 ⟨rfl, hb⟩
  go_wp2_with fail
  go_ret3
  exact ⟨rfl, hb⟩
end Go.Proofs.YtaeophaecclnbaaGreatDoor

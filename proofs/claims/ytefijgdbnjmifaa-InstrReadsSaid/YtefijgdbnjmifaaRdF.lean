/- A field, walked. Printed by a program. -/
import Derived.Test.YtefijgdbnjmifaaRdE
namespace Go.Proofs.Ytefijgdbnjmifaa
open Go.RowKit

/-- The place goes on; else all below is as it was. -/
def AtW (pb : Nat) (q : Nat) (w w' : World) : Prop := w'.os = w.os ∧ w'.tape = w.tape ∧ w'.output = w.output ∧ w.heap.size ≤ w'.heap.size ∧ (∀ k, k < w.heap.size → k ≠ pb → w'.heap[k]? = w.heap[k]?) ∧ w'.cell? ⟨pb, 0, none⟩ = some (.int .i64 q) ∧ w'.frozen? ⟨pb, 0, none⟩ = w.frozen? ⟨pb, 0, none⟩
theorem AtW.of {w w1 : World} {pb q : Nat} {u : Value} {z : Int} (hz : z = (q : Int)) (h : Below w.heap.size w w1) (hl : pb < w.heap.size) (hc : w1.cell? ⟨pb, 0, none⟩ = some u) : AtW pb q w (w1.setCell ⟨pb, 0, none⟩ (.int .i64 z)) := by
  subst hz
  exact ⟨h.os, h.tape, h.output, by simp; exact h.size, fun k hk hne => (heap_setCell_other _ _ k _ hne).trans (h.block k hk), World.cell?_setCell_same _ _ _ hc, (World.frozen?_setCell _ _ _ _).trans (h.frozen (p := ⟨pb, 0, none⟩) hl)⟩
theorem AtW.same {w : World} {pb p : Nat} (hc : w.cell? ⟨pb, 0, none⟩ = some (.int .i64 p)) : AtW pb p w w := ⟨rfl, rfl, rfl, Nat.le_refl _, fun _ _ _ => rfl, hc, rfl⟩
theorem AtW.then {w w1 w2 : World} {pb p q : Nat} (h : AtW pb p w w1) (k : AtW pb q w1 w2) : AtW pb q w w2 :=
  ⟨k.1.trans h.1, k.2.1.trans h.2.1, k.2.2.1.trans h.2.2.1, Nat.le_trans h.2.2.2.1 k.2.2.2.1, fun j hj hn => (k.2.2.2.2.1 j (Nat.lt_of_lt_of_le hj h.2.2.2.1) hn).trans (h.2.2.2.2.1 j hj hn), k.2.2.2.2.2.1, k.2.2.2.2.2.2.trans h.2.2.2.2.2.2⟩
/-- What is read, if it is there. -/
def ifS {α : Type} (is : Bool) (z : α) (s : α × Nat × Int) : α × Nat × Int := if is then s else (z, 0, 0)
theorem byt_drop (l : List UInt8) (p j : Nat) : byt (l.drop p) j = byt l (p + j) := by
  unfold byt
  simp [List.getD]
theorem addr_add (b off p : Nat) : (⟨b, off, none⟩ : Addr).add p = ⟨b, off + p, none⟩ := by
  unfold Addr.add
  split
  · rename_i h; subst h; rfl
  · rfl
/-- The bytes from a place on. -/
theorem BS.from_ {w : World} {a : Addr} {n cc p : Nat} {l : List UInt8} (h : BS w (some a) n cc l) (hp : p ≤ n) : BS w (some (a.add p)) (n - p) (cc - p) (l.drop p) where
  len := by rw [List.length_drop, h.len]
  bytes := fun hn => by
    obtain ⟨b, off, e, hlt, hc⟩ := h.bytes (by omega)
    injection e with e
    subst e
    exact ⟨b, off + p, congrArg some (addr_add b off p), hlt, fun j hj => by show _ = some (Value.int .u8 (byt (l.drop p) j : Int)); rw [byt_drop, Nat.add_assoc]; exact hc (p + j) (by omega)⟩
  cap := by have := h.cap; omega
  capb := by have := h.capb; omega
  nil := fun e => by cases e
  small := by have := h.small; omega
theorem BS.end_ {w : World} {a : Addr} {n : Nat} {l : List UInt8} (h : BS w (some a) n n l) : BS w (some a) 0 0 (l.drop n) where
  len := by rw [List.length_drop, h.len]; omega
  bytes := fun hn => absurd hn (by omega)
  cap := by omega
  capb := by omega
  nil := fun _ => rfl
  small := by omega
theorem num_pos {l : List UInt8} : (numS l).2.1 ≤ l.length := by
  have : ∀ (f i n : Nat), Nm l i n → f = 10 - i → (numGo l f i n).2.1 ≤ l.length := by
    intro f
    induction f with
    | zero => intro i n h hf; have := h.le; omega
    | succ f ih =>
      intro i n h hf
      by_cases he : l.length ≤ i
      · rw [numGo_end he]; exact Nat.le_refl _
      · by_cases hb : (byt l i = 0 ∧ 0 < i) ∨ (i = 9 ∧ byt l i ≠ 1)
        · rw [numGo_bad (by omega) hb]; show i ≤ _; omega
        · by_cases h1 : byt l i < 128
          · rw [numGo_last (by omega) hb h1]; show i + 1 ≤ _; omega
          · rw [numGo_more (by omega) hb h1]
            exact ih _ _ (h.more (by omega) hb h1) (by omega)
  exact this 10 0 0 (Nm.start l) rfl
theorem text_pos {l : List UInt8} : (textS l).2.1 ≤ l.length := by
  by_cases h1 : (numS l).2.2 = 0
  · by_cases h2 : l.length - (numS l).2.1 < (numS l).1
    · rw [text_short h1 h2]; exact Nat.le_refl _
    · have := @num_pos l
      rw [text_good h1 h2]
      show (numS l).2.1 + (numS l).1 ≤ _
      omega
  · rw [text_bad h1]; exact num_pos
theorem text_zero {l : List UInt8} (h : (textS l).2.2 ≠ 0) : strB (textS l).1 = ⟨#[]⟩ := by rw [text_none h]; rfl
theorem zag_zero {l : List UInt8} (h : (numS l).2.2 ≠ 0) : zagI (numS l).1 = 0 := by rw [num_zero h]; rfl
theorem num_zeroI {l : List UInt8} (h : (numS l).2.2 ≠ 0) : ((numS l).1 : Int) = 0 := by rw [num_zero h]; rfl
set_option maxRecDepth 100000 in
theorem field_uint64_no (s f : Value) (pb : Nat) (w : World) :
    Calls Try.prog 38 #[s, .pointer (some ⟨pb, 0, none⟩), .bool false, f] w (RetB (.tuple #[.int .u64 0, .int .i64 0]) w) := by
  go_enter Try.func38, Try.ntmps38
  go_wp2_with fail
  go_ret2
  exact ⟨rfl, Below.refl _ _⟩
set_option maxRecDepth 100000 in
set_option maxHeartbeats 600000 in
theorem field_uint64_is {w : World} {A : Option Addr} {n cc : Nat} {l : List UInt8} {pb p : Nat} (h : BS w A n cc l) (hc : w.cell? ⟨pb, 0, none⟩ = some (.int .i64 p)) (hf : w.frozen? ⟨pb, 0, none⟩ = false) (hl : pb < w.heap.size) (hp : p ≤ n) :
    Calls Try.prog 38 #[.slice A n cc, .pointer (some ⟨pb, 0, none⟩), .bool true, .func (.func 26) #[] #[]] w
      (fun e w' => e = .returned (.tuple #[.int .u64 ((numS (l.drop p)).1 : Int), .int .i64 (numS (l.drop p)).2.2]) ∧ AtW pb (p + (numS (l.drop p)).2.1) w w') := by
  have hcap := h.cap
  have hcapb := h.capb
  have hsm := h.small
  have hlen := Lib.hid h.len
  have HN := Lib.hid h.nil
  have H := Lib.hid h
  have HP := Lib.hid (@num_pos (l.drop p))
  have hpos : (numS (l.drop p)).2.1 ≤ n - p := by have := HP.out; rw [List.length_drop, hlen.out] at this; exact this
  have HZ := Lib.hid (@num_zeroI (l.drop p))
  clear h HP
  cases A with
  | none =>
    obtain rfl := HN.out rfl
    obtain rfl : n = 0 := by omega
    obtain rfl : p = 0 := by omega
    simp only [List.drop_zero, Nat.zero_add] at *
    go_enter Try.func38, Try.ntmps38
    go_wp2_with fail
    refine (cuint_any H.out).mono ?_
    rintro e w1 ⟨rfl, hb⟩
    have c1 := (hb.cell (p := ⟨pb, 0, none⟩) hl).trans hc
    have f1 := (hb.frozen (p := ⟨pb, 0, none⟩) hl).trans hf
    have AW := Lib.hid (AtW.of (q := (numS l).2.1) rfl hb hl c1)
    clear hb
    by_cases hz : (numS l).2.2 = 0
    · have hz1 : ((numS l).2.2 != 0) = false := by rw [hz]; rfl
      go_wp2_with fail
      go_ret2
      exact ⟨ret_tup2 rfl (congrArg _ hz.symm), AW.out⟩
    · have hz1 : ((numS l).2.2 != 0) = true := bne_iff_ne.2 hz
      have HZ2 := Lib.hid (HZ.out hz)
      clear hz
      go_wp2_with fail
      go_ret2
      exact ⟨ret_tup2 (congrArg _ HZ2.out.symm) rfl, AW.out⟩
  | some a =>
    have hle1 : (p : Int) ≤ (n : Int) := by omega
    have hle2 : (n : Int) ≤ (cc : Int) := by omega
    go_enter Try.func38, Try.ntmps38
    have WW := Lib.hid (show IntKind.i64.wrap ((p : Int) + (((numS (l.drop p)).2.1 : Nat) : Int)) = (p : Int) + (((numS (l.drop p)).2.1 : Nat) : Int) from IntWalk.i64_in _ (by omega))
    by_cases hpc : p = cc
    · subst hpc
      obtain rfl : n = p := by omega
      have H2 := Lib.hid (H.out.end_)
      go_wp2_with fail
      refine (cuint_any H2.out).mono ?_
      rintro e w1 ⟨rfl, hb⟩
      have c1 := (hb.cell (p := ⟨pb, 0, none⟩) hl).trans hc
      have f1 := (hb.frozen (p := ⟨pb, 0, none⟩) hl).trans hf
      have AW := Lib.hid (AtW.of (q := n + (numS (l.drop n)).2.1) (Int.natCast_add _ _).symm hb hl c1)
      have hw1 := WW.out
      clear hb
      by_cases hz : (numS (l.drop n)).2.2 = 0
      · have hz1 : ((numS (l.drop n)).2.2 != 0) = false := by rw [hz]; rfl
        go_wp2_with fail
        go_ret2
        exact ⟨ret_tup2 rfl (congrArg _ hz.symm), AW.out⟩
      · have hz1 : ((numS (l.drop n)).2.2 != 0) = true := bne_iff_ne.2 hz
        have HZ2 := Lib.hid (HZ.out hz)
        clear hz
        go_wp2_with fail
        go_ret2
        exact ⟨ret_tup2 (congrArg _ HZ2.out.symm) rfl, AW.out⟩
    · have hlt : (p : Int) < (cc : Int) := by omega
      have H2 := Lib.hid (H.out.from_ hp)
      go_wp2_with fail
      refine (cuint_any H2.out).mono ?_
      rintro e w1 ⟨rfl, hb⟩
      have c1 := (hb.cell (p := ⟨pb, 0, none⟩) hl).trans hc
      have f1 := (hb.frozen (p := ⟨pb, 0, none⟩) hl).trans hf
      have AW := Lib.hid (AtW.of (q := p + (numS (l.drop p)).2.1) (Int.natCast_add _ _).symm hb hl c1)
      have hw1 := WW.out
      clear hb
      by_cases hz : (numS (l.drop p)).2.2 = 0
      · have hz1 : ((numS (l.drop p)).2.2 != 0) = false := by rw [hz]; rfl
        go_wp2_with fail
        go_ret2
        exact ⟨ret_tup2 rfl (congrArg _ hz.symm), AW.out⟩
      · have hz1 : ((numS (l.drop p)).2.2 != 0) = true := bne_iff_ne.2 hz
        have HZ2 := Lib.hid (HZ.out hz)
        clear hz
        go_wp2_with fail
        go_ret2
        exact ⟨ret_tup2 (congrArg _ HZ2.out.symm) rfl, AW.out⟩
set_option maxRecDepth 100000 in
theorem field_int64_no (s f : Value) (pb : Nat) (w : World) :
    Calls Try.prog 39 #[s, .pointer (some ⟨pb, 0, none⟩), .bool false, f] w (RetB (.tuple #[.int .i64 0, .int .i64 0]) w) := by
  go_enter Try.func39, Try.ntmps39
  go_wp2_with fail
  go_ret2
  exact ⟨rfl, Below.refl _ _⟩
set_option maxRecDepth 100000 in
set_option maxHeartbeats 600000 in
theorem field_int64_is {w : World} {A : Option Addr} {n cc : Nat} {l : List UInt8} {pb p : Nat} (h : BS w A n cc l) (hc : w.cell? ⟨pb, 0, none⟩ = some (.int .i64 p)) (hf : w.frozen? ⟨pb, 0, none⟩ = false) (hl : pb < w.heap.size) (hp : p ≤ n) :
    Calls Try.prog 39 #[.slice A n cc, .pointer (some ⟨pb, 0, none⟩), .bool true, .func (.func 40) #[] #[]] w
      (fun e w' => e = .returned (.tuple #[.int .i64 (zagI (numS (l.drop p)).1), .int .i64 (numS (l.drop p)).2.2]) ∧ AtW pb (p + (numS (l.drop p)).2.1) w w') := by
  have hcap := h.cap
  have hcapb := h.capb
  have hsm := h.small
  have hlen := Lib.hid h.len
  have HN := Lib.hid h.nil
  have H := Lib.hid h
  have HP := Lib.hid (@num_pos (l.drop p))
  have hpos : (numS (l.drop p)).2.1 ≤ n - p := by have := HP.out; rw [List.length_drop, hlen.out] at this; exact this
  have HZ := Lib.hid (@zag_zero (l.drop p))
  clear h HP
  cases A with
  | none =>
    obtain rfl := HN.out rfl
    obtain rfl : n = 0 := by omega
    obtain rfl : p = 0 := by omega
    simp only [List.drop_zero, Nat.zero_add] at *
    go_enter Try.func39, Try.ntmps39
    go_wp2_with fail
    refine (cint_any H.out).mono ?_
    rintro e w1 ⟨rfl, hb⟩
    have c1 := (hb.cell (p := ⟨pb, 0, none⟩) hl).trans hc
    have f1 := (hb.frozen (p := ⟨pb, 0, none⟩) hl).trans hf
    have AW := Lib.hid (AtW.of (q := (numS l).2.1) rfl hb hl c1)
    clear hb
    by_cases hz : (numS l).2.2 = 0
    · have hz1 : ((numS l).2.2 != 0) = false := by rw [hz]; rfl
      go_wp2_with fail
      go_ret2
      exact ⟨ret_tup2 rfl (congrArg _ hz.symm), AW.out⟩
    · have hz1 : ((numS l).2.2 != 0) = true := bne_iff_ne.2 hz
      have HZ2 := Lib.hid (HZ.out hz)
      clear hz
      go_wp2_with fail
      go_ret2
      exact ⟨ret_tup2 (congrArg _ HZ2.out.symm) rfl, AW.out⟩
  | some a =>
    have hle1 : (p : Int) ≤ (n : Int) := by omega
    have hle2 : (n : Int) ≤ (cc : Int) := by omega
    go_enter Try.func39, Try.ntmps39
    have WW := Lib.hid (show IntKind.i64.wrap ((p : Int) + (((numS (l.drop p)).2.1 : Nat) : Int)) = (p : Int) + (((numS (l.drop p)).2.1 : Nat) : Int) from IntWalk.i64_in _ (by omega))
    by_cases hpc : p = cc
    · subst hpc
      obtain rfl : n = p := by omega
      have H2 := Lib.hid (H.out.end_)
      go_wp2_with fail
      refine (cint_any H2.out).mono ?_
      rintro e w1 ⟨rfl, hb⟩
      have c1 := (hb.cell (p := ⟨pb, 0, none⟩) hl).trans hc
      have f1 := (hb.frozen (p := ⟨pb, 0, none⟩) hl).trans hf
      have AW := Lib.hid (AtW.of (q := n + (numS (l.drop n)).2.1) (Int.natCast_add _ _).symm hb hl c1)
      have hw1 := WW.out
      clear hb
      by_cases hz : (numS (l.drop n)).2.2 = 0
      · have hz1 : ((numS (l.drop n)).2.2 != 0) = false := by rw [hz]; rfl
        go_wp2_with fail
        go_ret2
        exact ⟨ret_tup2 rfl (congrArg _ hz.symm), AW.out⟩
      · have hz1 : ((numS (l.drop n)).2.2 != 0) = true := bne_iff_ne.2 hz
        have HZ2 := Lib.hid (HZ.out hz)
        clear hz
        go_wp2_with fail
        go_ret2
        exact ⟨ret_tup2 (congrArg _ HZ2.out.symm) rfl, AW.out⟩
    · have hlt : (p : Int) < (cc : Int) := by omega
      have H2 := Lib.hid (H.out.from_ hp)
      go_wp2_with fail
      refine (cint_any H2.out).mono ?_
      rintro e w1 ⟨rfl, hb⟩
      have c1 := (hb.cell (p := ⟨pb, 0, none⟩) hl).trans hc
      have f1 := (hb.frozen (p := ⟨pb, 0, none⟩) hl).trans hf
      have AW := Lib.hid (AtW.of (q := p + (numS (l.drop p)).2.1) (Int.natCast_add _ _).symm hb hl c1)
      have hw1 := WW.out
      clear hb
      by_cases hz : (numS (l.drop p)).2.2 = 0
      · have hz1 : ((numS (l.drop p)).2.2 != 0) = false := by rw [hz]; rfl
        go_wp2_with fail
        go_ret2
        exact ⟨ret_tup2 rfl (congrArg _ hz.symm), AW.out⟩
      · have hz1 : ((numS (l.drop p)).2.2 != 0) = true := bne_iff_ne.2 hz
        have HZ2 := Lib.hid (HZ.out hz)
        clear hz
        go_wp2_with fail
        go_ret2
        exact ⟨ret_tup2 (congrArg _ HZ2.out.symm) rfl, AW.out⟩
set_option maxRecDepth 100000 in
theorem field_string_no (s f : Value) (pb : Nat) (w : World) :
    Calls Try.prog 41 #[s, .pointer (some ⟨pb, 0, none⟩), .bool false, f] w (RetB (.tuple #[.string ⟨#[]⟩, .int .i64 0]) w) := by
  go_enter Try.func41, Try.ntmps41
  go_wp2_with fail
  go_ret2
  exact ⟨rfl, Below.refl _ _⟩
set_option maxRecDepth 100000 in
set_option maxHeartbeats 600000 in
theorem field_string_is {w : World} {A : Option Addr} {n cc : Nat} {l : List UInt8} {pb p : Nat} (h : BS w A n cc l) (hc : w.cell? ⟨pb, 0, none⟩ = some (.int .i64 p)) (hf : w.frozen? ⟨pb, 0, none⟩ = false) (hl : pb < w.heap.size) (hp : p ≤ n) :
    Calls Try.prog 41 #[.slice A n cc, .pointer (some ⟨pb, 0, none⟩), .bool true, .func (.func 42) #[] #[]] w
      (fun e w' => e = .returned (.tuple #[.string (strB (textS (l.drop p)).1), .int .i64 (textS (l.drop p)).2.2]) ∧ AtW pb (p + (textS (l.drop p)).2.1) w w') := by
  have hcap := h.cap
  have hcapb := h.capb
  have hsm := h.small
  have hlen := Lib.hid h.len
  have HN := Lib.hid h.nil
  have H := Lib.hid h
  have HP := Lib.hid (@text_pos (l.drop p))
  have hpos : (textS (l.drop p)).2.1 ≤ n - p := by have := HP.out; rw [List.length_drop, hlen.out] at this; exact this
  have HZ := Lib.hid (@text_zero (l.drop p))
  clear h HP
  cases A with
  | none =>
    obtain rfl := HN.out rfl
    obtain rfl : n = 0 := by omega
    obtain rfl : p = 0 := by omega
    simp only [List.drop_zero, Nat.zero_add] at *
    go_enter Try.func41, Try.ntmps41
    go_wp2_with fail
    refine (ctext_any H.out).mono ?_
    rintro e w1 ⟨rfl, hb⟩
    have c1 := (hb.cell (p := ⟨pb, 0, none⟩) hl).trans hc
    have f1 := (hb.frozen (p := ⟨pb, 0, none⟩) hl).trans hf
    have AW := Lib.hid (AtW.of (q := (textS l).2.1) rfl hb hl c1)
    clear hb
    by_cases hz : (textS l).2.2 = 0
    · have hz1 : ((textS l).2.2 != 0) = false := by rw [hz]; rfl
      go_wp2_with fail
      go_ret2
      exact ⟨ret_tup2 rfl (congrArg _ hz.symm), AW.out⟩
    · have hz1 : ((textS l).2.2 != 0) = true := bne_iff_ne.2 hz
      have HZ2 := Lib.hid (HZ.out hz)
      clear hz
      go_wp2_with fail
      go_ret2
      exact ⟨ret_tup2 (congrArg _ HZ2.out.symm) rfl, AW.out⟩
  | some a =>
    have hle1 : (p : Int) ≤ (n : Int) := by omega
    have hle2 : (n : Int) ≤ (cc : Int) := by omega
    go_enter Try.func41, Try.ntmps41
    have WW := Lib.hid (show IntKind.i64.wrap ((p : Int) + (((textS (l.drop p)).2.1 : Nat) : Int)) = (p : Int) + (((textS (l.drop p)).2.1 : Nat) : Int) from IntWalk.i64_in _ (by omega))
    by_cases hpc : p = cc
    · subst hpc
      obtain rfl : n = p := by omega
      have H2 := Lib.hid (H.out.end_)
      go_wp2_with fail
      refine (ctext_any H2.out).mono ?_
      rintro e w1 ⟨rfl, hb⟩
      have c1 := (hb.cell (p := ⟨pb, 0, none⟩) hl).trans hc
      have f1 := (hb.frozen (p := ⟨pb, 0, none⟩) hl).trans hf
      have AW := Lib.hid (AtW.of (q := n + (textS (l.drop n)).2.1) (Int.natCast_add _ _).symm hb hl c1)
      have hw1 := WW.out
      clear hb
      by_cases hz : (textS (l.drop n)).2.2 = 0
      · have hz1 : ((textS (l.drop n)).2.2 != 0) = false := by rw [hz]; rfl
        go_wp2_with fail
        go_ret2
        exact ⟨ret_tup2 rfl (congrArg _ hz.symm), AW.out⟩
      · have hz1 : ((textS (l.drop n)).2.2 != 0) = true := bne_iff_ne.2 hz
        have HZ2 := Lib.hid (HZ.out hz)
        clear hz
        go_wp2_with fail
        go_ret2
        exact ⟨ret_tup2 (congrArg _ HZ2.out.symm) rfl, AW.out⟩
    · have hlt : (p : Int) < (cc : Int) := by omega
      have H2 := Lib.hid (H.out.from_ hp)
      go_wp2_with fail
      refine (ctext_any H2.out).mono ?_
      rintro e w1 ⟨rfl, hb⟩
      have c1 := (hb.cell (p := ⟨pb, 0, none⟩) hl).trans hc
      have f1 := (hb.frozen (p := ⟨pb, 0, none⟩) hl).trans hf
      have AW := Lib.hid (AtW.of (q := p + (textS (l.drop p)).2.1) (Int.natCast_add _ _).symm hb hl c1)
      have hw1 := WW.out
      clear hb
      by_cases hz : (textS (l.drop p)).2.2 = 0
      · have hz1 : ((textS (l.drop p)).2.2 != 0) = false := by rw [hz]; rfl
        go_wp2_with fail
        go_ret2
        exact ⟨ret_tup2 rfl (congrArg _ hz.symm), AW.out⟩
      · have hz1 : ((textS (l.drop p)).2.2 != 0) = true := bne_iff_ne.2 hz
        have HZ2 := Lib.hid (HZ.out hz)
        clear hz
        go_wp2_with fail
        go_ret2
        exact ⟨ret_tup2 (congrArg _ HZ2.out.symm) rfl, AW.out⟩
end Go.Proofs.Ytefijgdbnjmifaa

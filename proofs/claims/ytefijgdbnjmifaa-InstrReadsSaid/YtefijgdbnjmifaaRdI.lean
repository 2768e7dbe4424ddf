/- The reference's reads of numbers and texts, walked. The reference's reads of whole numbers and texts, walked. The memory of the reference's reading of one instruction. -/
import Derived.Test.YtefijgdbnjmifaaRdQ
namespace Go.Proofs.Ytefijgdbnjmifaa
open Go.RowKit

theorem ret_tup3 {a b c d e f : Value} (h : a = d) (h' : b = e) (h'' : c = f) : Ending.returned (.tuple #[a, b, c]) = .returned (.tuple #[d, e, f]) := by rw [h, h', h'']
theorem rnum_step {l : List UInt8} {k acc : Nat} (h : Nm l k acc) (hb : ¬ ((byt l k = 0 ∧ 0 < k) ∨ (k = 9 ∧ byt l k ≠ 1))) :
    IntKind.u64.wrap ((acc : Int) + IntKind.u64.wrap ((byt l k : Int) % 128 * 2 ^ (7 * k))) = ((acc + byt l k % 128 * 2 ^ (7 * k) : Nat) : Int) := by
  obtain ⟨u1, u2⟩ := h.u64 hb
  rw [show ((byt l k : Int) % 128) = ((byt l k % 128 : Nat) : Int) by omega, show (((byt l k % 128 : Nat) : Int) * 2 ^ (7 * k)) = ((byt l k % 128 * 2 ^ (7 * k) : Nat) : Int) by simp, wrap_u64_nat _ u2, ← Int.natCast_add, wrap_u64_nat _ u1]
theorem rnum_nine {l : List UInt8} {acc : Nat} (h : Nm l 9 acc) (hb : ¬ ((byt l 9 = 0 ∧ 0 < 9) ∨ (9 = 9 ∧ byt l 9 ≠ 1))) :
    IntKind.u64.wrap ((acc : Int) + (byt l 9 : Int) % 128 * 9223372036854775808) = ((acc + byt l 9 % 128 * 2 ^ (7 * 9) : Nat) : Int) := by
  obtain ⟨u1, _⟩ := h.u64 hb
  rw [show ((acc : Int) + (byt l 9 : Int) % 128 * 9223372036854775808) = ((acc + byt l 9 % 128 * 2 ^ (7 * 9) : Nat) : Int) by
    have e : (2 : Nat) ^ (7 * 9) = 9223372036854775808 := by decide
    rw [e]; omega, wrap_u64_nat _ u1]
set_option maxRecDepth 100000 in
set_option maxHeartbeats 4000000 in
theorem ruint_any {w : World} {A : Option Addr} {n cc : Nat} {l : List UInt8} (h : BS w A n cc l) (p : Nat) (hp : p ≤ n) :
    Calls Try.prog 28 #[.slice A n cc, .int .i64 p] w (RetB (.tuple #[.int .u64 ((numS (l.drop p)).1 : Int), .int .i64 ((p + (numS (l.drop p)).2.1 : Nat) : Int), .int .i64 (numS (l.drop p)).2.2]) w) := by
  have H := Lib.hid h
  have HL := Lib.hid (show (l.drop p).length = n - p by rw [List.length_drop, h.len])
  have hsm := h.small
  clear h
  go_enter Try.func28, Try.ntmps28
  go_wp2_with fail
  go_loop [7, 8] (fun a i => ∃ (k acc : Nat), i = .int .i64 k ∧ a = .int .u64 acc ∧ p + k ≤ n ∧ Nm (l.drop p) k acc) (fun _ i => 10 - (intOf i).toNat)
  case atStart => exact ⟨0, 0, rfl, rfl, by omega, Nm.start _⟩
  case round =>
    obtain ⟨k, acc, rfl, rfl, hkn, hnm⟩ := hrel
    have hle := hnm.le
    have NM := Lib.hid hnm
    clear hnm
    by_cases hlt : p + k < n
    · obtain ⟨b, off, rfl, hbl, hcell⟩ := H.out.bytes (by omega)
      have cb : w.cell? ⟨b, off + (p + k), none⟩ = some (.int .u8 (byt (l.drop p) k : Int)) := by rw [byt_drop]; exact hcell (p + k) (by omega)
      have hc8 := byt_lt (l.drop p) k
      have e9 : ((k : Int) == 9) = decide (k = 9) := by
        by_cases h9 : k = 9
        · subst h9; rfl
        · rw [decide_eq_false h9]; exact beq_eq_false_iff_ne.2 (by omega)
      have hlt' : k < (l.drop p).length := by rw [HL.out]; omega
      clear hcell
      by_cases hbad : (byt (l.drop p) k = 0 ∧ 0 < k) ∨ (k = 9 ∧ byt (l.drop p) k ≠ 1)
      · have E := Lib.hid (NM.out.bad hlt' hbad)
        clear e9 hlt'
        generalize byt (l.drop p) k = c at *
        go_wp2_with fail
        all_goals
          first
            | (exfalso; omega)
            | (go_ret3
               refine ⟨?_, Below.refl _ _⟩
               rw [E.out]
               dsimp only
               exact ret_tup3 rfl (int_eq (by omega)) rfl)
            | (obtain rfl : k = 9 := by omega
               go_ret3
               refine ⟨?_, Below.refl _ _⟩
               rw [E.out]
               dsimp only
               exact ret_tup3 rfl (int_eq (by omega)) rfl)
      · have ST := Lib.hid (rnum_step NM.out hbad)
        have LA := Lib.hid (fun h => NM.out.last hlt' hbad h)
        have MO := Lib.hid (fun h => NM.out.more hlt' hbad h)
        clear e9 hlt'
        by_cases h128 : byt (l.drop p) k < 128
        · have LA2 := Lib.hid (LA.out h128)
          have N9 : Hid (k = 9 → IntKind.u64.wrap ((acc : Int) + (byt (l.drop p) k : Int) % 128 * 9223372036854775808) = ((acc + byt (l.drop p) k % 128 * 2 ^ (7 * 9) : Nat) : Int)) := Lib.hid (fun h9 => by subst h9; exact rnum_nine NM.out hbad)
          generalize byt (l.drop p) k = c at *
          go_wp2_with fail
          all_goals first
            | (exfalso; omega)
            | (go_ret3
               refine ⟨?_, Below.refl _ _⟩
               rw [LA2.out]
               dsimp only
               exact ret_tup3 (int_eq ST.out) (int_eq (by omega)) rfl)
            | (obtain rfl : k = 9 := by omega
               go_ret3
               refine ⟨?_, Below.refl _ _⟩
               rw [LA2.out]
               dsimp only
               exact ret_tup3 (int_eq (N9.out rfl)) (int_eq (by omega)) rfl)
        · have MO2 := Lib.hid (MO.out h128)
          have hk9 : k ≠ 9 := by omega
          have hk9b : ((k : Int) == 9) = false := beq_eq_false_iff_ne.2 (by omega)
          generalize byt (l.drop p) k = c at *
          go_wp2_with fail
          all_goals first
            | (exfalso; omega)
            | (go_round
               case rel => exact ⟨k + 1, _, by go_num, int_eq ST.out, by omega, MO2.out⟩
               case measure => simp [intOf]; omega)
    · have E := Lib.hid (NM.out.ended (by rw [HL.out]; omega))
      go_wp2_with fail
      go_ret3
      refine ⟨?_, Below.refl _ _⟩
      rw [E.out, HL.out]
      dsimp only
      exact ret_tup3 rfl (int_eq (by omega)) rfl
end Go.Proofs.Ytefijgdbnjmifaa
namespace Go.Proofs.Ytefijgdbnjmifaa
open Go.RowKit

theorem zagI_odd {v : Nat} (h : v % 2 = 1) : zagI v = -((v : Int) / 2) - 1 := by unfold zagI; rw [if_pos h]; omega
theorem zagI_even {v : Nat} (h : ¬ v % 2 = 1) : zagI v = (v : Int) / 2 := by unfold zagI; rw [if_neg h]; omega
theorem zag_bad {l : List UInt8} (h : (numS l).2.2 ≠ 0) : zagI (numS l).1 = 0 := by rw [num_zero h]; rfl
set_option maxRecDepth 100000 in
theorem rint_any {w : World} {A : Option Addr} {n cc : Nat} {l : List UInt8} (h : BS w A n cc l) (p : Nat) (hp : p ≤ n) :
    Calls Try.prog 43 #[.slice A n cc, .int .i64 p] w (RetB (.tuple #[.int .i64 (zagI (numS (l.drop p)).1), .int .i64 ((p + (numS (l.drop p)).2.1 : Nat) : Int), .int .i64 (numS (l.drop p)).2.2]) w) := by
  go_enter Try.func43, Try.ntmps43
  go_wp2_with fail
  refine (ruint_any h p hp).mono ?_
  rintro e w1 ⟨rfl, hb⟩
  have HB := Lib.hid hb
  clear h hb
  have hv := num_lt (l.drop p)
  by_cases he : (numS (l.drop p)).2.2 = 0
  · have he1 : ((numS (l.drop p)).2.2 != 0) = false := by rw [he]; rfl
    clear he
    by_cases h2 : (numS (l.drop p)).1 % 2 = 1
    · have hb2 : (((numS (l.drop p)).1 : Int) % 2 == 1) = true := beq_iff_eq.2 (by omega)
      have Z := Lib.hid (zagI_odd h2)
      generalize (numS (l.drop p)).1 = v at *
      go_wp2_with fail
      go_ret3
      exact ⟨ret_tup3 (int_eq (by rw [Z.out])) rfl rfl, HB.out⟩
    · have hb2 : (((numS (l.drop p)).1 : Int) % 2 == 1) = false := beq_eq_false_iff_ne.2 (by omega)
      have Z := Lib.hid (zagI_even h2)
      generalize (numS (l.drop p)).1 = v at *
      go_wp2_with fail
      go_ret3
      exact ⟨ret_tup3 (int_eq (by rw [Z.out])) rfl rfl, HB.out⟩
  · have he1 : ((numS (l.drop p)).2.2 != 0) = true := bne_iff_ne.2 he
    have Z := Lib.hid (zag_bad he)
    clear he
    go_wp2_with fail
    go_ret3
    exact ⟨ret_tup3 (int_eq Z.out.symm) rfl rfl, HB.out⟩
set_option maxRecDepth 100000 in
set_option maxHeartbeats 2000000 in
theorem rtext_any {w : World} {A : Option Addr} {n cc : Nat} {l : List UInt8} (h : BS w A n cc l) (p : Nat) (hp : p ≤ n) :
    Calls Try.prog 44 #[.slice A n cc, .int .i64 p] w (RetB (.tuple #[.string (strB (textS (l.drop p)).1), .int .i64 ((p + (textS (l.drop p)).2.1 : Nat) : Int), .int .i64 (textS (l.drop p)).2.2]) w) := by
  have H := Lib.hid h
  have hsm := h.small
  have hcap := h.cap
  have hcapb := h.capb
  have hnil := Lib.hid h.nil
  go_enter Try.func44, Try.ntmps44
  go_wp2_with fail
  refine (ruint_any h p hp).mono ?_
  rintro e w1 ⟨rfl, hb⟩
  have HB := Lib.hid hb
  have HBS := Lib.hid (h.below hb)
  have HL := Lib.hid (show (l.drop p).length = n - p by rw [List.length_drop, h.len])
  have hv := num_lt (l.drop p)
  have hq := @num_pos (l.drop p)
  rw [HL.out] at hq
  clear h hb
  by_cases he : (numS (l.drop p)).2.2 = 0
  · have he1 : ((numS (l.drop p)).2.2 != 0) = false := by rw [he]; rfl
    have T1 := Lib.hid (text_short he)
    have T2 := Lib.hid (text_good he)
    have HEq := Lib.hid he
    clear he
    rw [HL.out] at T1 T2
    have DR := Lib.hid (show (l.drop p).drop (numS (l.drop p)).2.1 = l.drop (p + (numS (l.drop p)).2.1) by rw [List.drop_drop])
    rw [DR.out] at T2
    generalize (numS (l.drop p)).1 = v at *
    generalize (numS (l.drop p)).2.1 = q at *
    have hw1 : IntKind.i64.wrap ((n : Int) - ((p + q : Nat) : Int)) = (n : Int) - ((p + q : Nat) : Int) := IntWalk.i64_in _ (by omega)
    have hw2 : IntKind.u64.wrap ((n : Int) - ((p + q : Nat) : Int)) = (n : Int) - ((p + q : Nat) : Int) := by rw [IntKind.wrap_u64]; omega
    by_cases hs : n - p - q < v
    · have T := Lib.hid (T1.out hs)
      clear T1 T2
      go_wp2_with fail
      go_ret3
      refine ⟨?_, HB.out⟩
      rw [T.out]
      dsimp only
      exact ret_tup3 rfl (int_eq (by omega)) rfl
    · have T := Lib.hid (T2.out hs)
      clear T1 T2
      by_cases hv0 : 0 < v
      · obtain ⟨b, off, rfl, hbl, hcell⟩ := HBS.out.bytes (by omega)
        have hcv : ∀ cap, (convert 45 9 (.slice (some ⟨b, off + (p + q), none⟩) v cap)).run Try.prog w1 = .ok (.string (strB ((l.drop (p + q)).take v))) w1 := fun cap => by
          have := Go.Lib.run_convert_window (P := Try.prog) w1 45 5 9 Try.underlying45 Try.underlying5 Try.underlying9 b off (strB l) (rd_bytes HBS.out.len (fun j hj => hcell j (by omega))) (p + q) v cap (by show p + q + v ≤ l.length; have := HBS.out.len; omega)
          rw [ext_take] at this
          exact this
        clear hcell
        go_wp2_with fail
        go_ret3
        refine ⟨?_, HB.out⟩
        rw [T.out]
        dsimp only
        exact ret_tup3 rfl (int_eq (by omega)) (int_eq HEq.out)
      · obtain rfl : v = 0 := by omega
        have hcv : ∀ (q : Option Addr) (cap : Nat) (w : World), (convert 45 9 (.slice q 0 cap)).run Try.prog w = .ok (.string (strB [])) w := fun q cap w => by
          rw [run_convert_bytes_string w 45 9 5 q 0 cap Try.underlying45 Try.underlying5 Try.underlying9]
          cases q <;> simp [Conv.bytesToString, loadCells, go_sem] <;> rfl
        clear hs
        cases A with
        | none =>
          have hcc := hnil.out rfl
          subst hcc
          have hn0 : n = 0 := by omega
          subst hn0
          have hp0 : p = 0 := by omega
          subst hp0
          have hq0 : q = 0 := by omega
          subst hq0
          go_wp2_with fail
          all_goals
            go_ret3
            refine ⟨?_, HB.out⟩
            rw [T.out]
            dsimp only
            exact ret_tup3 rfl (int_eq (by omega)) (int_eq HEq.out)
        | some a =>
          by_cases hpc : p + q = cc
          · subst hpc
            go_wp2_with fail
            go_ret3
            refine ⟨?_, HB.out⟩
            rw [T.out]
            dsimp only
            exact ret_tup3 rfl (int_eq (by omega)) (int_eq HEq.out)
          · go_wp2_with fail
            go_ret3
            refine ⟨?_, HB.out⟩
            rw [T.out]
            dsimp only
            exact ret_tup3 rfl (int_eq (by omega)) (int_eq HEq.out)
  · have he1 : ((numS (l.drop p)).2.2 != 0) = true := bne_iff_ne.2 he
    have T := Lib.hid (text_bad he)
    clear he
    go_wp2_with fail
    go_ret3
    refine ⟨?_, HB.out⟩
    rw [T.out]
    rfl
end Go.Proofs.Ytefijgdbnjmifaa
namespace Go.Proofs.Ytefijgdbnjmifaa
open Go.RowKit

/-- While the reference reads one: its answer lies in block w.heap.size (still zero), the instruction in the next, its row in block k. -/
structure Q1 (w W : World) (k : Nat) (x : InsV) (op : Nat) : Prop where
  bel : Below w.heap.size w W
  klo : w.heap.size + 1 < k
  khi : k < W.heap.size
  y0 : W.cell? ⟨w.heap.size, 0, none⟩ = some (.int .u8 0)
  y1 : W.cell? ⟨w.heap.size, 1, none⟩ = some (.int .i64 0)
  y2 : W.cell? ⟨w.heap.size, 2, none⟩ = some (.int .i64 0)
  y3 : W.cell? ⟨w.heap.size, 3, none⟩ = some (.string ⟨#[]⟩)
  x0 : W.cell? ⟨w.heap.size + 1, 0, none⟩ = some (.int .u8 (x.op : Int))
  x1 : W.cell? ⟨w.heap.size + 1, 1, none⟩ = some (.int .i64 x.a)
  x2 : W.cell? ⟨w.heap.size + 1, 2, none⟩ = some (.int .i64 x.int)
  x3 : W.cell? ⟨w.heap.size + 1, 3, none⟩ = some (.string x.text)
  r1 : W.cell? ⟨k, 1, none⟩ = some (.int .i64 (aK op))
  r2 : W.cell? ⟨k, 2, none⟩ = some (.bool (numK op))
  r3 : W.cell? ⟨k, 3, none⟩ = some (.bool (decide (textK op = 1)))
  r4 : W.cell? ⟨k, 4, none⟩ = some (.bool (decide (textK op = 2)))
  fy : ∀ j, W.frozen? ⟨w.heap.size, j, none⟩ = false
  fx : ∀ j, W.frozen? ⟨w.heap.size + 1, j, none⟩ = false
theorem Q1.below {w W W' : World} {k op : Nat} {x : InsV} (h : Q1 w W k x op) (B : Below W.heap.size W W') : Q1 w W' k x op := by
  have hlo := h.klo
  have hhi := h.khi
  have c : ∀ b j, b < W.heap.size → W'.cell? ⟨b, j, none⟩ = W.cell? ⟨b, j, none⟩ := (bcell B).1
  have f : ∀ b j, b < W.heap.size → W'.frozen? ⟨b, j, none⟩ = W.frozen? ⟨b, j, none⟩ := (bcell B).2
  exact {
    bel := bthen h.bel B
    klo := hlo
    khi := Nat.lt_of_lt_of_le hhi B.size
    y0 := (c _ _ (by omega)).trans h.y0
    y1 := (c _ _ (by omega)).trans h.y1
    y2 := (c _ _ (by omega)).trans h.y2
    y3 := (c _ _ (by omega)).trans h.y3
    x0 := (c _ _ (by omega)).trans h.x0
    x1 := (c _ _ (by omega)).trans h.x1
    x2 := (c _ _ (by omega)).trans h.x2
    x3 := (c _ _ (by omega)).trans h.x3
    r1 := (c _ _ hhi).trans h.r1
    r2 := (c _ _ hhi).trans h.r2
    r3 := (c _ _ hhi).trans h.r3
    r4 := (c _ _ hhi).trans h.r4
    fy := fun j => (f _ _ (by omega)).trans (h.fy j)
    fx := fun j => (f _ _ (by omega)).trans (h.fx j) }
theorem Q1.drew {w W : World} {k op : Nat} {x : InsV} (h : Q1 w W k x op) (q : Nat) : Q1 w (W.drewN q) k x op := h.below (below_drewN (Below.refl _ _) q)
/-- A store into the instruction. -/
theorem Q1.other {w W : World} {k op j : Nat} {x : InsV} (h : Q1 w W k x op) (v : Value) :
    Below w.heap.size w (W.setCell ⟨w.heap.size + 1, j, none⟩ v) ∧ (∀ b i, b ≠ w.heap.size + 1 → (W.setCell ⟨w.heap.size + 1, j, none⟩ v).cell? ⟨b, i, none⟩ = W.cell? ⟨b, i, none⟩) ∧
      (∀ i, i ≠ j → (W.setCell ⟨w.heap.size + 1, j, none⟩ v).cell? ⟨w.heap.size + 1, i, none⟩ = W.cell? ⟨w.heap.size + 1, i, none⟩) :=
  ⟨⟨h.bel.os, h.bel.tape, h.bel.output, by simp; exact h.bel.size, fun i hi => (heap_setCell_other _ _ i _ (by show i ≠ w.heap.size + 1; omega)).trans (h.bel.block i hi)⟩,
    fun b i hb => World.cell?_setCell_other _ _ _ _ (fun e => by injection e with e1 _ _; exact hb e1.symm), fun i hi => World.cell?_setCell_other _ _ _ _ (fun e => by injection e with _ e2 _; exact hi e2.symm)⟩
theorem Q1.setInt {w W : World} {k op : Nat} {x : InsV} (h : Q1 w W k x op) (v : Int) : Q1 w (W.setCell ⟨w.heap.size + 1, 2, none⟩ (.int .i64 v)) k { x with int := v } op := by
  obtain ⟨o1, o2, o3⟩ := h.other (j := 2) (.int .i64 v)
  have := h.klo
  exact { bel := o1, klo := h.klo, khi := by simp; exact h.khi, y0 := (o2 _ _ (by omega)).trans h.y0, y1 := (o2 _ _ (by omega)).trans h.y1, y2 := (o2 _ _ (by omega)).trans h.y2, y3 := (o2 _ _ (by omega)).trans h.y3, x0 := (o3 _ (by omega)).trans h.x0, x1 := (o3 _ (by omega)).trans h.x1, x2 := World.cell?_setCell_same _ _ _ h.x2, x3 := (o3 _ (by omega)).trans h.x3, r1 := (o2 _ _ (by omega)).trans h.r1, r2 := (o2 _ _ (by omega)).trans h.r2, r3 := (o2 _ _ (by omega)).trans h.r3, r4 := (o2 _ _ (by omega)).trans h.r4, fy := fun j => (World.frozen?_setCell _ _ _ _).trans (h.fy j), fx := fun j => (World.frozen?_setCell _ _ _ _).trans (h.fx j) }
theorem Q1.setText {w W : World} {k op : Nat} {x : InsV} (h : Q1 w W k x op) (v : ByteArray) : Q1 w (W.setCell ⟨w.heap.size + 1, 3, none⟩ (.string v)) k { x with text := v } op := by
  obtain ⟨o1, o2, o3⟩ := h.other (j := 3) (.string v)
  have := h.klo
  exact { bel := o1, klo := h.klo, khi := by simp; exact h.khi, y0 := (o2 _ _ (by omega)).trans h.y0, y1 := (o2 _ _ (by omega)).trans h.y1, y2 := (o2 _ _ (by omega)).trans h.y2, y3 := (o2 _ _ (by omega)).trans h.y3, x0 := (o3 _ (by omega)).trans h.x0, x1 := (o3 _ (by omega)).trans h.x1, x2 := (o3 _ (by omega)).trans h.x2, x3 := World.cell?_setCell_same _ _ _ h.x3, r1 := (o2 _ _ (by omega)).trans h.r1, r2 := (o2 _ _ (by omega)).trans h.r2, r3 := (o2 _ _ (by omega)).trans h.r3, r4 := (o2 _ _ (by omega)).trans h.r4, fy := fun j => (World.frozen?_setCell _ _ _ _).trans (h.fy j), fx := fun j => (World.frozen?_setCell _ _ _ _).trans (h.fx j) }
theorem Q1.setA {w W : World} {k op : Nat} {x : InsV} (h : Q1 w W k x op) (v : Int) : Q1 w (W.setCell ⟨w.heap.size + 1, 1, none⟩ (.int .i64 v)) k { x with a := v } op := by
  obtain ⟨o1, o2, o3⟩ := h.other (j := 1) (.int .i64 v)
  have := h.klo
  exact { bel := o1, klo := h.klo, khi := by simp; exact h.khi, y0 := (o2 _ _ (by omega)).trans h.y0, y1 := (o2 _ _ (by omega)).trans h.y1, y2 := (o2 _ _ (by omega)).trans h.y2, y3 := (o2 _ _ (by omega)).trans h.y3, x0 := (o3 _ (by omega)).trans h.x0, x1 := World.cell?_setCell_same _ _ _ h.x1, x2 := (o3 _ (by omega)).trans h.x2, x3 := (o3 _ (by omega)).trans h.x3, r1 := (o2 _ _ (by omega)).trans h.r1, r2 := (o2 _ _ (by omega)).trans h.r2, r3 := (o2 _ _ (by omega)).trans h.r3, r4 := (o2 _ _ (by omega)).trans h.r4, fy := fun j => (World.frozen?_setCell _ _ _ _).trans (h.fy j), fx := fun j => (World.frozen?_setCell _ _ _ _).trans (h.fx j) }
/-- The answer is laid down. -/
theorem Q1.answer {w W : World} {k op : Nat} {x : InsV} (h : Q1 w W k x op) {a b c d : Value} {W6 : World} (e : W6 = (((W.setCell ⟨w.heap.size, 0, none⟩ a).setCell ⟨w.heap.size, 1, none⟩ b).setCell ⟨w.heap.size, 2, none⟩ c).setCell ⟨w.heap.size, 3, none⟩ d) :
    W6.cell? ⟨w.heap.size, 0, none⟩ = some a ∧ W6.cell? ⟨w.heap.size, 1, none⟩ = some b ∧ W6.cell? ⟨w.heap.size, 2, none⟩ = some c ∧ W6.cell? ⟨w.heap.size, 3, none⟩ = some d ∧ Below w.heap.size w W6 := by
  subst e
  have n : ∀ i j : Nat, i ≠ j → (⟨w.heap.size, i, none⟩ : Addr) ≠ ⟨w.heap.size, j, none⟩ := fun i j hij e => by injection e with _ e2 _; exact hij e2
  refine ⟨?_, ?_, ?_, ?_, ?_⟩
  · rw [World.cell?_setCell_other _ _ _ _ (n _ _ (by decide)), World.cell?_setCell_other _ _ _ _ (n _ _ (by decide)), World.cell?_setCell_other _ _ _ _ (n _ _ (by decide))]
    exact World.cell?_setCell_same _ _ _ h.y0
  · rw [World.cell?_setCell_other _ _ _ _ (n _ _ (by decide)), World.cell?_setCell_other _ _ _ _ (n _ _ (by decide))]
    exact World.cell?_setCell_same _ _ _ ((World.cell?_setCell_other _ _ _ _ (n _ _ (by decide))).trans h.y1)
  · rw [World.cell?_setCell_other _ _ _ _ (n _ _ (by decide))]
    exact World.cell?_setCell_same _ _ _ ((World.cell?_setCell_other _ _ _ _ (n _ _ (by decide))).trans ((World.cell?_setCell_other _ _ _ _ (n _ _ (by decide))).trans h.y2))
  · exact World.cell?_setCell_same _ _ _ ((World.cell?_setCell_other _ _ _ _ (n _ _ (by decide))).trans ((World.cell?_setCell_other _ _ _ _ (n _ _ (by decide))).trans ((World.cell?_setCell_other _ _ _ _ (n _ _ (by decide))).trans h.y3)))
  · exact (((h.bel.setCell (Nat.le_refl _) _).setCell (Nat.le_refl _) _).setCell (Nat.le_refl _) _).setCell (Nat.le_refl _) _
/-- The beginning. -/
theorem Q1.start {w w1 : World} {op : Nat} (t1 t2 t3 : TypeId) (c0 c5 c6 : Value)
    (hb : Below ((w.alloc (.cells #[.int .u8 0, .int .i64 0, .int .i64 0, .string ⟨#[]⟩] t1)).alloc (.cells #[.int .u8 (op : Int), .int .i64 0, .int .i64 0, .string ⟨#[]⟩] t2)).heap.size ((w.alloc (.cells #[.int .u8 0, .int .i64 0, .int .i64 0, .string ⟨#[]⟩] t1)).alloc (.cells #[.int .u8 (op : Int), .int .i64 0, .int .i64 0, .string ⟨#[]⟩] t2)) w1) :
    Q1 w (w1.alloc (.cells #[c0, .int .i64 (aK op), .bool (numK op), .bool (decide (textK op = 1)), .bool (decide (textK op = 2)), c5, c6] t3)) w1.heap.size ⟨op, 0, 0, ⟨#[]⟩⟩ op := by
  have e1 : (w.alloc (.cells #[.int .u8 0, .int .i64 0, .int .i64 0, .string ⟨#[]⟩] t1)).heap.size = w.heap.size + 1 := by simp
  have hs : w.heap.size + 1 + 1 ≤ w1.heap.size := by have := hb.size; simpa using this
  have cy : ∀ j, (w1.alloc (.cells #[c0, .int .i64 (aK op), .bool (numK op), .bool (decide (textK op = 1)), .bool (decide (textK op = 2)), c5, c6] t3)).cell? ⟨w.heap.size, j, none⟩ = (#[.int .u8 0, .int .i64 0, .int .i64 0, .string ⟨#[]⟩] : Array Value)[j]? := fun j => by
    rw [cell_old _ _ _ _ (by omega), hb.cell (p := ⟨w.heap.size, j, none⟩) (by simp; omega), cell_old _ _ _ _ (by omega), cell_new _ _ rfl]
  have cx : ∀ j, (w1.alloc (.cells #[c0, .int .i64 (aK op), .bool (numK op), .bool (decide (textK op = 1)), .bool (decide (textK op = 2)), c5, c6] t3)).cell? ⟨w.heap.size + 1, j, none⟩ = (#[.int .u8 (op : Int), .int .i64 0, .int .i64 0, .string ⟨#[]⟩] : Array Value)[j]? := fun j => by
    rw [cell_old _ _ _ _ (by omega), hb.cell (p := ⟨w.heap.size + 1, j, none⟩) (by simp), cell_new _ _ e1]
  exact {
    bel := ((((Below.refl _ w).alloc (Nat.le_refl _) _).alloc (by simp) _).trans ⟨hb.os, hb.tape, hb.output, hb.size, fun i hi => hb.block i (by simp; omega)⟩).alloc (by omega) _
    klo := by omega
    khi := by simp
    y0 := cy 0
    y1 := cy 1
    y2 := cy 2
    y3 := cy 3
    x0 := cx 0
    x1 := cx 1
    x2 := cx 2
    x3 := cx 3
    r1 := by rw [cell_new _ _ rfl]; rfl
    r2 := by rw [cell_new _ _ rfl]; rfl
    r3 := by rw [cell_new _ _ rfl]; rfl
    r4 := by rw [cell_new _ _ rfl]; rfl
    fy := fun j => by rw [frozen_old _ _ _ _ (by omega), hb.frozen (p := ⟨w.heap.size, j, none⟩) (by simp; omega), frozen_old _ _ _ _ (by omega), frozen_new _ _ rfl]
    fx := fun j => by rw [frozen_old _ _ _ _ (by omega), hb.frozen (p := ⟨w.heap.size + 1, j, none⟩) (by simp), frozen_new _ _ e1] }
end Go.Proofs.Ytefijgdbnjmifaa

/- The document's reads of complex numbers and nodes, walked. -/
import Derived.Test.YtaeophaecclnbaaGreatDoorMgR
import Derived.Test.YtaeophaecclnbaaGreatDoorMgC
namespace Go.Proofs.YtaeophaecclnbaaGreatDoor
open Go.RowKit

/-- Reading a complex number from a place on. -/
def numC (l : List UInt8) (p : Nat) : (Nat × Nat) × Nat × Int :=
  if l.length < p + 16 then ((0, 0), l.length, 4) else if fineB (beN l p 8) (beN l (p + 8) 8) = false then ((0, 0), p, 20) else ((beN l p 8, beN l (p + 8) 8), p + 16, 0)
theorem numC_short {l : List UInt8} {p : Nat} (h : l.length < p + 16) : numC l p = ((0, 0), l.length, 4) := if_pos h
theorem numC_bad {l : List UInt8} {p : Nat} (h : ¬ l.length < p + 16) (h1 : fineB (beN l p 8) (beN l (p + 8) 8) = false) : numC l p = ((0, 0), p, 20) := (if_neg h).trans (if_pos h1)
theorem numC_ok {l : List UInt8} {p : Nat} (h : ¬ l.length < p + 16) (h1 : fineB (beN l p 8) (beN l (p + 8) 8) = true) : numC l p = ((beN l p 8, beN l (p + 8) 8), p + 16, 0) := (if_neg h).trans (if_neg (by rw [h1]; decide))
theorem beN_step (l : List UInt8) (p : Nat) {k : Nat} (hk : k < 8) : IntKind.u64.wrap (IntKind.u64.wrap (256 * (beN l p k : Int)) + (byt l (p + k) : Int)) = (beN l p (k + 1) : Int) := by
  have h := beN_lt l p k
  have hb := byt_lt l (p + k)
  have e : (256 : Nat) ^ k ≤ 256 ^ 7 := Nat.pow_le_pow_right (by decide) (by omega)
  have e7 : (256 : Nat) ^ 7 = 72057594037927936 := by decide
  rw [e7] at e
  rw [IntKind.wrap_u64, IntKind.wrap_u64]
  show _ = ((beN l p k * 256 + byt l (p + k) : Nat) : Int)
  omega
theorem frombits_any (x : Nat) (w : World) : (callFunc 114 #[.int .u64 (x : Int)]).run Tryz.prog w = .ok (.value (.float .f64 x)) w := by
  rw [run_callFunc_extern (e := Extern.MathFloatBits.float64frombits) Tryz.func114 (by kernel_rfl) (by kernel_rfl) (by kernel_rfl) (by kernel_rfl)]
  rfl
set_option maxRecDepth 100000 in
set_option maxHeartbeats 4000000 in
theorem rnum_any {w : World} {A : Option Addr} {n cc : Nat} {l : List UInt8} (h : BS w A n cc l) (p : Nat) (hp : p ≤ n) :
    Calls Tryz.prog 73 #[.slice A n cc, .int .i64 p] w (RetB (.tuple #[.complex .f64 (numC l p).1.1 (numC l p).1.2, .int .i64 ((numC l p).2.1 : Nat), .int .i64 (numC l p).2.2]) w) := by
  have H := Lib.hid h
  have hsm := h.small
  have HL := Lib.hid h.len
  clear h
  have w1 : IntKind.i64.wrap ((n : Int) - (p : Int)) = (n : Int) - (p : Int) := IntWalk.i64_in _ (by omega)
  by_cases hs : n < p + 16
  · have E := Lib.hid (numC_short (l := l) (p := p) (by rw [HL.out]; exact hs))
    have hd : decide ((n : Int) - (p : Int) < 16) = true := decide_eq_true (by omega)
    go_enter Tryz.func73, Tryz.ntmps73
    go_wp2_with fail
    go_ret3
    refine ⟨?_, Below.refl _ _⟩
    rw [E.out, HL.out]
    rfl
  · have hd : decide ((n : Int) - (p : Int) < 16) = false := decide_eq_false (by omega)
    have NS := Lib.hid (show ¬ l.length < p + 16 by rw [HL.out]; exact hs)
    obtain ⟨b, off, rfl, hbl, hcell⟩ := H.out.bytes (by omega)
    have HC := Lib.hid hcell
    clear hcell
    go_enter Tryz.func73, Tryz.ntmps73
    go_wp2_with fail
    go_loop [7, 8, 9] (fun x y i => ∃ k : Nat, i = .int .i64 k ∧ x = .int .u64 (beN l p k : Int) ∧ y = .int .u64 (beN l (p + 8) k : Int) ∧ k ≤ 8) (fun _ _ i => 8 - (intOf i).toNat)
    case atStart => exact ⟨0, rfl, rfl, rfl, by omega⟩
    case round =>
      obtain ⟨k, rfl, rfl, rfl, hk⟩ := hrel
      by_cases hlt : k < 8
      · have d1 := HC.out (p + k) (by omega)
        have d2 := HC.out (p + 8 + k) (by omega)
        have S1 := Lib.hid (beN_step l p hlt)
        have S2 := Lib.hid (beN_step l (p + 8) hlt)
        have b1 := byt_lt l (p + k)
        have b2 := byt_lt l (p + 8 + k)
        generalize byt l (p + k) = x1 at *
        generalize byt l (p + 8 + k) = x2 at *
        go_wp2_with fail
        go_round
        case rel => exact ⟨k + 1, by go_num, int_eq S1.out, int_eq S2.out, by omega⟩
        case measure => simp [intOf]; omega
      · obtain rfl : k = 8 := by omega
        have HF := Lib.hid (rfine_all (beN l p 8) (beN l (p + 8) 8))
        have E1 := Lib.hid (numC_bad (l := l) (p := p) NS.out)
        have E2 := Lib.hid (numC_ok (l := l) (p := p) NS.out)
        have hx := beN_lt l p 8
        have hy := beN_lt l (p + 8) 8
        rw [show (256 : Nat) ^ 8 = 18446744073709551616 by decide] at hx hy
        cases hf : fineB (beN l p 8) (beN l (p + 8) 8) with
        | true =>
          have E := Lib.hid (E2.out hf)
          rw [hf] at HF
          clear E1 E2 hf
          have hfb := frombits_any
          generalize beN l p 8 = x at *
          generalize beN l (p + 8) 8 = y at *
          go_wp2_with fail
          refine (HF.out _).mono ?_
          rintro e w1 ⟨rfl, rfl⟩
          go_wp2_with fail
          go_ret3
          refine ⟨?_, Below.refl _ _⟩
          rw [E.out]
          rfl
        | false =>
          have E := Lib.hid (E1.out hf)
          rw [hf] at HF
          clear E1 E2 hf
          have hfb := frombits_any
          generalize beN l p 8 = x at *
          generalize beN l (p + 8) 8 = y at *
          go_wp2_with fail
          refine (HF.out _).mono ?_
          rintro e w1 ⟨rfl, rfl⟩
          go_wp2_with fail
          go_ret3
          refine ⟨?_, Below.refl _ _⟩
          rw [E.out]
          rfl
/-- What reading a node answers. -/
def NodePost (l : List UInt8) (p size : Nat) (w : World) (e : Ending) (w' : World) : Prop :=
  ∃ x : Node, e = .returned (.tuple #[x.val, .int .i64 ((nodeS l p size).2.1 : Nat), .int .i64 (nodeS l p size).2.2]) ∧ ((nodeS l p size).2.2 = 0 → x = (nodeS l p size).1) ∧ Below w.heap.size w w'
theorem NodePost.bad {l : List UInt8} {p size q : Nat} {er z : Int} {x : Node} {w w' : World} (h : nodeS l p size = (zN, q, er)) (he : er ≠ 0) (hz : z = (q : Int)) (hb : Below w.heap.size w w') : NodePost l p size w (.returned (.tuple #[x.val, .int .i64 z, .int .i64 er])) w' := by
  subst hz
  exact ⟨x, by rw [h], fun c => by rw [h] at c; exact absurd c he, hb⟩
theorem NodePost.good {l : List UInt8} {p size q : Nat} {z : Int} {x : Node} {w w' : World} (h : nodeS l p size = (x, q, 0)) (hz : z = (q : Int)) (hb : Below w.heap.size w w') : NodePost l p size w (.returned (.tuple #[x.val, .int .i64 z, .int .i64 0])) w' := by
  subst hz
  exact ⟨x, by rw [h], fun _ => by rw [h], hb⟩
/-! ### The node -/
set_option maxRecDepth 100000 in
set_option maxHeartbeats 4000000 in
theorem rnode_0 {w : World} {A : Option Addr} {n cc : Nat} {l : List UInt8} (h : BS w A n cc l) {p size : Nat} (hp : p < n) (k0 : byt l p = 0) :
    Calls Tryz.prog 45 #[.slice A n cc, .int .i64 p, .int .i64 size] w (NodePost l p size w) := by
  have H := Lib.hid h
  have hsm := h.small
  have hsc := store_cx
  have HL := Lib.hid h.len
  have hd := drop_len l (p + 1)
  rw [HL.out] at hd
  have hnv := num_lt (l.drop (p + 1))
  have hnq := num_pos (l := l.drop (p + 1))
  have htq := text_pos (l := l.drop (p + 1))
  rw [hd] at hnq htq
  obtain ⟨b, off, rfl, hbl, hcell⟩ := h.bytes (by omega)
  have HC := Lib.hid (show ∀ j, j < n → w.cell? ⟨b, off + j, none⟩ = some (.int .u8 (byt l j : Int)) from fun j hj => hcell j (by omega))
  have c0 : w.cell? ⟨b, off + p, none⟩ = some (.int .u8 (byt l p : Int)) := HC.out p hp
  have hk8 := byt_lt l p
  clear hcell h
  generalize hkk : byt l p = kb at *
  have NS := Lib.hid (node_none (size := size) (hkk.trans k0))
  subst k0
  clear hkk
  go_enter Tryz.func45, Tryz.ntmps45
  go_wp2_with fail
  refine bodyPost_ret (v := .tuple #[(zN : Node).val, .int .i64 ((p : Int) + 1), .int .i64 0]) (by first | (simp [results, Tryz.results45, go_sem]; done) | (simp [results, Tryz.results45, go_sem]; rfl) | (simp [results, Tryz.results45, go_sem, *]; done) | (simp [results, Tryz.results45, go_sem, *]; rfl)) rfl (NodePost.good (x := zN) NS.out (by omega) (by go_grown))
set_option maxRecDepth 100000 in
set_option maxHeartbeats 4000000 in
theorem rnode_1 {w : World} {A : Option Addr} {n cc : Nat} {l : List UInt8} (h : BS w A n cc l) {p size : Nat} (hp : p < n) (k1 : byt l p = 1) :
    Calls Tryz.prog 45 #[.slice A n cc, .int .i64 p, .int .i64 size] w (NodePost l p size w) := by
  have H := Lib.hid h
  have hsm := h.small
  have hsc := store_cx
  have HL := Lib.hid h.len
  have hd := drop_len l (p + 1)
  rw [HL.out] at hd
  have hnv := num_lt (l.drop (p + 1))
  have hnq := num_pos (l := l.drop (p + 1))
  have htq := text_pos (l := l.drop (p + 1))
  rw [hd] at hnq htq
  obtain ⟨b, off, rfl, hbl, hcell⟩ := h.bytes (by omega)
  have HC := Lib.hid (show ∀ j, j < n → w.cell? ⟨b, off + j, none⟩ = some (.int .u8 (byt l j : Int)) from fun j hj => hcell j (by omega))
  have c0 : w.cell? ⟨b, off + p, none⟩ = some (.int .u8 (byt l p : Int)) := HC.out p hp
  have hk8 := byt_lt l p
  clear hcell h
  generalize hkk : byt l p = kb at *
  have NB := Lib.hid (node_bool_short (size := size) (hkk.trans k1))
  have NC := Lib.hid (node_bool_bad (size := size) (hkk.trans k1))
  have ND := Lib.hid (node_bool_ok (size := size) (hkk.trans k1))
  rw [HL.out] at NB NC ND
  subst k1
  clear hkk
  by_cases h1 : n ≤ p + 1
  · go_enter Tryz.func45, Tryz.ntmps45
    go_wp2_with fail
    refine bodyPost_ret (v := .tuple #[(⟨1, 0, 0, ⟨#[]⟩, 0, 0⟩ : Node).val, .int .i64 (n : Int), .int .i64 4]) (by first | (simp [results, Tryz.results45, go_sem]; done) | (simp [results, Tryz.results45, go_sem]; rfl) | (simp [results, Tryz.results45, go_sem, *]; done) | (simp [results, Tryz.results45, go_sem, *]; rfl)) rfl (NodePost.bad (NB.out h1) (by decide) rfl (by go_grown))
  · have c1 : w.cell? ⟨b, off + (p + 1), none⟩ = some (.int .u8 (byt l (p + 1) : Int)) := HC.out (p + 1) (by omega)
    have hb8 := byt_lt l (p + 1)
    have NC2 := Lib.hid (NC.out h1)
    have ND2 := Lib.hid (ND.out h1)
    clear NB NC ND
    generalize byt l (p + 1) = bb at *
    by_cases h2 : 1 < bb
    · go_enter Tryz.func45, Tryz.ntmps45
      go_wp2_with fail
      refine bodyPost_ret (v := .tuple #[(⟨1, 0, 0, ⟨#[]⟩, 0, 0⟩ : Node).val, .int .i64 ((p : Int) + 1), .int .i64 3]) (by first | (simp [results, Tryz.results45, go_sem]; done) | (simp [results, Tryz.results45, go_sem]; rfl) | (simp [results, Tryz.results45, go_sem, *]; done) | (simp [results, Tryz.results45, go_sem, *]; rfl)) rfl (NodePost.bad (NC2.out h2) (by decide) (by omega) (by go_grown))
    · go_enter Tryz.func45, Tryz.ntmps45
      go_wp2_with fail
      refine bodyPost_ret (v := .tuple #[(⟨1, 0, (bb : Int), ⟨#[]⟩, 0, 0⟩ : Node).val, .int .i64 ((p : Int) + 1 + 1), .int .i64 0]) (by first | (simp [results, Tryz.results45, go_sem]; done) | (simp [results, Tryz.results45, go_sem]; rfl) | (simp [results, Tryz.results45, go_sem, *]; done) | (simp [results, Tryz.results45, go_sem, *]; rfl)) rfl (NodePost.good (x := ⟨1, 0, (bb : Int), ⟨#[]⟩, 0, 0⟩) (ND2.out h2) (by omega) (by go_grown))
set_option maxRecDepth 100000 in
set_option maxHeartbeats 4000000 in
theorem rnode_2 {w : World} {A : Option Addr} {n cc : Nat} {l : List UInt8} (h : BS w A n cc l) {p size : Nat} (hp : p < n) (k2 : byt l p = 2) :
    Calls Tryz.prog 45 #[.slice A n cc, .int .i64 p, .int .i64 size] w (NodePost l p size w) := by
  have H := Lib.hid h
  have hsm := h.small
  have hsc := store_cx
  have HL := Lib.hid h.len
  have hd := drop_len l (p + 1)
  rw [HL.out] at hd
  have hnv := num_lt (l.drop (p + 1))
  have hnq := num_pos (l := l.drop (p + 1))
  have htq := text_pos (l := l.drop (p + 1))
  rw [hd] at hnq htq
  obtain ⟨b, off, rfl, hbl, hcell⟩ := h.bytes (by omega)
  have HC := Lib.hid (show ∀ j, j < n → w.cell? ⟨b, off + j, none⟩ = some (.int .u8 (byt l j : Int)) from fun j hj => hcell j (by omega))
  have c0 : w.cell? ⟨b, off + p, none⟩ = some (.int .u8 (byt l p : Int)) := HC.out p hp
  have hk8 := byt_lt l p
  clear hcell h
  generalize hkk : byt l p = kb at *
  have NB := Lib.hid (node_int_bad (size := size) (hkk.trans k2))
  have ND := Lib.hid (node_int_ok (size := size) (hkk.trans k2))
  subst k2
  clear hkk
  have HI := Lib.hid (fun w1 (hb : Below w.heap.size w w1) => rint_any (H.out.below hb) (p + 1) (by omega))
  have PO : ∀ w', Below w.heap.size w w' → NodePost l p size w (.returned (.tuple #[(⟨2, 0, zagI (numS (l.drop (p + 1))).1, ⟨#[]⟩, 0, 0⟩ : Node).val, .int .i64 ((p + 1 + (numS (l.drop (p + 1))).2.1 : Nat) : Int), .int .i64 (numS (l.drop (p + 1))).2.2])) w' := fun w' hb => by
    by_cases he : (numS (l.drop (p + 1))).2.2 = 0
    · have e := ND.out he
      rw [he]
      exact NodePost.good (x := ⟨2, 0, zagI (numS (l.drop (p + 1))).1, ⟨#[]⟩, 0, 0⟩) e rfl hb
    · exact NodePost.bad (NB.out he) he rfl hb
  have PO := Lib.hid PO
  clear NB ND
  generalize zagI (numS (l.drop (p + 1))).1 = zz at *
  generalize (numS (l.drop (p + 1))).2.2 = er at *
  generalize p + 1 + (numS (l.drop (p + 1))).2.1 = qq at *
  go_enter Tryz.func45, Tryz.ntmps45
  go_wp2_with fail
  have HW := Lib.hid (show Below w.heap.size w ((w.alloc (.cells #[.int .u8 0, .int .i64 0, .int .i64 0, .string ⟨#[]⟩, .complex .f64 0 0] 103)).alloc (.cells #[.int .u8 2, .int .i64 0, .int .i64 0, .string ⟨#[]⟩, .complex .f64 0 0] 103)) by go_grown)
  refine (HI.out _ HW.out).mono ?_
  rintro e w1 ⟨rfl, hb⟩
  have HB := Lib.hid (show Below w.heap.size w w1 from bthen HW.out hb)
  have kx := fun j => hb.cell (p := ⟨w.heap.size + 1, j, none⟩) (by simp <;> omega)
  have x0 := kx 0
  have x1 := kx 1
  have x2 := kx 2
  have x3 := kx 3
  have x4 := kx 4
  have kf := fun j => hb.frozen (p := ⟨w.heap.size + 1, j, none⟩) (by simp <;> omega)
  have ky := fun j => hb.cell (p := ⟨w.heap.size, j, none⟩) (by simp <;> omega)
  have y0 := ky 0
  have y1 := ky 1
  have y2 := ky 2
  have y3 := ky 3
  have y4 := ky 4
  have kg := fun j => hb.frozen (p := ⟨w.heap.size, j, none⟩) (by simp <;> omega)
  simp at x0 x1 x2 x3 x4 y0 y1 y2 y3 y4 kf kg
  have hsz : w.heap.size + 1 < w1.heap.size := by have := hb.size; simp at this; omega
  clear kx ky hb HW
  go_wp2_with fail
  refine bodyPost_ret (v := .tuple #[(⟨2, 0, zz, ⟨#[]⟩, 0, 0⟩ : Node).val, .int .i64 (qq : Int), .int .i64 er]) (by first | (simp [results, Tryz.results45, go_sem]; done) | (simp [results, Tryz.results45, go_sem]; rfl) | (simp [results, Tryz.results45, go_sem, *]; done) | (simp [results, Tryz.results45, go_sem, *]; rfl)) rfl (PO.out _ (by have hb0 := HB.out; go_grown; try exact hb0))
set_option maxRecDepth 100000 in
set_option maxHeartbeats 4000000 in
theorem rnode_3 {w : World} {A : Option Addr} {n cc : Nat} {l : List UInt8} (h : BS w A n cc l) {p size : Nat} (hp : p < n) (hs : size ≤ 4095) (k3 : byt l p = 3) :
    Calls Tryz.prog 45 #[.slice A n cc, .int .i64 p, .int .i64 size] w (NodePost l p size w) := by
  have H := Lib.hid h
  have hsm := h.small
  have hsc := store_cx
  have HL := Lib.hid h.len
  have hd := drop_len l (p + 1)
  rw [HL.out] at hd
  have hnv := num_lt (l.drop (p + 1))
  have hnq := num_pos (l := l.drop (p + 1))
  have htq := text_pos (l := l.drop (p + 1))
  rw [hd] at hnq htq
  obtain ⟨b, off, rfl, hbl, hcell⟩ := h.bytes (by omega)
  have HC := Lib.hid (show ∀ j, j < n → w.cell? ⟨b, off + j, none⟩ = some (.int .u8 (byt l j : Int)) from fun j hj => hcell j (by omega))
  have c0 : w.cell? ⟨b, off + p, none⟩ = some (.int .u8 (byt l p : Int)) := HC.out p hp
  have hk8 := byt_lt l p
  clear hcell h
  generalize hkk : byt l p = kb at *
  have NB := Lib.hid (node_text_bad (size := size) (hkk.trans k3))
  have NL := Lib.hid (node_text_long (size := size) (hkk.trans k3))
  have NSh := Lib.hid (node_text_short (size := size) (hkk.trans k3))
  have ND := Lib.hid (node_text_ok (size := size) (hkk.trans k3))
  subst k3
  clear hkk
  have HI := Lib.hid (fun w1 (hb : Below w.heap.size w w1) => ruint_any (H.out.below hb) (p + 1) (by omega))
  have HT := Lib.hid (fun w1 (hb : Below w.heap.size w w1) => rtext_any (H.out.below hb) (p + 1) (by omega))
  have TB := Lib.hid (text_bad (l := l.drop (p + 1)))
  have u1 : IntKind.u64.wrap (4096 - (size : Int) - 1) = 4095 - (size : Int) := by rw [IntKind.wrap_u64]; omega
  by_cases he : (numS (l.drop (p + 1))).2.2 = 0
  · have NL2 := Lib.hid (NL.out he)
    have NS2 := Lib.hid (NSh.out he)
    have ND2 := Lib.hid (ND.out he)
    have he1 : ((numS (l.drop (p + 1))).2.2 == 0) = true := beq_iff_eq.2 he
    clear NB NL NSh ND TB
    by_cases hl : 4095 - size < (numS (l.drop (p + 1))).1
    · have hl1 : decide (4095 - (size : Int) < ((numS (l.drop (p + 1))).1 : Int)) = true := decide_eq_true (by omega)
      have E := Lib.hid (NL2.out hl)
      clear NL2 NS2 ND2 HT
      generalize (numS (l.drop (p + 1))).1 = v at *
      generalize p + 1 + (numS (l.drop (p + 1))).2.1 = qq at *
      go_enter Tryz.func45, Tryz.ntmps45
      go_wp2_with fail
      have HW := Lib.hid (show Below w.heap.size w ((w.alloc (.cells #[.int .u8 0, .int .i64 0, .int .i64 0, .string ⟨#[]⟩, .complex .f64 0 0] 103)).alloc (.cells #[.int .u8 3, .int .i64 0, .int .i64 0, .string ⟨#[]⟩, .complex .f64 0 0] 103)) by go_grown)
      refine (HI.out _ HW.out).mono ?_
      rintro e w1 ⟨rfl, hb⟩
      have HB := Lib.hid (show Below w.heap.size w w1 from bthen HW.out hb)
      have kx := fun j => hb.cell (p := ⟨w.heap.size + 1, j, none⟩) (by simp <;> omega)
      have x0 := kx 0
      have x1 := kx 1
      have x2 := kx 2
      have x3 := kx 3
      have x4 := kx 4
      have kf := fun j => hb.frozen (p := ⟨w.heap.size + 1, j, none⟩) (by simp <;> omega)
      have ky := fun j => hb.cell (p := ⟨w.heap.size, j, none⟩) (by simp <;> omega)
      have y0 := ky 0
      have y1 := ky 1
      have y2 := ky 2
      have y3 := ky 3
      have y4 := ky 4
      have kg := fun j => hb.frozen (p := ⟨w.heap.size, j, none⟩) (by simp <;> omega)
      simp at x0 x1 x2 x3 x4 y0 y1 y2 y3 y4 kf kg
      have hsz : w.heap.size + 1 < w1.heap.size := by have := hb.size; simp at this; omega
      clear kx ky hb HW
      go_wp2_with fail
      refine bodyPost_ret (v := .tuple #[(⟨3, 0, 0, ⟨#[]⟩, 0, 0⟩ : Node).val, .int .i64 ((p : Int) + 1), .int .i64 2]) (by first | (simp [results, Tryz.results45, go_sem]; done) | (simp [results, Tryz.results45, go_sem]; rfl) | (simp [results, Tryz.results45, go_sem, *]; done) | (simp [results, Tryz.results45, go_sem, *]; rfl)) rfl (NodePost.bad E.out (by decide) (by omega) (by have hb0 := HB.out; go_grown; try exact hb0))
    · have hl1 : decide (4095 - (size : Int) < ((numS (l.drop (p + 1))).1 : Int)) = false := decide_eq_false (by omega)
      have NS3 := Lib.hid (NS2.out hl)
      have ND3 := Lib.hid (ND2.out hl)
      clear NL2 NS2 ND2
      have PO := Lib.hid (show ∀ w', Below w.heap.size w w' → NodePost l p size w (.returned (.tuple #[(⟨3, 0, 0, strB (textS (l.drop (p + 1))).1, 0, 0⟩ : Node).val, .int .i64 ((p + 1 + (textS (l.drop (p + 1))).2.1 : Nat) : Int), .int .i64 (textS (l.drop (p + 1))).2.2])) w' from fun w' hb => by
        by_cases ht : (textS (l.drop (p + 1))).2.2 = 0
        · have e := ND3.out ht
          rw [ht]
          exact NodePost.good (x := ⟨3, 0, 0, strB (textS (l.drop (p + 1))).1, 0, 0⟩) e rfl hb
        · exact NodePost.bad (NS3.out ht) ht rfl hb)
      clear NS3 ND3
      generalize (numS (l.drop (p + 1))).1 = v at *
      generalize p + 1 + (numS (l.drop (p + 1))).2.1 = qq at *
      generalize strB (textS (l.drop (p + 1))).1 = S at *
      generalize p + 1 + (textS (l.drop (p + 1))).2.1 = q2 at *
      generalize (textS (l.drop (p + 1))).2.2 = er at *
      go_enter Tryz.func45, Tryz.ntmps45
      go_wp2_with fail
      have HW := Lib.hid (show Below w.heap.size w ((w.alloc (.cells #[.int .u8 0, .int .i64 0, .int .i64 0, .string ⟨#[]⟩, .complex .f64 0 0] 103)).alloc (.cells #[.int .u8 3, .int .i64 0, .int .i64 0, .string ⟨#[]⟩, .complex .f64 0 0] 103)) by go_grown)
      refine (HI.out _ HW.out).mono ?_
      rintro e w1 ⟨rfl, hb⟩
      have HB := Lib.hid (show Below w.heap.size w w1 from bthen HW.out hb)
      have kx := fun j => hb.cell (p := ⟨w.heap.size + 1, j, none⟩) (by simp <;> omega)
      have x0 := kx 0
      have x1 := kx 1
      have x2 := kx 2
      have x3 := kx 3
      have x4 := kx 4
      have kf := fun j => hb.frozen (p := ⟨w.heap.size + 1, j, none⟩) (by simp <;> omega)
      have ky := fun j => hb.cell (p := ⟨w.heap.size, j, none⟩) (by simp <;> omega)
      have y0 := ky 0
      have y1 := ky 1
      have y2 := ky 2
      have y3 := ky 3
      have y4 := ky 4
      have kg := fun j => hb.frozen (p := ⟨w.heap.size, j, none⟩) (by simp <;> omega)
      simp at x0 x1 x2 x3 x4 y0 y1 y2 y3 y4 kf kg
      have hsz : w.heap.size + 1 < w1.heap.size := by have := hb.size; simp at this; omega
      clear kx ky hb HW
      go_wp2_with fail
      refine (HT.out _ HB.out).mono ?_
      rintro e w2 ⟨rfl, hb2⟩
      have hsz0 : w.heap.size < w1.heap.size := by omega
      have a0 := (hb2.cell (p := ⟨w.heap.size + 1, 0, none⟩) hsz).trans x0
      have a1 := (hb2.cell (p := ⟨w.heap.size + 1, 1, none⟩) hsz).trans x1
      have a2 := (hb2.cell (p := ⟨w.heap.size + 1, 2, none⟩) hsz).trans x2
      have a3 := (hb2.cell (p := ⟨w.heap.size + 1, 3, none⟩) hsz).trans x3
      have a4 := (hb2.cell (p := ⟨w.heap.size + 1, 4, none⟩) hsz).trans x4
      have af := fun j => (hb2.frozen (p := ⟨w.heap.size + 1, j, none⟩) hsz).trans (kf j)
      have b0 := (hb2.cell (p := ⟨w.heap.size, 0, none⟩) hsz0).trans y0
      have b1 := (hb2.cell (p := ⟨w.heap.size, 1, none⟩) hsz0).trans y1
      have b2 := (hb2.cell (p := ⟨w.heap.size, 2, none⟩) hsz0).trans y2
      have b3 := (hb2.cell (p := ⟨w.heap.size, 3, none⟩) hsz0).trans y3
      have b4 := (hb2.cell (p := ⟨w.heap.size, 4, none⟩) hsz0).trans y4
      have bf := fun j => (hb2.frozen (p := ⟨w.heap.size, j, none⟩) hsz0).trans (kg j)
      have hsz2 : w.heap.size + 1 < w2.heap.size := Nat.lt_of_lt_of_le hsz hb2.size
      replace HB := Lib.hid (bthen HB.out hb2)
      clear hsz0 hb2 x0 x1 x2 x3 x4 y0 y1 y2 y3 y4 kf kg hsz
      go_wp2_with fail
      refine bodyPost_ret (v := .tuple #[(⟨3, 0, 0, S, 0, 0⟩ : Node).val, .int .i64 (q2 : Int), .int .i64 er]) (by first | (simp [results, Tryz.results45, go_sem]; done) | (simp [results, Tryz.results45, go_sem]; rfl) | (simp [results, Tryz.results45, go_sem, *]; done) | (simp [results, Tryz.results45, go_sem, *]; rfl)) rfl (PO.out _ (by have hb0 := HB.out; go_grown; try exact hb0))
  · have he1 : ((numS (l.drop (p + 1))).2.2 == 0) = false := beq_eq_false_iff_ne.2 he
    have E := Lib.hid (NB.out he)
    have E2 := Lib.hid (TB.out he)
    have HE := Lib.hid he
    clear NB NL NSh ND TB he
    rw [E2.out] at HT
    have PO := Lib.hid (show ∀ w', Below w.heap.size w w' → NodePost l p size w (.returned (.tuple #[(⟨3, 0, 0, strB [], 0, 0⟩ : Node).val, .int .i64 ((p + 1 + (numS (l.drop (p + 1))).2.1 : Nat) : Int), .int .i64 (numS (l.drop (p + 1))).2.2])) w' from fun w' hb => NodePost.bad E.out HE.out rfl hb)
    clear E E2 HE
    dsimp only at HT
    generalize (numS (l.drop (p + 1))).1 = v at *
    generalize p + 1 + (numS (l.drop (p + 1))).2.1 = qq at *
    generalize (numS (l.drop (p + 1))).2.2 = er at *
    generalize strB [] = S at *
    go_enter Tryz.func45, Tryz.ntmps45
    go_wp2_with fail
    have HW := Lib.hid (show Below w.heap.size w ((w.alloc (.cells #[.int .u8 0, .int .i64 0, .int .i64 0, .string ⟨#[]⟩, .complex .f64 0 0] 103)).alloc (.cells #[.int .u8 3, .int .i64 0, .int .i64 0, .string ⟨#[]⟩, .complex .f64 0 0] 103)) by go_grown)
    refine (HI.out _ HW.out).mono ?_
    rintro e w1 ⟨rfl, hb⟩
    have HB := Lib.hid (show Below w.heap.size w w1 from bthen HW.out hb)
    have kx := fun j => hb.cell (p := ⟨w.heap.size + 1, j, none⟩) (by simp <;> omega)
    have x0 := kx 0
    have x1 := kx 1
    have x2 := kx 2
    have x3 := kx 3
    have x4 := kx 4
    have kf := fun j => hb.frozen (p := ⟨w.heap.size + 1, j, none⟩) (by simp <;> omega)
    have ky := fun j => hb.cell (p := ⟨w.heap.size, j, none⟩) (by simp <;> omega)
    have y0 := ky 0
    have y1 := ky 1
    have y2 := ky 2
    have y3 := ky 3
    have y4 := ky 4
    have kg := fun j => hb.frozen (p := ⟨w.heap.size, j, none⟩) (by simp <;> omega)
    simp at x0 x1 x2 x3 x4 y0 y1 y2 y3 y4 kf kg
    have hsz : w.heap.size + 1 < w1.heap.size := by have := hb.size; simp at this; omega
    clear kx ky hb HW
    go_wp2_with fail
    refine (HT.out _ HB.out).mono ?_
    rintro e w2 ⟨rfl, hb2⟩
    have hsz0 : w.heap.size < w1.heap.size := by omega
    have a0 := (hb2.cell (p := ⟨w.heap.size + 1, 0, none⟩) hsz).trans x0
    have a1 := (hb2.cell (p := ⟨w.heap.size + 1, 1, none⟩) hsz).trans x1
    have a2 := (hb2.cell (p := ⟨w.heap.size + 1, 2, none⟩) hsz).trans x2
    have a3 := (hb2.cell (p := ⟨w.heap.size + 1, 3, none⟩) hsz).trans x3
    have a4 := (hb2.cell (p := ⟨w.heap.size + 1, 4, none⟩) hsz).trans x4
    have af := fun j => (hb2.frozen (p := ⟨w.heap.size + 1, j, none⟩) hsz).trans (kf j)
    have b0 := (hb2.cell (p := ⟨w.heap.size, 0, none⟩) hsz0).trans y0
    have b1 := (hb2.cell (p := ⟨w.heap.size, 1, none⟩) hsz0).trans y1
    have b2 := (hb2.cell (p := ⟨w.heap.size, 2, none⟩) hsz0).trans y2
    have b3 := (hb2.cell (p := ⟨w.heap.size, 3, none⟩) hsz0).trans y3
    have b4 := (hb2.cell (p := ⟨w.heap.size, 4, none⟩) hsz0).trans y4
    have bf := fun j => (hb2.frozen (p := ⟨w.heap.size, j, none⟩) hsz0).trans (kg j)
    have hsz2 : w.heap.size + 1 < w2.heap.size := Nat.lt_of_lt_of_le hsz hb2.size
    replace HB := Lib.hid (bthen HB.out hb2)
    clear hsz0 hb2 x0 x1 x2 x3 x4 y0 y1 y2 y3 y4 kf kg hsz
    go_wp2_with fail
    refine bodyPost_ret (v := .tuple #[(⟨3, 0, 0, S, 0, 0⟩ : Node).val, .int .i64 (qq : Int), .int .i64 er]) (by first | (simp [results, Tryz.results45, go_sem]; done) | (simp [results, Tryz.results45, go_sem]; rfl) | (simp [results, Tryz.results45, go_sem, *]; done) | (simp [results, Tryz.results45, go_sem, *]; rfl)) rfl (PO.out _ (by have hb0 := HB.out; go_grown; try exact hb0))
set_option maxRecDepth 100000 in
set_option maxHeartbeats 4000000 in
theorem rnode_4 {w : World} {A : Option Addr} {n cc : Nat} {l : List UInt8} (h : BS w A n cc l) {p size : Nat} (hp : p < n) (k4 : byt l p = 4) :
    Calls Tryz.prog 45 #[.slice A n cc, .int .i64 p, .int .i64 size] w (NodePost l p size w) := by
  have H := Lib.hid h
  have hsm := h.small
  have hsc := store_cx
  have HL := Lib.hid h.len
  have hd := drop_len l (p + 1)
  rw [HL.out] at hd
  have hnv := num_lt (l.drop (p + 1))
  have hnq := num_pos (l := l.drop (p + 1))
  have htq := text_pos (l := l.drop (p + 1))
  rw [hd] at hnq htq
  obtain ⟨b, off, rfl, hbl, hcell⟩ := h.bytes (by omega)
  have HC := Lib.hid (show ∀ j, j < n → w.cell? ⟨b, off + j, none⟩ = some (.int .u8 (byt l j : Int)) from fun j hj => hcell j (by omega))
  have c0 : w.cell? ⟨b, off + p, none⟩ = some (.int .u8 (byt l p : Int)) := HC.out p hp
  have hk8 := byt_lt l p
  clear hcell h
  generalize hkk : byt l p = kb at *
  have NB := Lib.hid (node_num_short (size := size) (hkk.trans k4))
  have NC := Lib.hid (node_num_bad (size := size) (hkk.trans k4))
  have ND := Lib.hid (node_num_ok (size := size) (hkk.trans k4))
  subst k4
  clear hkk
  have HI := Lib.hid (fun w1 (hb : Below w.heap.size w w1) => rnum_any (H.out.below hb) (p + 1) (by omega))
  have PO := Lib.hid (show ∀ w', Below w.heap.size w w' → NodePost l p size w (.returned (.tuple #[(⟨4, 0, 0, ⟨#[]⟩, (numC l (p + 1)).1.1, (numC l (p + 1)).1.2⟩ : Node).val, .int .i64 (((numC l (p + 1)).2.1 : Nat) : Int), .int .i64 (numC l (p + 1)).2.2])) w' from fun w' hb => by
    by_cases h1 : l.length < p + 1 + 16
    · rw [numC_short h1]
      exact NodePost.bad (NB.out h1) (show (4 : Int) ≠ 0 by decide) rfl hb
    · cases hf : fineB (beN l (p + 1) 8) (beN l (p + 1 + 8) 8) with
      | false =>
        rw [numC_bad h1 hf]
        exact NodePost.bad (NC.out h1 hf) (show (20 : Int) ≠ 0 by decide) rfl hb
      | true =>
        rw [numC_ok h1 hf]
        exact NodePost.good (x := ⟨4, 0, 0, ⟨#[]⟩, beN l (p + 1) 8, beN l (p + 1 + 8) 8⟩) (ND.out h1 hf) rfl hb)
  clear NB NC ND
  generalize (numC l (p + 1)).1.1 = xx at *
  generalize (numC l (p + 1)).1.2 = yy at *
  generalize (numC l (p + 1)).2.1 = qq at *
  generalize (numC l (p + 1)).2.2 = er at *
  go_enter Tryz.func45, Tryz.ntmps45
  go_wp2_with fail
  have HW := Lib.hid (show Below w.heap.size w ((w.alloc (.cells #[.int .u8 0, .int .i64 0, .int .i64 0, .string ⟨#[]⟩, .complex .f64 0 0] 103)).alloc (.cells #[.int .u8 4, .int .i64 0, .int .i64 0, .string ⟨#[]⟩, .complex .f64 0 0] 103)) by go_grown)
  refine (HI.out _ HW.out).mono ?_
  rintro e w1 ⟨rfl, hb⟩
  have HB := Lib.hid (show Below w.heap.size w w1 from bthen HW.out hb)
  have kx := fun j => hb.cell (p := ⟨w.heap.size + 1, j, none⟩) (by simp <;> omega)
  have x0 := kx 0
  have x1 := kx 1
  have x2 := kx 2
  have x3 := kx 3
  have x4 := kx 4
  have kf := fun j => hb.frozen (p := ⟨w.heap.size + 1, j, none⟩) (by simp <;> omega)
  have ky := fun j => hb.cell (p := ⟨w.heap.size, j, none⟩) (by simp <;> omega)
  have y0 := ky 0
  have y1 := ky 1
  have y2 := ky 2
  have y3 := ky 3
  have y4 := ky 4
  have kg := fun j => hb.frozen (p := ⟨w.heap.size, j, none⟩) (by simp <;> omega)
  simp at x0 x1 x2 x3 x4 y0 y1 y2 y3 y4 kf kg
  have hsz : w.heap.size + 1 < w1.heap.size := by have := hb.size; simp at this; omega
  clear kx ky hb HW
  go_wp2_with fail
  refine bodyPost_ret (v := .tuple #[(⟨4, 0, 0, ⟨#[]⟩, xx, yy⟩ : Node).val, .int .i64 (qq : Int), .int .i64 er]) (by first | (simp [results, Tryz.results45, go_sem]; done) | (simp [results, Tryz.results45, go_sem]; rfl) | (simp [results, Tryz.results45, go_sem, *]; done) | (simp [results, Tryz.results45, go_sem, *]; rfl)) rfl (PO.out _ (by have hb0 := HB.out; go_grown; try exact hb0))
set_option maxRecDepth 100000 in
set_option maxHeartbeats 4000000 in
theorem rnode_5 {w : World} {A : Option Addr} {n cc : Nat} {l : List UInt8} (h : BS w A n cc l) {p size : Nat} (hp : p < n) (k5 : byt l p = 5) :
    Calls Tryz.prog 45 #[.slice A n cc, .int .i64 p, .int .i64 size] w (NodePost l p size w) := by
  have H := Lib.hid h
  have hsm := h.small
  have hsc := store_cx
  have HL := Lib.hid h.len
  have hd := drop_len l (p + 1)
  rw [HL.out] at hd
  have hnv := num_lt (l.drop (p + 1))
  have hnq := num_pos (l := l.drop (p + 1))
  have htq := text_pos (l := l.drop (p + 1))
  rw [hd] at hnq htq
  obtain ⟨b, off, rfl, hbl, hcell⟩ := h.bytes (by omega)
  have HC := Lib.hid (show ∀ j, j < n → w.cell? ⟨b, off + j, none⟩ = some (.int .u8 (byt l j : Int)) from fun j hj => hcell j (by omega))
  have c0 : w.cell? ⟨b, off + p, none⟩ = some (.int .u8 (byt l p : Int)) := HC.out p hp
  have hk8 := byt_lt l p
  clear hcell h
  generalize hkk : byt l p = kb at *
  have NB := Lib.hid (node_list_bad (size := size) (hkk.trans k5))
  have NL := Lib.hid (node_list_long (size := size) (hkk.trans k5))
  have ND := Lib.hid (node_list_ok (size := size) (hkk.trans k5))
  subst k5
  clear hkk
  have HI := Lib.hid (fun w1 (hb : Below w.heap.size w w1) => ruint_any (H.out.below hb) (p + 1) (by omega))
  by_cases he : (numS (l.drop (p + 1))).2.2 = 0
  · have NL2 := Lib.hid (NL.out he)
    have ND2 := Lib.hid (ND.out he)
    rw [he] at HI
    clear NB NL ND
    by_cases hl : 1024 < (numS (l.drop (p + 1))).1
    · have hl1 : decide ((1024 : Int) < ((numS (l.drop (p + 1))).1 : Int)) = true := decide_eq_true (by omega)
      have E := Lib.hid (NL2.out hl)
      clear NL2 ND2
      generalize (numS (l.drop (p + 1))).1 = v at *
      generalize p + 1 + (numS (l.drop (p + 1))).2.1 = qq at *
      go_enter Tryz.func45, Tryz.ntmps45
      go_wp2_with fail
      have HW := Lib.hid (show Below w.heap.size w ((w.alloc (.cells #[.int .u8 0, .int .i64 0, .int .i64 0, .string ⟨#[]⟩, .complex .f64 0 0] 103)).alloc (.cells #[.int .u8 5, .int .i64 0, .int .i64 0, .string ⟨#[]⟩, .complex .f64 0 0] 103)) by go_grown)
      refine (HI.out _ HW.out).mono ?_
      rintro e w1 ⟨rfl, hb⟩
      have HB := Lib.hid (show Below w.heap.size w w1 from bthen HW.out hb)
      have kx := fun j => hb.cell (p := ⟨w.heap.size + 1, j, none⟩) (by simp <;> omega)
      have x0 := kx 0
      have x1 := kx 1
      have x2 := kx 2
      have x3 := kx 3
      have x4 := kx 4
      have kf := fun j => hb.frozen (p := ⟨w.heap.size + 1, j, none⟩) (by simp <;> omega)
      have ky := fun j => hb.cell (p := ⟨w.heap.size, j, none⟩) (by simp <;> omega)
      have y0 := ky 0
      have y1 := ky 1
      have y2 := ky 2
      have y3 := ky 3
      have y4 := ky 4
      have kg := fun j => hb.frozen (p := ⟨w.heap.size, j, none⟩) (by simp <;> omega)
      simp at x0 x1 x2 x3 x4 y0 y1 y2 y3 y4 kf kg
      have hsz : w.heap.size + 1 < w1.heap.size := by have := hb.size; simp at this; omega
      clear kx ky hb HW
      go_wp2_with fail
      refine bodyPost_ret (v := .tuple #[(⟨5, 0, 0, ⟨#[]⟩, 0, 0⟩ : Node).val, .int .i64 ((p : Int) + 1), .int .i64 2]) (by first | (simp [results, Tryz.results45, go_sem]; done) | (simp [results, Tryz.results45, go_sem]; rfl) | (simp [results, Tryz.results45, go_sem, *]; done) | (simp [results, Tryz.results45, go_sem, *]; rfl)) rfl (NodePost.bad E.out (by decide) (by omega) (by have hb0 := HB.out; go_grown; try exact hb0))
    · have hl1 : decide ((1024 : Int) < ((numS (l.drop (p + 1))).1 : Int)) = false := decide_eq_false (by omega)
      have E := Lib.hid (ND2.out hl)
      clear NL2 ND2
      generalize (numS (l.drop (p + 1))).1 = v at *
      generalize p + 1 + (numS (l.drop (p + 1))).2.1 = qq at *
      go_enter Tryz.func45, Tryz.ntmps45
      go_wp2_with fail
      have HW := Lib.hid (show Below w.heap.size w ((w.alloc (.cells #[.int .u8 0, .int .i64 0, .int .i64 0, .string ⟨#[]⟩, .complex .f64 0 0] 103)).alloc (.cells #[.int .u8 5, .int .i64 0, .int .i64 0, .string ⟨#[]⟩, .complex .f64 0 0] 103)) by go_grown)
      refine (HI.out _ HW.out).mono ?_
      rintro e w1 ⟨rfl, hb⟩
      have HB := Lib.hid (show Below w.heap.size w w1 from bthen HW.out hb)
      have kx := fun j => hb.cell (p := ⟨w.heap.size + 1, j, none⟩) (by simp <;> omega)
      have x0 := kx 0
      have x1 := kx 1
      have x2 := kx 2
      have x3 := kx 3
      have x4 := kx 4
      have kf := fun j => hb.frozen (p := ⟨w.heap.size + 1, j, none⟩) (by simp <;> omega)
      have ky := fun j => hb.cell (p := ⟨w.heap.size, j, none⟩) (by simp <;> omega)
      have y0 := ky 0
      have y1 := ky 1
      have y2 := ky 2
      have y3 := ky 3
      have y4 := ky 4
      have kg := fun j => hb.frozen (p := ⟨w.heap.size, j, none⟩) (by simp <;> omega)
      simp at x0 x1 x2 x3 x4 y0 y1 y2 y3 y4 kf kg
      have hsz : w.heap.size + 1 < w1.heap.size := by have := hb.size; simp at this; omega
      clear kx ky hb HW
      go_wp2_with fail
      refine bodyPost_ret (v := .tuple #[(⟨5, (v : Int), 0, ⟨#[]⟩, 0, 0⟩ : Node).val, .int .i64 (qq : Int), .int .i64 0]) (by first | (simp [results, Tryz.results45, go_sem]; done) | (simp [results, Tryz.results45, go_sem]; rfl) | (simp [results, Tryz.results45, go_sem, *]; done) | (simp [results, Tryz.results45, go_sem, *]; rfl)) rfl (NodePost.good (x := ⟨5, (v : Int), 0, ⟨#[]⟩, 0, 0⟩) E.out rfl (by have hb0 := HB.out; go_grown; try exact hb0))
  · have he1 : ((numS (l.drop (p + 1))).2.2 == 0) = false := beq_eq_false_iff_ne.2 he
    have E := Lib.hid (NB.out he)
    have HE := Lib.hid he
    rw [num_zero he] at HI
    clear NB NL ND he
    generalize p + 1 + (numS (l.drop (p + 1))).2.1 = qq at *
    generalize (numS (l.drop (p + 1))).2.2 = er at *
    go_enter Tryz.func45, Tryz.ntmps45
    go_wp2_with fail
    have HW := Lib.hid (show Below w.heap.size w ((w.alloc (.cells #[.int .u8 0, .int .i64 0, .int .i64 0, .string ⟨#[]⟩, .complex .f64 0 0] 103)).alloc (.cells #[.int .u8 5, .int .i64 0, .int .i64 0, .string ⟨#[]⟩, .complex .f64 0 0] 103)) by go_grown)
    refine (HI.out _ HW.out).mono ?_
    rintro e w1 ⟨rfl, hb⟩
    have HB := Lib.hid (show Below w.heap.size w w1 from bthen HW.out hb)
    have kx := fun j => hb.cell (p := ⟨w.heap.size + 1, j, none⟩) (by simp <;> omega)
    have x0 := kx 0
    have x1 := kx 1
    have x2 := kx 2
    have x3 := kx 3
    have x4 := kx 4
    have kf := fun j => hb.frozen (p := ⟨w.heap.size + 1, j, none⟩) (by simp <;> omega)
    have ky := fun j => hb.cell (p := ⟨w.heap.size, j, none⟩) (by simp <;> omega)
    have y0 := ky 0
    have y1 := ky 1
    have y2 := ky 2
    have y3 := ky 3
    have y4 := ky 4
    have kg := fun j => hb.frozen (p := ⟨w.heap.size, j, none⟩) (by simp <;> omega)
    simp at x0 x1 x2 x3 x4 y0 y1 y2 y3 y4 kf kg
    have hsz : w.heap.size + 1 < w1.heap.size := by have := hb.size; simp at this; omega
    clear kx ky hb HW
    go_wp2_with fail
    refine bodyPost_ret (v := .tuple #[(⟨5, 0, 0, ⟨#[]⟩, 0, 0⟩ : Node).val, .int .i64 (qq : Int), .int .i64 er]) (by first | (simp [results, Tryz.results45, go_sem]; done) | (simp [results, Tryz.results45, go_sem]; rfl) | (simp [results, Tryz.results45, go_sem, *]; done) | (simp [results, Tryz.results45, go_sem, *]; rfl)) rfl (NodePost.bad E.out HE.out rfl (by have hb0 := HB.out; go_grown; try exact hb0))
set_option maxRecDepth 100000 in
set_option maxHeartbeats 4000000 in
theorem rnode_6 {w : World} {A : Option Addr} {n cc : Nat} {l : List UInt8} (h : BS w A n cc l) {p size : Nat} (hp : p < n) (k6 : 5 < byt l p) :
    Calls Tryz.prog 45 #[.slice A n cc, .int .i64 p, .int .i64 size] w (NodePost l p size w) := by
  have H := Lib.hid h
  have hsm := h.small
  have hsc := store_cx
  have HL := Lib.hid h.len
  have hd := drop_len l (p + 1)
  rw [HL.out] at hd
  have hnv := num_lt (l.drop (p + 1))
  have hnq := num_pos (l := l.drop (p + 1))
  have htq := text_pos (l := l.drop (p + 1))
  rw [hd] at hnq htq
  obtain ⟨b, off, rfl, hbl, hcell⟩ := h.bytes (by omega)
  have HC := Lib.hid (show ∀ j, j < n → w.cell? ⟨b, off + j, none⟩ = some (.int .u8 (byt l j : Int)) from fun j hj => hcell j (by omega))
  have c0 : w.cell? ⟨b, off + p, none⟩ = some (.int .u8 (byt l p : Int)) := HC.out p hp
  have hk8 := byt_lt l p
  clear hcell h
  generalize hkk : byt l p = kb at *
  have NS := Lib.hid (node_other (l := l) (p := p) (size := size) (by omega))
  clear hkk
  go_enter Tryz.func45, Tryz.ntmps45
  go_wp2_with fail
  refine bodyPost_ret (v := .tuple #[(⟨kb, 0, 0, ⟨#[]⟩, 0, 0⟩ : Node).val, .int .i64 (p : Int), .int .i64 3]) (by first | (simp [results, Tryz.results45, go_sem]; done) | (simp [results, Tryz.results45, go_sem]; rfl) | (simp [results, Tryz.results45, go_sem, *]; done) | (simp [results, Tryz.results45, go_sem, *]; rfl)) rfl (NodePost.bad NS.out (by decide) rfl (by go_grown))
theorem rnode_any {w : World} {A : Option Addr} {n cc : Nat} {l : List UInt8} (h : BS w A n cc l) {p size : Nat} (hp : p < n) (hs : size ≤ 4095) :
    Calls Tryz.prog 45 #[.slice A n cc, .int .i64 p, .int .i64 size] w (NodePost l p size w) := by
  by_cases k0 : byt l p = 0
  · exact rnode_0 h hp k0
  by_cases k1 : byt l p = 1
  · exact rnode_1 h hp k1
  by_cases k2 : byt l p = 2
  · exact rnode_2 h hp k2
  by_cases k3 : byt l p = 3
  · exact rnode_3 h hp hs k3
  by_cases k4 : byt l p = 4
  · exact rnode_4 h hp k4
  by_cases k5 : byt l p = 5
  · exact rnode_5 h hp k5
  · exact rnode_6 h hp (by omega)
end Go.Proofs.YtaeophaecclnbaaGreatDoor

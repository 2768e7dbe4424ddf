/- Reading code, walked. -/
import Derived.Test.YtefijgdbnjmifaaRdG
namespace Go.Proofs.Ytefijgdbnjmifaa
open Go.RowKit

def InsV.cells (x : InsV) : List Value := [.int .u8 (x.op : Int), .int .i64 x.a, .int .i64 x.int, .string x.text]
def codeCells (c : List InsV) : List Value := c.flatMap InsV.cells
theorem codeCells_snoc (c : List InsV) (x : InsV) : codeCells (c ++ [x]) = codeCells c ++ x.cells := by simp [codeCells]
theorem codeCells_length (c : List InsV) : (codeCells c).length = c.length * 4 := by
  induction c with
  | nil => rfl
  | cons x c ih => simp only [codeCells, List.flatMap_cons, List.length_append, List.length_cons] at *; rw [ih]; simp [InsV.cells]; omega
theorem codeCells_at (c : List InsV) (k j : Nat) (hk : k < c.length) (hj : j < 4) : (codeCells c).getD (k * 4 + j) (.int .i64 0) = (atV c k).cells.getD j (.int .i64 0) := by
  induction c generalizing k with
  | nil => exact absurd hk (by simp)
  | cons x c ih =>
    have e : codeCells (x :: c) = x.cells ++ codeCells c := by simp [codeCells]
    rw [e]
    have hl : x.cells.length = 4 := rfl
    cases k with
    | zero =>
      rw [List.getD_eq_getElem?_getD, List.getElem?_append_left (by omega)]
      simp [atV, List.getD_eq_getElem?_getD]
    | succ k =>
      rw [List.getD_eq_getElem?_getD, List.getElem?_append_right (by omega), hl, show (k + 1) * 4 + j - 4 = k * 4 + j by omega, ← List.getD_eq_getElem?_getD, ih k (by simpa using hk)]
      simp [atV]
/-- A row of the call's own that holds code. -/
theorem own_code {w : World} {base e cap : Nat} {A : Option Addr} {c : List InsV} {n : Nat} (h : w.ownsRow base e 4 (.slice A n cap) n (codeCells c)) (hl : c.length = n) : CodeIn w A c := fun hn => by
  obtain ⟨b, off, hA, hlt, hc⟩ := Sl.of_own (d := .int .i64 0) h (by omega)
  refine ⟨b, off, hA, hlt, fun k hk => ?_⟩
  have g : ∀ j, j < 4 → w.cell? ⟨b, off + (k * 4 + j), none⟩ = some ((atV c k).cells.getD j (.int .i64 0)) := fun j hj => by
    rw [hc (k * 4 + j) (by omega)]
    exact congrArg some (codeCells_at c k j hk hj)
  exact ⟨g 0 (by omega), by rw [Nat.add_assoc]; exact g 1 (by omega), by rw [Nat.add_assoc]; exact g 2 (by omega), by rw [Nat.add_assoc]; exact g 3 (by omega)⟩
theorem own_below {w w' : World} {base e sz n : Nat} {v : Value} {xs : List Value} (h : w.ownsRow base e sz v n xs) (hb : Below w.heap.size w w') : w'.ownsRow base e sz v n xs := by
  obtain ⟨h1, h2 | ⟨g, cap, cur, a, b, c, d⟩⟩ := h
  · exact ⟨h1, .inl h2⟩
  · exact ⟨h1, .inr ⟨g, cap, cur, a, b, (hb.block g (Array.getElem?_eq_some_iff.1 c).1).trans c, d⟩⟩
theorem cell_four_new (w : World) (a b c d : Value) (t : TypeId) (g : Nat) (hg : w.heap.size = g) : ∀ j u, [a, b, c, d][j]? = some u → (w.alloc (.cells #[a, b, c, d] t)).cell? ((⟨g, 0, none⟩ : Addr).add j) = some u := by
  intro j u hj
  subst hg
  match j, hj with
  | 0, hj => simp at hj; subst hj; simp [Addr.add]
  | 1, hj => simp at hj; subst hj; simp [Addr.add]
  | 2, hj => simp at hj; subst hj; simp [Addr.add]
  | 3, hj => simp at hj; subst hj; simp [Addr.add]
  | j + 4, hj => simp at hj
/-- What reading code comes to. -/
def CPost14 (l : List UInt8) (w : World) (e : Ending) (w' : World) : Prop :=
  ∃ (A : Option Addr) (cc : Nat), e = .returned (.tuple #[.slice A (readS l).1.length cc, .int .i64 ((readS l).2.1 : Int), .int .i64 (readS l).2.2]) ∧ CodeIn w' A (readS l).1 ∧ Below w.heap.size w w'
theorem cpost_none {l : List UInt8} {w w' : World} {p : Nat} {er z : Int} (h : readS l = ([], p, er)) (hz : z = (p : Int)) (hb : Below w.heap.size w w') : CPost14 l w (.returned (.tuple #[.slice none 0 0, .int .i64 z, .int .i64 er])) w' := by
  subst hz
  refine ⟨none, 0, ?_, ?_, hb⟩
  · rw [h]; rfl
  · rw [h]; exact fun hn => absurd hn (by simp)
theorem cpost_some {l : List UInt8} {w w' : World} {p k cc : Nat} {A : Option Addr} {c : List InsV} (h : readS l = (c, p, 0)) (hl : c.length = k) (hc : CodeIn w' A c) (hb : Below w.heap.size w w') : CPost14 l w (.returned (.tuple #[.slice A k cc, .int .i64 (p : Int), .int .i64 0])) w' := by
  subst hl
  refine ⟨A, cc, ?_, ?_, hb⟩
  · rw [h]
  · rw [h]; exact hc
theorem infoIns : (Try.prog.info? 36).map (fun i => (i.zero, i.size, i.bytes)) = some (some (.agg #[.int .u8 0, .int .i64 0, .int .i64 0, .string ⟨#[]⟩]), 4, 40) := by kernel_rfl
set_option maxRecDepth 100000 in
set_option maxHeartbeats 1000000 in
theorem read_any {w : World} {A : Option Addr} {n cc : Nat} {l : List UInt8} (h : BS w A n cc l) :
    Calls Try.prog 15 #[.slice A n cc] w (CPost14 l w) := by
  have HI := Lib.hid infoIns
  have H := Lib.hid h
  have LE := Lib.hid h.len
  have hsm := h.small
  clear h
  have PO := Lib.hid (@num_pos l)
  have hlt64 := num_lt l
  go_enter Try.func15, Try.ntmps15
  go_wp2_with fail
  refine (cuint_any H.out).mono ?_
  rintro e w1 ⟨rfl, hb⟩
  have HB := Lib.hid hb
  by_cases he : (numS l).2.2 = 0
  · have he1 : ((numS l).2.2 != 0) = false := by rw [he]; rfl
    have HE := Lib.hid he
    clear he hb
    by_cases hl : 8192 < (numS l).1
    · have R := Lib.hid (read_long HE.out hl)
      go_wp2_with fail
      go_ret3
      exact cpost_none R.out rfl HB.out
    · have M := Lib.hid (Mid.start HE.out hl)
      have hN : (numS l).1 ≤ 8192 := by omega
      have NN := Lib.hid (show (numS l).1 = (numS l).1 from rfl)
      have P0 := Lib.hid (show (numS l).2.1 ≤ n by rw [← LE.out]; exact PO.out)
      obtain ⟨i0, hi, hz0, hz1, hz2⟩ := info_parts HI.out
      have HI0 := Lib.hid hi
      have HZ0 := Lib.hid hz0
      have HZ1 := Lib.hid hz1
      have HZ2 := Lib.hid hz2
      clear hi hz0 hz1 hz2 hlt64 hl
      go_wp2_with fail
      go_loopw [25, 6, 8] (fun i t v wr => ∃ (k p : Nat) (c : List InsV), i = .int .u64 k ∧ t = .int .i64 p ∧ k ≤ (numS l).1 ∧ p ≤ n ∧ Mid l k p c ∧ wr.ownsRow w.heap.size 36 4 v k (codeCells c) ∧ Below w.heap.size w wr) (fun i _ _ _ => (numS l).1 - (intOf i).toNat)
      case atStart => exact ⟨0, (numS l).2.1, [], rfl, rfl, Nat.zero_le _, P0.out, M.out, ⟨rfl, .inl ⟨rfl, rfl⟩⟩, HB.out⟩
      case round =>
        obtain ⟨k, p, c, rfl, rfl, hk, hp, hm, hown, hb⟩ := hrel
        have HM := Lib.hid hm
        have HO := Lib.hid hown
        have HB2 := Lib.hid hb
        clear hm hown
        by_cases hlt : k < (numS l).1
        · go_wp2_with fail
          have HBS := Lib.hid (H.out.below (HB2.out.alloc HB2.out.size (.cells #[.int .u8 0, .int .i64 0, .int .i64 0, .string ⟨#[]⟩] 36)))
          refine (one_any HBS.out p hp (numS l).1).mono ?_
          rintro e w2 ⟨x, hev, hb2, hx⟩
          rw [show x.val = (.agg #[.int .u8 (x.op : Int), .int .i64 x.a, .int .i64 x.int, .string x.text] : Value) from rfl] at hev
          subst hev
          have HX := Lib.hid hx
          have HB3 := Lib.hid (show Below w.heap.size w w2 from (HB2.out.alloc HB2.out.size _).trans (hb2.mono (by have := HB2.out.size; simp; omega)))
          have OP := Lib.hid (show p + (oneS (l.drop p) (numS l).1).2.1 ≤ n by have := @one_pos (l.drop p) (numS l).1; rw [List.length_drop, LE.out] at this; omega)
          have hz2 : wr.heap.size < w2.heap.size := by have := hb2.size; simp at this; omega
          have HO2 := Lib.hid (own_below (HO.out.alloc (.cells #[.int .u8 0, .int .i64 0, .int .i64 0, .string ⟨#[]⟩] 36)) hb2)
          have kc := fun j => hb2.cell (p := ⟨wr.heap.size, j, none⟩) (by simp)
          have kf := fun j => hb2.frozen (p := ⟨wr.heap.size, j, none⟩) (by simp)
          have x0 := kc 0
          have x1 := kc 1
          have x2 := kc 2
          have x3 := kc 3
          have fx0 := kf 0
          have fx1 := kf 1
          have fx2 := kf 2
          have fx3 := kf 3
          simp at x0 x1 x2 x3 fx0 fx1 fx2 fx3
          have BW := (show Below wr.heap.size wr w2 from (((Below.refl _ wr).alloc (Nat.le_refl _) _).trans (hb2.mono (by simp))))
          have hsw := HB3.out.size
          have hsr := HB2.out.size
          have HB3b := HB3.out
          clear hb2 kc kf hx hb
          by_cases he : (oneS (l.drop p) (numS l).1).2.2 = 0
          · have he2 : ((oneS (l.drop p) (numS l).1).2.2 != 0) = false := by rw [he]; rfl
            have HM2 := Lib.hid (HM.out.more hlt he)
            have HXE := Lib.hid (HX.out he)
            clear he
            go_wp2_with (at_builtin; refine wpList_append_own _ rfl _ _ 22 rfl w.heap.size 36 i0 (.agg #[.int .u8 0, .int .i64 0, .int .i64 0, .string ⟨#[]⟩]) 4 40 Try.underlying22 HI0.out HZ0.out HZ1.out HZ2.out rfl (by decide) _ k (codeCells c) rfl ?own ⟨w2.heap.size, 0, none⟩ 1 1 x.cells rfl rfl ?c1 ?c2 ?c3 ?c4 ?c5 ?_)
            case own => exact own_below HO.out (by go_grown)
            case c1 => exact cell_four_new _ _ _ _ _ _ _ (by first | rfl | simp)
            case c2 => intro u hu; simp [InsV.cells] at hu; rcases hu with rfl | rfl | rfl | rfl <;> rfl
            case c3 => unfold maxLen; omega
            case c4 => omega
            case c5 => have := HB3.out.size; simp; omega
            intro v' w3 hown' hgrow _
            have HBW := Lib.hid (show Below w.heap.size w w3 from Below.grown (by go_grown) hgrow (by have := HB3.out.size; simp; omega) (fun q e => own_base HO.out e))
            go_wp2_with fail
            go_roundw
            case rel => exact ⟨k + 1, p + (oneS (l.drop p) (numS l).1).2.1, c ++ [x], by go_num, by go_num, by omega, OP.out, by rw [HXE.out]; exact HM2.out, by rw [codeCells_snoc]; exact hown', HBW.out⟩
            case measure => simp [intOf]; omega
          · have he2 : ((oneS (l.drop p) (numS l).1).2.2 != 0) = true := bne_iff_ne.2 he
            have R := Lib.hid (HM.out.bad hlt he)
            clear he
            go_wp2_with fail
            go_ret3
            exact cpost_none R.out (by omega) (by go_grown)
        · by_cases hpn : p < n
          · have R := Lib.hid (HM.out.left hlt (by rw [LE.out]; exact hpn))
            go_wp2_with fail
            go_ret3
            exact cpost_none R.out rfl HB2.out
          · have R := Lib.hid (HM.out.done hlt (by rw [LE.out]; exact hpn))
            obtain ⟨A', cc', rfl⟩ := own_slice HO.out
            have KL := Lib.hid HM.out.len
            go_wp2_with fail
            go_ret3
            exact cpost_some R.out KL.out (own_code HO.out KL.out) HB2.out
  · have he1 : ((numS l).2.2 != 0) = true := bne_iff_ne.2 he
    have R := Lib.hid (read_bad he)
    clear he hb
    go_wp2_with fail
    go_ret3
    exact cpost_none R.out rfl HB.out
end Go.Proofs.Ytefijgdbnjmifaa

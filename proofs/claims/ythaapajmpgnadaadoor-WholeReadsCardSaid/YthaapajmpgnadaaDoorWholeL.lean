/- The greatest of some numbers, walked: the program's and the reference's. -/
import Derived.Test.YthaapajmpgnadaaDoorLawB
import Derived.Test.YthaapajmpgnadaaDoorSlices
namespace Go.Proofs.YthaapajmpgnadaaDoor
open Go.RowKit

/-- The greatest of the first k. -/
def mostN (zs : List Int) : Nat → Int
  | 0 => 0
  | k + 1 => if k = 0 ∨ mostN zs k < zs.getD k 0 then zs.getD k 0 else mostN zs k
theorem mostN_take {zs : List Int} {k : Nat} (h : k = 0 ∨ mostN zs k < zs.getD k 0) : mostN zs (k + 1) = zs.getD k 0 := if_pos h
theorem mostN_keep {zs : List Int} {k : Nat} (h0 : k ≠ 0) (h : ¬ mostN zs k < zs.getD k 0) : mostN zs (k + 1) = mostN zs k := if_neg (fun h' => by rcases h' with h' | h'; exact h0 h'; exact h h')

def i64s (zs : List Int) (j : Nat) : Value := .int .i64 (zs.getD j 0)
def i8s (zs : List Int) (j : Nat) : Value := .int .i8 (zs.getD j 0)

set_option maxHeartbeats 1000000 in
theorem most64_any (zs : List Int) (A : Option Addr) (n c : Nat) (w : World) (hn : n ≤ 1000000) (hs : Sl w 1 A n (i64s zs)) :
    Calls Tryd.prog 12 #[.slice A n c] w (Ret (.tuple #[.int .i64 (mostN zs n), .bool (decide (0 < n))]) w) := by
  go_enter Tryd.func12, Tryd.ntmps12
  go_wp2_with fail
  go_loop [4, 9, 5, 6] (fun m i _ _ => ∃ k : Nat, k ≤ n ∧ i = .int .i64 k ∧ m = .int .i64 (mostN zs k)) (fun _ i _ _ => n - (intOf i).toNat)
  case atStart => exact ⟨0, by omega, rfl, rfl⟩
  case round =>
    obtain ⟨k, hk, rfl, rfl⟩ := hrel
    by_cases hlt : k < n
    · obtain ⟨b, off, rfl, _, hc⟩ := hs (by omega)
      have hcell := hc k (by omega)
      simp only [i64s] at hcell
      generalize hz : zs.getD k 0 = z at hcell
      have Hz := Lib.hid hz
      clear hz hc
      by_cases h0 : k = 0
      · subst h0
        have hcell0 : w.cell? ⟨b, off, none⟩ = some (.int .i64 z) := hcell
        clear hcell
        go_wp2
        go_round
        case rel => exact ⟨1, by omega, rfl, int_eq (by rw [← Hz.out]; exact (mostN_take (.inl rfl)).symm)⟩
        case measure => simp [intOf]; omega
      · have e0 : (((k : Nat) : Int) == 0) = false := by simpa using h0
        by_cases h1 : mostN zs k < z
        · have H1 := Lib.hid (mostN_take (zs := zs) (k := k) (.inr (by rw [Hz.out]; exact h1)))
          go_wp2
          go_round
          case rel => exact ⟨k + 1, by omega, by go_num, int_eq (by rw [H1.out, Hz.out])⟩
          case measure => simp [intOf]; omega
        · have H1 := Lib.hid (mostN_keep (zs := zs) h0 (by rw [Hz.out]; exact h1))
          go_wp2
          go_round
          case rel => exact ⟨k + 1, by omega, by go_num, int_eq H1.out.symm⟩
          case measure => simp [intOf]; omega
    · obtain rfl : k = n := by omega
      go_wp2
      go_ret2
      exact ⟨rfl, rfl⟩
set_option maxHeartbeats 1000000 in
theorem most8_any (zs : List Int) (A : Option Addr) (n c : Nat) (w : World) (hn : n ≤ 1000000) (hs : Sl w 1 A n (i8s zs)) :
    Calls Tryd.prog 15 #[.slice A n c] w (Ret (.tuple #[.int .i8 (mostN zs n), .bool (decide (0 < n))]) w) := by
  go_enter Tryd.func15, Tryd.ntmps15
  go_wp2_with fail
  go_loop [4, 9, 5, 6] (fun m i _ _ => ∃ k : Nat, k ≤ n ∧ i = .int .i64 k ∧ m = .int .i8 (mostN zs k)) (fun _ i _ _ => n - (intOf i).toNat)
  case atStart => exact ⟨0, by omega, rfl, rfl⟩
  case round =>
    obtain ⟨k, hk, rfl, rfl⟩ := hrel
    by_cases hlt : k < n
    · obtain ⟨b, off, rfl, _, hc⟩ := hs (by omega)
      have hcell := hc k (by omega)
      simp only [i8s] at hcell
      generalize hz : zs.getD k 0 = z at hcell
      have Hz := Lib.hid hz
      clear hz hc
      by_cases h0 : k = 0
      · subst h0
        have hcell0 : w.cell? ⟨b, off, none⟩ = some (.int .i8 z) := hcell
        clear hcell
        go_wp2
        go_round
        case rel => exact ⟨1, by omega, rfl, int_eq (by rw [← Hz.out]; exact (mostN_take (.inl rfl)).symm)⟩
        case measure => simp [intOf]; omega
      · have e0 : (((k : Nat) : Int) == 0) = false := by simpa using h0
        by_cases h1 : mostN zs k < z
        · have H1 := Lib.hid (mostN_take (zs := zs) (k := k) (.inr (by rw [Hz.out]; exact h1)))
          go_wp2
          go_round
          case rel => exact ⟨k + 1, by omega, by go_num, int_eq (by rw [H1.out, Hz.out])⟩
          case measure => simp [intOf]; omega
        · have H1 := Lib.hid (mostN_keep (zs := zs) h0 (by rw [Hz.out]; exact h1))
          go_wp2
          go_round
          case rel => exact ⟨k + 1, by omega, by go_num, int_eq H1.out.symm⟩
          case measure => simp [intOf]; omega
    · obtain rfl : k = n := by omega
      go_wp2
      go_ret2
      exact ⟨rfl, rfl⟩

set_option maxHeartbeats 1000000 in
theorem rmost_any (zs : List Int) (A : Option Addr) (n c : Nat) (w : World) (hn : n ≤ 1000000) (hs : Sl w 1 A n (i64s zs)) :
    Calls Tryd.prog 13 #[.slice A n c] w (Ret (.tuple #[.int .i64 (mostN zs n), .bool (decide (0 < n))]) w) := by
  by_cases h0 : n = 0
  · subst h0
    go_enter Tryd.func13, Tryd.ntmps13
    go_wp2_with fail
    go_ret2
    exact ⟨rfl, rfl⟩
  · obtain ⟨b, off, rfl, _, hc⟩ := hs (by omega)
    have hcell0 : w.cell? ⟨b, off, none⟩ = some (i64s zs 0) := hc 0 (by omega)
    simp only [i64s] at hcell0
    generalize hz0 : zs.getD 0 0 = z0 at hcell0
    have Hz0 := Lib.hid hz0
    have Hc := Lib.hid hc
    clear hz0 hc hs
    have e0 : ((n : Int) == 0) = false := by simpa using h0
    have e1 : (0 : Int) < (n : Int) := by omega
    have HD := Lib.hid (show decide (0 < n) = true from decide_eq_true (by omega))
    go_enter Tryd.func13, Tryd.ntmps13
    go_wp2_with fail
    go_loop [4, 5] (fun m i => ∃ k : Nat, 1 ≤ k ∧ k ≤ n ∧ i = .int .i64 k ∧ m = .int .i64 (mostN zs k)) (fun _ i => n - (intOf i).toNat)
    case atStart => exact ⟨1, by omega, by omega, rfl, int_eq (by rw [← Hz0.out]; exact (mostN_take (.inl rfl)).symm)⟩
    case round =>
      obtain ⟨k, hk1, hk, rfl, rfl⟩ := hrel
      by_cases hlt : k < n
      · have hcell := Hc.out k (by omega)
        simp only [i64s] at hcell
        generalize hz : zs.getD k 0 = z at hcell
        have Hz := Lib.hid hz
        clear hz
        by_cases h1 : mostN zs k < z
        · have H1 := Lib.hid (mostN_take (zs := zs) (k := k) (.inr (by rw [Hz.out]; exact h1)))
          go_wp2
          go_round
          case rel => exact ⟨k + 1, by omega, by omega, by go_num, int_eq (by rw [H1.out, Hz.out]; omega)⟩
          case measure => simp [intOf]; omega
        · have H1 := Lib.hid (mostN_keep (zs := zs) (k := k) (by omega) (by rw [Hz.out]; exact h1))
          go_wp2
          go_round
          case rel => exact ⟨k + 1, by omega, by omega, by go_num, int_eq (by rw [H1.out]; omega)⟩
          case measure => simp [intOf]; omega
      · obtain rfl : k = n := by omega
        go_wp2
        go_ret2
        exact ⟨ret_tup2 rfl (by first | rfl | (rw [HD.out]; done) | (simp; omega)), rfl⟩

theorem info8 : (Tryd.prog.info? 28).map (fun i => (i.zero, i.size, i.bytes)) = some (some (.int .i8 0), 1, 1) := by kernel_rfl
theorem info64 : (Tryd.prog.info? 2).map (fun i => (i.zero, i.size, i.bytes)) = some (some (.int .i64 0), 1, 8) := by kernel_rfl
def small8 (zs : List Int) : List Int := zs.map IntKind.i8.wrap
theorem take_snoc {α : Type} (l : List α) (k : Nat) (d : α) (h : k < l.length) : l.take k ++ [l.getD k d] = l.take (k + 1) := by
  rw [List.take_succ_eq_append_getElem h]; simp [List.getD, List.getElem?_eq_getElem h]
theorem getD_map (zs : List Int) (f : Int → Int) (k : Nat) (h : k < zs.length) : (zs.map f).getD k 0 = f (zs.getD k 0) := by
  simp [List.getD, h]

set_option maxHeartbeats 1000000 in
theorem small_any (zs : List Int) (A : Option Addr) (n c : Nat) (w : World) (hn : n ≤ 1000000) (hl : zs.length = n) (hs : Sl w 1 A n (i64s zs)) :
    Calls Tryd.prog 14 #[.slice A n c] w fun e w' => ∃ v, e = .returned v ∧ w'.ownsRow w.heap.size 28 1 v n ((small8 zs).map (Value.int .i8)) ∧ Below w.heap.size w w' := by
  obtain ⟨i0, hi, hz0, hz1, hz2⟩ := info_parts info8
  have HL := Lib.hid hl
  clear hl
  go_enter Tryd.func14, Tryd.ntmps14
  go_wp2_with fail
  go_loopw [3, 4] (fun v i wr => ∃ k : Nat, k ≤ n ∧ i = .int .i64 k ∧ wr.ownsRow w.heap.size 28 1 v k (((small8 zs).take k).map (Value.int .i8)) ∧ Below w.heap.size w wr) (fun _ i _ => n - (intOf i).toNat)
  case atStart => exact ⟨0, by omega, rfl, World.ownsRow_nil _ _ _ _, Below.refl _ _⟩
  case round =>
    obtain ⟨k, hk, rfl, hown, hb⟩ := hrel
    by_cases hlt : k < n
    · obtain ⟨b, off, rfl, hbl, hc⟩ := (hs.keep hb) (by omega)
      have hcell := hc k (by omega)
      simp only [i64s] at hcell
      generalize hz : zs.getD k 0 = z at hcell
      have Hz := Lib.hid hz
      clear hz hc hs
      have hsz := hb.size
      go_wp2_with (at_builtin; refine wpList_append_lies _ (by rfl) _ _ _ (by rfl) w.heap.size 28 i0 (.int .i8 0) 1 1 Tryd.underlying26 hi hz0 hz1 hz2 rfl (by omega) _ k _ (by rfl) (hown.alloc _) ⟨wr.heap.size, 0, none⟩ 1 1 [.int .i8 (IntKind.i8.wrap z)] (by rfl) (by rfl) (World.news_of_block (cs := #[.int .i8 (IntKind.i8.wrap z)]) (t := 28) (fr := (0, 0)) (heap_alloc_new wr _)) (by simp [Value.oneCell']) (by omega) (by simp only [maxLen]; omega) (by omega) (by simp; omega) (wr.heap.size + 1) (by simp) ?_; intro g cap w1 hown1 hgrow hat hlt1)
      go_roundw
      case rel =>
        refine ⟨k + 1, by omega, by go_num, ?_, ?_⟩
        · have e : ((small8 zs).take (k + 1)).map (Value.int .i8) = ((small8 zs).take k).map (Value.int .i8) ++ [.int .i8 (IntKind.i8.wrap z)] := by
            have hlen : k < (small8 zs).length := by rw [small8, List.length_map, HL.out]; exact hlt
            rw [← take_snoc _ _ 0 hlen, List.map_append, small8, getD_map _ _ _ (by rw [HL.out]; exact hlt), Hz.out]; rfl
          rw [e]; exact hown1
        · exact (hb.alloc hsz _).grown hgrow (by simp; omega) (fun q hq => own_base hown hq)
      case measure => simp [intOf]; omega
    · obtain rfl : k = n := by omega
      go_wp2
      go_ret
      exact ⟨_, rfl, by rw [List.take_of_length_le (by rw [small8, List.length_map, HL.out]; exact Nat.le_refl _)] at hown; exact hown, hb⟩
end Go.Proofs.YthaapajmpgnadaaDoor

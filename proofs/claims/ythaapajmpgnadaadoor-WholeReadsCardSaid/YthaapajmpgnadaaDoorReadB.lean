/- Reading a number of a text: the program's and the reference's way; a number's text by the reference, walked. -/
import Derived.Test.YthaapajmpgnadaaDoorReadA
import Derived.Test.YthaapajmpgnadaaDoorShelfB
import Derived.Lib.SmallJoins
namespace Go.Proofs.YthaapajmpgnadaaDoor
open Go.RowKit

/-- The library's error of range lies in its variable. -/
def RangeVar (w : World) : Prop := ∃ tp p, w.var? Tryd.prog "strconv.ErrRange" = some #[.iface tp p]
theorem RangeVar.below {w w' : World} (h : RangeVar w) (hb : Below w.heap.size w w') : RangeVar w' := by
  have hg : Tryd.prog.globalNamed "strconv.ErrRange" = some 1 := by kernel_rfl
  obtain ⟨tp, p, h⟩ := h
  refine ⟨tp, p, ?_⟩
  unfold World.var? at *
  rw [hg] at h ⊢
  simp only [Option.bind_some] at h ⊢
  have hlt : 1 < w.heap.size := by
    cases hh : w.heap[1]? with
    | none => rw [hh] at h; cases h
    | some o => exact (Array.getElem?_eq_some_iff.1 hh).1
  rw [hb.block _ hlt]; exact h

theorem read_no (s : ByteArray) (w : World) (hs : s.size ≤ 140737488351232) (h : rightB s.data.toList = false) :
    Calls Tryd.prog 33 #[.string s] w (RetB (.tuple #[.int .i64 0, .int .i64 9]) w) := by
  have H := Lib.hid h
  clear h
  go_enter Tryd.func33, Tryd.ntmps33
  go_wp2_with fail
  refine (right_any s _ (by omega)).mono ?_; rintro e w1 ⟨rfl, rfl⟩
  rw [H.out]
  go_wp2_with fail
  go_ret2
  exact ⟨rfl, Below.refl _ _⟩
theorem read_ok (s : ByteArray) (w : World) (hs : s.size ≤ 140737488351232) (h : rightB s.data.toList = true) (v : Int) (hv : Lib.parseIntB 64 s.data.toList = .ok v) :
    Calls Tryd.prog 33 #[.string s] w (RetB (.tuple #[.int .i64 v, .int .i64 0]) w) := by
  have H := Lib.hid h
  have HV := Lib.hid hv
  clear h hv
  go_enter Tryd.func33, Tryd.ntmps33
  go_wp2_with fail
  refine (right_any s _ (by omega)).mono ?_; rintro e w1 ⟨rfl, rfl⟩
  rw [H.out]
  go_wp2_with fail
  refine (Tryd.strconv_ParseInt_10_at64_ok s (by omega) v HV.out _).mono ?_; rintro e w1 ⟨rfl, hw⟩
  have hb : Below w.heap.size w w1 := by
    rcases hw with rfl | ⟨t, rfl⟩
    · exact Below.refl _ _
    · exact Joins.below_bytesWorld _ _ _ _ (Nat.le_refl _)
  clear hw
  go_wp2_with fail
  go_ret2
  exact ⟨rfl, hb⟩
theorem read_long (s : ByteArray) (w : World) (hs : s.size ≤ 140737488351232) (h : rightB s.data.toList = true) (hv : Lib.parseIntB 64 s.data.toList = Lib.NumEnd.range) (hr : RangeVar w) :
    Calls Tryd.prog 33 #[.string s] w (RetB (.tuple #[.int .i64 0, .int .i64 2]) w) := by
  have H := Lib.hid h
  have HV := Lib.hid hv
  obtain ⟨tp, p, hr⟩ := hr
  have HR := Lib.hid hr
  clear h hv hr
  go_enter Tryd.func33, Tryd.ntmps33
  go_wp2_with fail
  refine (right_any s _ (by omega)).mono ?_; rintro e w1 ⟨rfl, rfl⟩
  rw [H.out]
  go_wp2_with fail
  refine (Tryd.strconv_ParseInt_10_at64_range_var s (by omega) HV.out tp p _ HR.out).mono ?_; rintro e w1 ⟨N, rfl, _, _, hb⟩
  go_wp2_with fail
  go_ret2
  exact ⟨rfl, hb⟩
theorem read_any (s : ByteArray) (w : World) (hs : s.size ≤ 140737488351232) (hr : RangeVar w) :
    Calls Tryd.prog 33 #[.string s] w (RetB (.tuple #[.int .i64 (readVal s.data.toList), .int .i64 (readErr s.data.toList)]) w) := by
  cases h : rightB s.data.toList with
  | false =>
    rw [readVal, readErr, h]
    exact read_no s w hs h
  | true =>
    have hp := parse_right _ h
    rw [readVal, readErr, h]
    cases h2 : readOk s.data.toList with
    | true =>
      rw [h2, if_pos rfl] at hp
      exact read_ok s w hs h _ hp
    | false =>
      rw [h2] at hp
      exact read_long s w hs h hp hr
end Go.Proofs.YthaapajmpgnadaaDoor

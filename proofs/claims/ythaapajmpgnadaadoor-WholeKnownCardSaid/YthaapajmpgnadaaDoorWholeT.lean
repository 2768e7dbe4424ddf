/- whole.Text, and what wakes the statements of layer 1. -/
import Derived.Test.YthaapajmpgnadaaDoorWholeA
import Derived.Test.YthaapajmpgnadaaDoorShelf
namespace Go.Proofs.YthaapajmpgnadaaDoor
open Go.RowKit

/-- The library's table of powers of ten lies as its text says. -/
def Pow10 (w : World) : Prop := Lib.TabIs Tryd.prog w "internal/strconv.uint64pow10" .u64 Lib.pow10Tab
theorem Pow10.below {w w' : World} (h : Pow10 w) (hb : Below w.heap.size w w') : Pow10 w' := by
  have hg : Tryd.prog.globalNamed "internal/strconv.uint64pow10" = some 2 := by kernel_rfl
  unfold Pow10 Lib.TabIs World.var? at *
  rw [hg] at h ⊢
  simp only [Option.bind_some] at h ⊢
  have hlt : 2 < w.heap.size := by
    cases hh : w.heap[2]? with
    | none => rw [hh] at h; cases h
    | some o => exact (Array.getElem?_eq_some_iff.1 hh).1
  rw [hb.block _ hlt]; exact h

theorem below_grow (w : World) (q : Nat) (os : Array Obj) : Below w.heap.size w (Sort.grow (w.drewN q) os) :=
  ⟨rfl, rfl, rfl, by simp [Sort.grow, World.drewN], fun k hk => by
    show ((w.drewN q).heap ++ os)[k]? = _
    rw [Array.getElem?_append_left (by exact hk)]; rfl⟩

theorem text_any (a : Int) (ha : -9223372036854775808 ≤ a) (ha' : a ≤ 9223372036854775807) (w : World) (hp : Pow10 w) :
    Calls Tryd.prog 35 #[.int .i64 a] w (RetB (.string ⟨(Lib.itoa a).toArray⟩) w) := by
  have H := Lib.hid hp
  clear hp
  go_enter Tryd.func35, Tryd.ntmps35
  go_wp2_with fail
  refine (Tryd.strconv_FormatInt_10 a ha ha' _ H.out).mono ?_; rintro e w1 ⟨rfl, k, os, rfl⟩
  go_wp2_with fail
  go_ret
  exact ⟨rfl, below_grow w k os⟩

theorem awake_any (w : World) (hp : Pow10 w) : Calls Tryd.prog 11 #[] w (RetB (.bool true) w) := by
  have H := Lib.hid hp
  clear hp
  have e7 : Lib.itoa (-7) = [45, 55] := by decide +kernel
  go_enter Tryd.func11, Tryd.ntmps11
  go_wp2_with fail
  refine (add_any 2 3 (by omega) (by omega) (by omega) (by omega) _).mono ?_; rintro e w1 ⟨rfl, rfl⟩
  go_wp2_with fail
  refine (text_any (-7) (by omega) (by omega) _ H.out).mono ?_; rintro e w1 ⟨rfl, h1⟩
  rw [e7]
  go_wp2_with fail
  go_ret
  exact ⟨rfl, h1⟩
end Go.Proofs.YthaapajmpgnadaaDoor

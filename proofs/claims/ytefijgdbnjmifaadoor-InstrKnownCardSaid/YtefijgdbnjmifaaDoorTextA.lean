/- Numbers as texts, walked: strconv.Itoa and whole.Text. -/
import Derived.Test.YtefijgdbnjmifaaDoorBase
import Derived.Test.YtefijgdbnjmifaaDoorShelf
namespace Go.Proofs.YtefijgdbnjmifaaDoor
open Go.RowKit

/-- The library's table of powers of ten lies as its text says. -/
def Pow10 (w : World) : Prop := Lib.TabIs Tryd.prog w "internal/strconv.uint64pow10" .u64 Lib.pow10Tab
theorem Pow10.below {w w' : World} (h : Pow10 w) (hb : Below w.heap.size w w') : Pow10 w' := by
  have hg : Tryd.prog.globalNamed "internal/strconv.uint64pow10" = some 1 := by kernel_rfl
  unfold Pow10 Lib.TabIs World.var? at *
  rw [hg] at h ⊢
  simp only [Option.bind_some] at h ⊢
  have hlt : 1 < w.heap.size := by
    cases hh : w.heap[1]? with
    | none => rw [hh] at h; cases h
    | some o => exact (Array.getElem?_eq_some_iff.1 hh).1
  rw [hb.block _ hlt]; exact h
theorem below_grow (w : World) (q : Nat) (os : Array Obj) : Below w.heap.size w (Sort.grow (w.drewN q) os) :=
  ⟨rfl, rfl, rfl, by simp [Sort.grow, World.drewN], fun k hk => by
    show ((w.drewN q).heap ++ os)[k]? = _
    rw [Array.getElem?_append_left (by exact hk)]; rfl⟩
theorem text_any (a : Int) (ha : -9223372036854775808 ≤ a) (ha' : a ≤ 9223372036854775807) (w : World) (hp : Pow10 w) :
    Calls Tryd.prog 45 #[.int .i64 a] w (RetB (.string ⟨(Lib.itoa a).toArray⟩) w) := by
  have H := Lib.hid hp
  clear hp
  go_enter Tryd.func45, Tryd.ntmps45
  go_wp2_with fail
  refine (Tryd.strconv_FormatInt_10 a ha ha' _ H.out).mono ?_; rintro e w1 ⟨rfl, k, os, rfl⟩
  go_wp2_with fail
  go_ret
  exact ⟨rfl, below_grow w k os⟩
theorem itoa_any (a : Int) (ha : -9223372036854775808 ≤ a) (ha' : a ≤ 9223372036854775807) (w : World) (hp : Pow10 w) :
    Calls Tryd.prog 44 #[.int .i64 a] w (RetB (.string ⟨(Lib.itoa a).toArray⟩) w) :=
  (Tryd.strconv_Itoa a ha ha' w hp).mono fun _ _ ⟨h1, k, os, h2⟩ => ⟨h1, h2 ▸ below_grow w k os⟩
theorem decDigits_len (u : Nat) (h : u < 18446744073709551616) : (Lib.decDigits u).length ≤ 20 := by
  rw [Lib.decDigits_length]
  rcases Nat.lt_or_ge (Lib.nDigits u) 21 with h1 | h1
  · omega
  · have hp : ∀ k v, Lib.nDigits v = k + 1 → 10 ^ k ≤ v ∨ k = 0 := by
      intro k
      induction k with
      | zero => intro v _; exact .inr rfl
      | succ k ih =>
        intro v hv
        by_cases hs : v < 10
        · rw [Lib.nDigits_small hs] at hv; omega
        · rw [Lib.nDigits_big hs] at hv
          left
          rcases ih (v / 10) (by omega) with h2 | h2
          · rw [Nat.pow_succ]; omega
          · subst h2; omega
    rcases hp (Lib.nDigits u - 1) u (by omega) with h2 | h2
    · have h3 : 10 ^ 20 ≤ 10 ^ (Lib.nDigits u - 1) := Nat.pow_le_pow_right (by omega) (by omega)
      have h4 : (10 : Nat) ^ 20 = 100000000000000000000 := by decide
      omega
    · omega
theorem itoa_len {a : Int} (h0 : -9223372036854775808 ≤ a) (h1 : a ≤ 9223372036854775807) : (Lib.itoa a).length ≤ 21 := by
  unfold Lib.itoa
  split
  · have := decDigits_len a.natAbs (by omega)
    simp only [List.length_cons]; omega
  · have := decDigits_len a.toNat (by omega)
    omega
theorem str_app (a b : List UInt8) : (⟨a.toArray⟩ : ByteArray) ++ ⟨b.toArray⟩ = ⟨(a ++ b).toArray⟩ := by
  apply ByteArray.ext
  rw [ByteArray.data_append]
  simp
theorem str_list (s : ByteArray) : (⟨s.data.toList.toArray⟩ : ByteArray) = s := by
  apply ByteArray.ext
  simp
theorem str_size (a : List UInt8) : (⟨a.toArray⟩ : ByteArray).size = a.length := by
  show a.toArray.size = _
  simp
end Go.Proofs.YtefijgdbnjmifaaDoor

/- A number's text by the reference, walked. -/
import Derived.Test.YtefijgdbnjmifaaDoorBase
import Derived.Test.YtefijgdbnjmifaaDoorWholeP
import Derived.Laws.BytesArg
import Derived.Lib.ItoaNum
namespace Go.Proofs.YtefijgdbnjmifaaDoor
open Go.RowKit


theorem size_bounds (a : Int) (ha : -9223372036854775808 ≤ a) (ha' : a ≤ 9223372036854775807) : 0 ≤ size a ∧ size a ≤ 9223372036854775808 := by unfold size; omega
theorem of_pos (a : Int) (ha : 0 ≤ a) (ha' : a ≤ 9223372036854775807) (w : World) :
    Calls Tryd.prog 62 #[.int .i64 a] w (RetB (.agg #[.bool false, .int .u64 0, .int .u64 a]) w) := by
  go_enter Tryd.func62, Tryd.ntmps62
  go_wp2_with fail
  exact bodyPost_ret (v := .agg #[.bool false, .int .u64 0, .int .u64 a]) (by simp [results, Tryd.results62, go_sem]) rfl ⟨rfl, (Below.refl _ _).alloc (Nat.le_refl _) _⟩
theorem of_neg (a : Int) (ha : a < 0) (ha' : -9223372036854775808 ≤ a) (w : World) :
    Calls Tryd.prog 62 #[.int .i64 a] w (RetB (.agg #[.bool true, .int .u64 0, .int .u64 (-a)]) w) := by
  have e := Lib.hid (show -(a + 1) + 1 = -a by omega)
  go_enter Tryd.func62, Tryd.ntmps62
  go_wp2_with fail
  rw [e.out]
  exact bodyPost_ret (v := .agg #[.bool true, .int .u64 0, .int .u64 (-a)]) (by simp [results, Tryd.results62, go_sem]) rfl ⟨rfl, (Below.refl _ _).alloc (Nat.le_refl _) _⟩
theorem of_any (a : Int) (ha : -9223372036854775808 ≤ a) (ha' : a ≤ 9223372036854775807) (w : World) :
    Calls Tryd.prog 62 #[.int .i64 a] w (RetB (.agg #[.bool (lt0 a), .int .u64 0, .int .u64 (size a)]) w) := by
  by_cases h : a < 0
  · have e : size a = -a := by unfold size; omega
    rw [lt0, decide_eq_true h, e]
    exact of_neg a h ha w
  · have e : size a = a := by unfold size; omega
    rw [lt0, decide_eq_false h, e]
    exact of_pos a (by omega) ha' w
theorem one_byte (W : World) (x : Int) : (Go.convert 25 9 (.slice (some ⟨W.heap.size, 0, none⟩) 1 1)).run Tryd.prog (W.alloc (.cells #[.int .u8 x] 5)) = .ok (.string ⟨#[UInt8.ofNat x.toNat]⟩) (W.alloc (.cells #[.int .u8 x] 5)) :=
  run_convert_bytes_arg (P := Tryd.prog) _ 25 5 Tryd.underlying25 Tryd.underlying5 W.heap.size 0 1 1 [x] rfl (fun i hi => by
    have e : i = 0 := by omega
    subst e
    exact (World.cell?_alloc_at (w := W) #[.int .u8 x] 5 W.heap.size (0 + 0) rfl).trans rfl) 9 Tryd.underlying9

theorem dec_step {m : Int} (h : 9 < m) : Lib.decDigits m.toNat = Lib.decDigits (m / 10).toNat ++ [UInt8.ofNat (48 + m % 10).toNat] := by
  rw [Lib.decDigits, dif_neg (by omega)]
  have e1 : m.toNat / 10 = (m / 10).toNat := by omega
  have e2 : 48 + m.toNat % 10 = (48 + m % 10).toNat := by omega
  rw [e1, e2]
theorem dec_last {m : Int} (h0 : 0 ≤ m) (h : m ≤ 9) : Lib.decDigits m.toNat = [UInt8.ofNat (48 + m).toNat] := by
  rw [Lib.decDigits, dif_pos (by omega)]
  have e2 : 48 + m.toNat = (48 + m).toNat := by omega
  rw [e2]
theorem str_cons (x : UInt8) (t : List UInt8) : Value.string ((⟨#[x]⟩ : ByteArray) ++ ⟨t.toArray⟩) = .string ⟨(x :: t).toArray⟩ :=
  congrArg Value.string (WideShapes.bytes_inj (by simp))
theorem itoa_neg {a : Int} (h : lt0 a = true) : Lib.itoa a = 45 :: Lib.decDigits (size a).toNat := by
  have h' : a < 0 := by simpa [lt0] using h
  rw [Lib.itoa, if_pos h']
  rfl
theorem itoa_pos {a : Int} (h : lt0 a = false) : Lib.itoa a = Lib.decDigits (size a).toNat := by
  have h' : ¬ a < 0 := by simpa [lt0] using h
  rw [Lib.itoa, if_neg h']
  unfold size
  congr 1
  omega
def itoaS (a : Int) : ByteArray := ⟨(Lib.itoa a).toArray⟩

set_option maxHeartbeats 1000000 in
theorem rwtext_any (a : Int) (ha : -9223372036854775808 ≤ a) (ha' : a ≤ 9223372036854775807) (w : World) :
    Calls Tryd.prog 47 #[.int .i64 a] w (RetB (.string (itoaS a)) w) := by
  obtain ⟨hu0, hu1⟩ := size_bounds a ha ha'
  have kc := fun W x => one_byte W x
  go_enter Tryd.func47, Tryd.ntmps47
  go_wp2_with fail
  refine (of_any a ha ha' _).mono ?_; rintro e w1 ⟨rfl, h1⟩
  go_wp2_with fail
  go_loopw [4, 5] (fun s n wr => ∃ (m : Int) (t : List UInt8), 0 ≤ m ∧ m ≤ 9223372036854775808 ∧ n = .int .u64 m ∧ s = .string ⟨t.toArray⟩ ∧ Lib.decDigits (size a).toNat = Lib.decDigits m.toNat ++ t ∧ Below w1.heap.size w1 wr ∧ wr.cell? ⟨w1.heap.size, 0, none⟩ = some (.bool (lt0 a)) ∧ w1.heap.size < wr.heap.size ∧ t.length + m / 2 ≤ 4611686018427387904) (fun _ n _ => (intOf n).toNat)
  case atStart => exact ⟨size a, [], hu0, hu1, rfl, rfl, by simp, (Below.refl _ _).alloc (Nat.le_refl _) _, (World.cell?_alloc_at (w := w1) _ _ _ 0 rfl).trans rfl, by simp, by simp; omega⟩
  case round =>
    obtain ⟨m, t, hm0, hm, rfl, rfl, hd, hb, hc, hsz, hl⟩ := hrel
    have HD := Lib.hid hd
    clear hd
    by_cases hlt : 9 < m
    · go_wp2_with fail
      refine ⟨⟨m / 10, UInt8.ofNat (48 + m % 10).toNat :: t, by omega, by omega, rfl, str_cons _ _, by rw [HD.out, dec_step hlt, List.append_assoc]; rfl, hb.alloc hb.size _, ?_, by simp; omega, by simp; omega⟩, by simp [intOf]; omega⟩
      rw [World.cell?_alloc_lt _ _ _ hsz]; exact hc
    · cases hlt0 : lt0 a with
      | true =>
        have E := Lib.hid (show itoaS a = ⟨(45 :: UInt8.ofNat (48 + m).toNat :: t).toArray⟩ by rw [itoaS, itoa_neg hlt0, HD.out, dec_last hm0 (by omega)]; rfl)
        rw [hlt0] at hc
        clear hlt0
        go_wp2_with fail
        go_ret
        refine ⟨?_, bthen h1 (hb.alloc hb.size _)⟩
        rw [E.out]
        exact congrArg Ending.returned (congrArg Value.string (WideShapes.bytes_inj (by simp)))
      | false =>
        have E := Lib.hid (show itoaS a = ⟨(UInt8.ofNat (48 + m).toNat :: t).toArray⟩ by rw [itoaS, itoa_pos hlt0, HD.out, dec_last hm0 (by omega)]; rfl)
        rw [hlt0] at hc
        clear hlt0
        go_wp2_with fail
        go_ret
        refine ⟨?_, bthen h1 (hb.alloc hb.size _)⟩
        rw [E.out]
        exact congrArg Ending.returned (congrArg Value.string (WideShapes.bytes_inj (by simp)))
end Go.Proofs.YtefijgdbnjmifaaDoor

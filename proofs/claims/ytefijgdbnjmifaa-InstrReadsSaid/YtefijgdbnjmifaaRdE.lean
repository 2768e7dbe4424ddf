/- Reading a text with what is caught, and the three reads, walked. Printed by a program. -/
import Derived.Test.YtefijgdbnjmifaaRdD
namespace Go.Proofs.Ytefijgdbnjmifaa
open Go.RowKit

/-- Reading a text: its bytes, where it ends, 0; or none, where it goes wrong, the error. -/
def textS (l : List UInt8) : List UInt8 × Nat × Int :=
  if (numS l).2.2 ≠ 0 then ([], (numS l).2.1, (numS l).2.2)
  else if l.length - (numS l).2.1 < (numS l).1 then ([], l.length, 4)
  else ((l.drop (numS l).2.1).take (numS l).1, (numS l).2.1 + (numS l).1, 0)
theorem text_bad {l : List UInt8} (h : (numS l).2.2 ≠ 0) : textS l = ([], (numS l).2.1, (numS l).2.2) := if_pos h
theorem text_short {l : List UInt8} (h : (numS l).2.2 = 0) (hs : l.length - (numS l).2.1 < (numS l).1) : textS l = ([], l.length, 4) := (if_neg (fun c => c h)).trans (if_pos hs)
theorem text_good {l : List UInt8} (h : (numS l).2.2 = 0) (hs : ¬ l.length - (numS l).2.1 < (numS l).1) : textS l = ((l.drop (numS l).2.1).take (numS l).1, (numS l).2.1 + (numS l).1, 0) := (if_neg (fun c => c h)).trans (if_neg hs)
theorem text_none {l : List UInt8} (h : (textS l).2.2 ≠ 0) : (textS l).1 = [] := by
  by_cases h1 : (numS l).2.2 = 0
  · by_cases h2 : l.length - (numS l).2.1 < (numS l).1
    · rw [text_short h1 h2]
    · rw [text_good h1 h2] at h; exact absurd rfl h
  · rw [text_bad h1]
/-- What reading a text comes to. -/
def TPost (l : List UInt8) (rb : Nat) (w : World) (e : Ending) (w' : World) : Prop :=
  ((textS l).2.2 = 0 ∧ e = .returned (.string (strB (textS l).1)) ∧ (textS l).2.1 ≤ l.length ∧ Goes rb (textS l).2.1 w w') ∨
  ((textS l).2.2 ≠ 0 ∧ e = .panicked [{ v := faultV ((textS l).2.1 : Int) (textS l).2.2, recovered := false }] ∧ ∃ q, Goes rb q w w')
set_option maxRecDepth 100000 in
theorem text_do {w : World} {rb : Nat} {A : Option Addr} {n cc : Nat} {l : List UInt8} (h : RD w rb A n cc l 0) (hn : (n : Int) ≤ 140737488351232) :
    Calls Try.prog 55 #[.pointer (some ⟨rb, 0, none⟩)] w (TPost l rb w) := by
  go_enter Try.func55, Try.ntmps55
  go_wp2_with fail
  refine (number_any h hn).mono ?_
  rintro e w2 (⟨h1, rfl, h3, h4⟩ | ⟨h1, rfl, q, h4⟩)
  · have hv := num_lt l
    have hl := h.len
    have R2 := h4.rd h (by omega)
    have HG := Lib.hid h4
    clear h h4
    by_cases hs : l.length - (numS l).2.1 < (numS l).1
    · have T := Lib.hid (text_short h1 hs)
      go_wp2_with fail
      refine (bytes_no R2 hn _ (by omega)).mono ?_
      rintro e w3 ⟨rfl, g⟩
      refine ⟨rfl, .inr ?_⟩
      rw [T.out]
      exact ⟨by simp, by rw [hl], _, HG.out.then g⟩
    · have T := Lib.hid (text_good h1 hs)
      by_cases h0 : (numS l).1 = 0
      · go_wp2_with fail
        refine (bytes_zero R2 hn).mono ?_
        rintro e w3 ⟨rfl, g⟩
        go_wp2_with fail
        go_ret
        refine .inl ?_
        rw [T.out, h0]
        exact ⟨rfl, by simp, by simpa using h3, HG.out.then g⟩
      · go_wp2_with fail
        refine (bytes_some R2 hn _ (by omega) (by omega)).mono ?_
        rintro e w3 ⟨rfl, g⟩
        go_wp2_with fail
        go_ret
        refine .inl ?_
        rw [T.out]
        exact ⟨rfl, rfl, by show (numS l).2.1 + (numS l).1 ≤ l.length; omega, HG.out.then g⟩
  · exact ⟨rfl, .inr (by rw [text_bad h1]; exact ⟨h1, rfl, q, h4⟩)⟩
set_option maxRecDepth 100000 in
set_option maxHeartbeats 2000000 in
theorem read_string {w : World} {A : Option Addr} {n cc : Nat} {l : List UInt8} (h : BS w A n cc l) :
    Calls Try.prog 54 #[.slice A n cc, .func (.func 55) #[] #[]] w (RetB (.tuple #[.string (strB (textS l).1), .int .i64 (textS l).2.1, .int .i64 (textS l).2.2]) w) := by
  have hmf : ∀ (fn : Fn) (first cap : Array Value) (w : World), (Instr.makeFunc fn first cap).run Try.prog w = .ok (.func fn first cap) w := fun _ _ _ _ => rfl
  have H := Lib.hid h
  clear h
  go_enter_defers Try.func54, Try.ntmps54
  go_wp2_with fail
  have hB : Below w.heap.size w ((((w.alloc (.cells #[.string ⟨#[]⟩] 9)).alloc (.cells #[.int .i64 0] 3)).alloc (.cells #[.int .i64 0] 25)).alloc (.cells #[.slice A n cc, .int .i64 0] 103)) :=
    ((((Below.refl _ w).alloc (Nat.le_refl _) _).alloc (by simp) _).alloc (by simp; omega) _).alloc (by simp; omega) _
  have F := four w (.string ⟨#[]⟩) (.int .i64 0) (.int .i64 0) (.slice A n cc) (.int .i64 0) 9 3 25 103 _ rfl
  have hrd : RD ((((w.alloc (.cells #[.string ⟨#[]⟩] 9)).alloc (.cells #[.int .i64 0] 3)).alloc (.cells #[.int .i64 0] 25)).alloc (.cells #[.slice A n cc, .int .i64 0] 103)) (w.heap.size + 1 + 1 + 1) A n cc l 0 := {
    c0 := F.2.2.2.1
    c1 := F.2.2.2.2.1
    fz := F.2.2.2.2.2.2.2.2
    len := H.out.len
    le := Nat.zero_le _
    bytes := H.out.bytes.keep hB
    ne := fun hn b off e => by
      obtain ⟨b', off', e', hlt, _⟩ := H.out.bytes hn
      rw [e'] at e
      injection e with e
      injection e with e1 _ _
      omega
    lt := by simp
    cap := H.out.cap
    capb := H.out.capb
    nil := H.out.nil }
  refine (text_do hrd H.out.small).mono ?_
  rintro e w5 (⟨h1, rfl, h3, h4⟩ | ⟨h1, rfl, q, h4⟩)
  · have r0 := (h4.cell (k := w.heap.size) (by omega) 0).trans F.1
    have r1 := (h4.cell (k := w.heap.size + 1) (by omega) 0).trans F.2.1
    have r2 := (h4.cell (k := w.heap.size + 1 + 1) (by omega) 0).trans F.2.2.1
    have f0 := (h4.frozen (k := w.heap.size) (by omega) 0).trans F.2.2.2.2.2.1
    have f1 := (h4.frozen (k := w.heap.size + 1) (by omega) 0).trans F.2.2.2.2.2.2.1
    have f2 := (h4.frozen (k := w.heap.size + 1 + 1) (by omega) 0).trans F.2.2.2.2.2.2.2.1
    have p1 := h4.2.2.2.2.2.2.1
    have HG := Lib.hid h4
    have hsz : w.heap.size + 1 + 1 + 1 < w5.heap.size := by rw [h4.2.2.2.1]; simp
    have HB := Lib.hid (hB.trans (h4.below (B := w.heap.size) (by omega)))
    clear h4 hrd hB F
    go_wp2_with fail
    go_region
    go_wp2_with fail
    have CP : CaughtP w.heap.size (w.heap.size + 1) (w.heap.size + 1 + 1) (.string (strB (textS l).1)) ((textS l).2.1 : Int) 0 w5 ((((w5.setCell ⟨w.heap.size, 0, none⟩ (.string (strB (textS l).1))).setCell ⟨w.heap.size, 0, none⟩ (.string (strB (textS l).1))).setCell ⟨w.heap.size + 1, 0, none⟩ (.int .i64 ((textS l).2.1 : Int))).setCell ⟨w.heap.size + 1 + 1, 0, none⟩ (.int .i64 0)).drew := by
      exact cpost_two r0 r1 r2 (by omega) (by omega) (by omega) _ _ _ _
    generalize ((((w5.setCell ⟨w.heap.size, 0, none⟩ (.string (strB (textS l).1))).setCell ⟨w.heap.size, 0, none⟩ (.string (strB (textS l).1))).setCell ⟨w.heap.size + 1, 0, none⟩ (.int .i64 ((textS l).2.1 : Int))).setCell ⟨w.heap.size + 1 + 1, 0, none⟩ (.int .i64 0)).drew = W6 at *
    obtain ⟨g1, g2, g3, g4, g5, g6, g7, g8⟩ := CP
    refine leaves_cons (f := 61) (args := #[.pointer (some ⟨w.heap.size, 0, none⟩), .pointer (some ⟨w.heap.size + 1, 0, none⟩), .pointer (some ⟨w.heap.size + 1 + 1, 0, none⟩)]) (by simp) (by simp [go_sem]) ?_
    refine (catch_r_string _ _ _ _).mono ?_
    rintro e u' w'' ⟨rfl, rfl, rfl⟩
    have d0 := (cell_old W6 (.cells #[.int .i64 0, .int .i64 0] 100) w.heap.size 0 (by omega)).trans g6
    have d1 := (cell_old W6 (.cells #[.int .i64 0, .int .i64 0] 100) (w.heap.size + 1) 0 (by omega)).trans g7
    have d2 := (cell_old W6 (.cells #[.int .i64 0, .int .i64 0] 100) (w.heap.size + 1 + 1) 0 (by omega)).trans g8
    have BB : Below w.heap.size w5 W6 := ⟨g1, g2, g3, g4, fun k hk => g5 k (by omega) (by omega) (by omega) (by omega)⟩
    have PF := Lib.hid (show RetB (.tuple #[.string (strB (textS l).1), .int .i64 ((textS l).2.1 : Int), .int .i64 (textS l).2.2]) w (.returned (.tuple #[.string (strB (textS l).1), .int .i64 ((textS l).2.1 : Int), .int .i64 0])) (W6.alloc (.cells #[.int .i64 0, .int .i64 0] 100)) from ⟨by rw [h1], (HB.out.trans BB).alloc (by omega) _⟩)
    clear g1 g2 g3 g4 g5 g6 g7 g8 h1
    simp [Leaves, settle, results, Try.results54, go_sem, d0, d1, d2]
    exact PF.out
  · have r0 := (h4.cell (k := w.heap.size) (by omega) 0).trans F.1
    have r1 := (h4.cell (k := w.heap.size + 1) (by omega) 0).trans F.2.1
    have r2 := (h4.cell (k := w.heap.size + 1 + 1) (by omega) 0).trans F.2.2.1
    have f0 := (h4.frozen (k := w.heap.size) (by omega) 0).trans F.2.2.2.2.2.1
    have f1 := (h4.frozen (k := w.heap.size + 1) (by omega) 0).trans F.2.2.2.2.2.2.1
    have f2 := (h4.frozen (k := w.heap.size + 1 + 1) (by omega) 0).trans F.2.2.2.2.2.2.2.1
    have HB := Lib.hid (hB.trans (h4.below (B := w.heap.size) (by omega)))
    have hsz : w.heap.size + 1 + 1 + 1 < w5.heap.size := by rw [h4.2.2.2.1]; simp
    clear h4 hrd hB F
    refine leaves_cons (f := 61) (args := #[.pointer (some ⟨w.heap.size, 0, none⟩), .pointer (some ⟨w.heap.size + 1, 0, none⟩), .pointer (some ⟨w.heap.size + 1 + 1, 0, none⟩)]) (by simp) (by simp [go_sem]) ?_
    refine (catch_p_string _ _ _ (by omega) (by omega) (by omega) _ _ [] _ _ _ _ r0 r1 r2 f0 f1 f2).mono ?_
    rintro e u' w'' ⟨rfl, rfl, g1, g2, g3, g4, g5, g6, g7, g8⟩
    have BB : Below w.heap.size w5 w'' := ⟨g1, g2, g3, by omega, fun k hk => g5 k (by omega) (by omega) (by omega) (by omega)⟩
    have Z : (.string (strB (textS l).1) : Value) = (.string ⟨#[]⟩) := by rw [text_none h1]; rfl
    have PF := Lib.hid (show RetB (.tuple #[.string (strB (textS l).1), .int .i64 ((textS l).2.1 : Int), .int .i64 (textS l).2.2]) w (.returned (.tuple #[.string ⟨#[]⟩, .int .i64 ((textS l).2.1 : Int), .int .i64 (textS l).2.2])) w'' from ⟨by rw [Z], HB.out.trans BB⟩)
    clear g1 g2 g3 g4 g5 h1
    simp [Leaves, settle, results, Try.results54, go_sem, g6, g7, g8]
    exact PF.out
set_option maxRecDepth 100000 in
theorem cuint_any {w : World} {A : Option Addr} {n cc : Nat} {l : List UInt8} (h : BS w A n cc l) :
    Calls Try.prog 26 #[.slice A n cc] w (RetB (.tuple #[.int .u64 ((numS l).1 : Int), .int .i64 (numS l).2.1, .int .i64 (numS l).2.2]) w) := by
  go_enter Try.func26, Try.ntmps26
  go_wp2_with fail
  refine (read_uint64 h).mono ?_
  rintro e w2 ⟨rfl, hb⟩
  go_wp2_with fail
  go_ret3
  exact ⟨rfl, hb⟩
set_option maxRecDepth 100000 in
theorem cint_any {w : World} {A : Option Addr} {n cc : Nat} {l : List UInt8} (h : BS w A n cc l) :
    Calls Try.prog 40 #[.slice A n cc] w (RetB (.tuple #[.int .i64 (zagI (numS l).1), .int .i64 (numS l).2.1, .int .i64 (numS l).2.2]) w) := by
  go_enter Try.func40, Try.ntmps40
  go_wp2_with fail
  refine (read_int64 h).mono ?_
  rintro e w2 ⟨rfl, hb⟩
  go_wp2_with fail
  go_ret3
  exact ⟨rfl, hb⟩
set_option maxRecDepth 100000 in
theorem ctext_any {w : World} {A : Option Addr} {n cc : Nat} {l : List UInt8} (h : BS w A n cc l) :
    Calls Try.prog 42 #[.slice A n cc] w (RetB (.tuple #[.string (strB (textS l).1), .int .i64 (textS l).2.1, .int .i64 (textS l).2.2]) w) := by
  go_enter Try.func42, Try.ntmps42
  go_wp2_with fail
  refine (read_string h).mono ?_
  rintro e w2 ⟨rfl, hb⟩
  go_wp2_with fail
  go_ret3
  exact ⟨rfl, hb⟩
end Go.Proofs.Ytefijgdbnjmifaa

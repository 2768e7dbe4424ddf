/- Reading a text with what is caught, and the three reads, walked. Printed by a program. A field, walked. Printed by a program. -/
import Derived.Test.YtefijgdbnjmifaaGreatDoorRdD
namespace Go.Proofs.YtefijgdbnjmifaaGreatDoor
open Go.RowKit

/-- Reading a text: its bytes, where it ends, 0; or none, where it goes wrong, the error. -/
def textS (l : List UInt8) : List UInt8 × Nat × Int :=
  if (numS l).2.2 ≠ 0 then ([], (numS l).2.1, (numS l).2.2)
  else if l.length - (numS l).2.1 < (numS l).1 then ([], l.length, 4)
  else ((l.drop (numS l).2.1).take (numS l).1, (numS l).2.1 + (numS l).1, 0)
theorem text_bad {l : List UInt8} (h : (numS l).2.2 ≠ 0) : textS l = ([], (numS l).2.1, (numS l).2.2) := if_pos h
theorem text_short {l : List UInt8} (h : (numS l).2.2 = 0) (hs : l.length - (numS l).2.1 < (numS l).1) : textS l = ([], l.length, 4) := (if_neg (fun c => c h)).trans (if_pos hs)
theorem text_good {l : List UInt8} (h : (numS l).2.2 = 0) (hs : ¬ l.length - (numS l).2.1 < (numS l).1) : textS l = ((l.drop (numS l).2.1).take (numS l).1, (numS l).2.1 + (numS l).1, 0) := (if_neg (fun c => c h)).trans (if_neg hs)
theorem text_none {l : List UInt8} (h : (textS l).2.2 ≠ 0) : (textS l).1 = [] := by
  by_cases h1 : (numS l).2.2 = 0
  · by_cases h2 : l.length - (numS l).2.1 < (numS l).1
    · rw [text_short h1 h2]
    · rw [text_good h1 h2] at h; exact absurd rfl h
  · rw [text_bad h1]
/-- What reading a text comes to. -/
def TPost (l : List UInt8) (rb : Nat) (w : World) (e : Ending) (w' : World) : Prop :=
  ((textS l).2.2 = 0 ∧ e = .returned (.string (strB (textS l).1)) ∧ (textS l).2.1 ≤ l.length ∧ Goes rb (textS l).2.1 w w') ∨
  ((textS l).2.2 ≠ 0 ∧ e = .panicked [{ v := faultV ((textS l).2.1 : Int) (textS l).2.2, recovered := false }] ∧ ∃ q, Goes rb q w w')
set_option maxRecDepth 100000 in
theorem text_do {w : World} {rb : Nat} {A : Option Addr} {n cc : Nat} {l : List UInt8} (h : RD w rb A n cc l 0) (hn : (n : Int) ≤ 140737488351232) :
    Calls Tryz.prog 63 #[.pointer (some ⟨rb, 0, none⟩)] w (TPost l rb w) := by
  go_enter Tryz.func63, Tryz.ntmps63
  go_wp2_with fail
  refine (number_any h hn).mono ?_
  rintro e w2 (⟨h1, rfl, h3, h4⟩ | ⟨h1, rfl, q, h4⟩)
  · have hv := num_lt l
    have hl := h.len
    have R2 := h4.rd h (by omega)
    have HG := Lib.hid h4
    clear h h4
    by_cases hs : l.length - (numS l).2.1 < (numS l).1
    · have T := Lib.hid (text_short h1 hs)
      go_wp2_with fail
      refine (bytes_no R2 hn _ (by omega)).mono ?_
      rintro e w3 ⟨rfl, g⟩
      refine ⟨rfl, .inr ?_⟩
      rw [T.out]
      exact ⟨by simp, by rw [hl], _, HG.out.then g⟩
    · have T := Lib.hid (text_good h1 hs)
      by_cases h0 : (numS l).1 = 0
      · go_wp2_with fail
        refine (bytes_zero R2 hn).mono ?_
        rintro e w3 ⟨rfl, g⟩
        go_wp2_with fail
        go_ret
        refine .inl ?_
        rw [T.out, h0]
        exact ⟨rfl, by simp, by simpa using h3, HG.out.then g⟩
      · go_wp2_with fail
        refine (bytes_some R2 hn _ (by omega) (by omega)).mono ?_
        rintro e w3 ⟨rfl, g⟩
        go_wp2_with fail
        go_ret
        refine .inl ?_
        rw [T.out]
        exact ⟨rfl, rfl, by show (numS l).2.1 + (numS l).1 ≤ l.length; omega, HG.out.then g⟩
  · exact ⟨rfl, .inr (by rw [text_bad h1]; exact ⟨h1, rfl, q, h4⟩)⟩
set_option maxRecDepth 100000 in
set_option maxHeartbeats 2000000 in
theorem read_string {w : World} {A : Option Addr} {n cc : Nat} {l : List UInt8} (h : BS w A n cc l) :
    Calls Tryz.prog 62 #[.slice A n cc, .func (.func 63) #[] #[]] w (RetB (.tuple #[.string (strB (textS l).1), .int .i64 (textS l).2.1, .int .i64 (textS l).2.2]) w) := by
  have hmf : ∀ (fn : Fn) (first cap : Array Value) (w : World), (Instr.makeFunc fn first cap).run Tryz.prog w = .ok (.func fn first cap) w := fun _ _ _ _ => rfl
  have H := Lib.hid h
  clear h
  go_enter_defers Tryz.func62, Tryz.ntmps62
  go_wp2_with fail
  have hB : Below w.heap.size w ((((w.alloc (.cells #[.string ⟨#[]⟩] 9)).alloc (.cells #[.int .i64 0] 3)).alloc (.cells #[.int .i64 0] 26)).alloc (.cells #[.slice A n cc, .int .i64 0] 110)) :=
    ((((Below.refl _ w).alloc (Nat.le_refl _) _).alloc (by simp) _).alloc (by simp; omega) _).alloc (by simp; omega) _
  have F := four w (.string ⟨#[]⟩) (.int .i64 0) (.int .i64 0) (.slice A n cc) (.int .i64 0) 9 3 26 110 _ rfl
  have hrd : RD ((((w.alloc (.cells #[.string ⟨#[]⟩] 9)).alloc (.cells #[.int .i64 0] 3)).alloc (.cells #[.int .i64 0] 26)).alloc (.cells #[.slice A n cc, .int .i64 0] 110)) (w.heap.size + 1 + 1 + 1) A n cc l 0 := {
    c0 := F.2.2.2.1
    c1 := F.2.2.2.2.1
    fz := F.2.2.2.2.2.2.2.2
    len := H.out.len
    le := Nat.zero_le _
    bytes := H.out.bytes.keep hB
    ne := fun hn b off e => by
      obtain ⟨b', off', e', hlt, _⟩ := H.out.bytes hn
      rw [e'] at e
      injection e with e
      injection e with e1 _ _
      omega
    lt := by simp
    cap := H.out.cap
    capb := H.out.capb
    nil := H.out.nil }
  refine (text_do hrd H.out.small).mono ?_
  rintro e w5 (⟨h1, rfl, h3, h4⟩ | ⟨h1, rfl, q, h4⟩)
  · have r0 := (h4.cell (k := w.heap.size) (by omega) 0).trans F.1
    have r1 := (h4.cell (k := w.heap.size + 1) (by omega) 0).trans F.2.1
    have r2 := (h4.cell (k := w.heap.size + 1 + 1) (by omega) 0).trans F.2.2.1
    have f0 := (h4.frozen (k := w.heap.size) (by omega) 0).trans F.2.2.2.2.2.1
    have f1 := (h4.frozen (k := w.heap.size + 1) (by omega) 0).trans F.2.2.2.2.2.2.1
    have f2 := (h4.frozen (k := w.heap.size + 1 + 1) (by omega) 0).trans F.2.2.2.2.2.2.2.1
    have p1 := h4.2.2.2.2.2.2.1
    have HG := Lib.hid h4
    have hsz : w.heap.size + 1 + 1 + 1 < w5.heap.size := by rw [h4.2.2.2.1]; simp
    have HB := Lib.hid (hB.trans (h4.below (B := w.heap.size) (by omega)))
    clear h4 hrd hB F
    go_wp2_with fail
    go_region
    go_wp2_with fail
    have CP : CaughtP w.heap.size (w.heap.size + 1) (w.heap.size + 1 + 1) (.string (strB (textS l).1)) ((textS l).2.1 : Int) 0 w5 ((((w5.setCell ⟨w.heap.size, 0, none⟩ (.string (strB (textS l).1))).setCell ⟨w.heap.size, 0, none⟩ (.string (strB (textS l).1))).setCell ⟨w.heap.size + 1, 0, none⟩ (.int .i64 ((textS l).2.1 : Int))).setCell ⟨w.heap.size + 1 + 1, 0, none⟩ (.int .i64 0)).drew := by
      exact cpost_two r0 r1 r2 (by omega) (by omega) (by omega) _ _ _ _
    generalize ((((w5.setCell ⟨w.heap.size, 0, none⟩ (.string (strB (textS l).1))).setCell ⟨w.heap.size, 0, none⟩ (.string (strB (textS l).1))).setCell ⟨w.heap.size + 1, 0, none⟩ (.int .i64 ((textS l).2.1 : Int))).setCell ⟨w.heap.size + 1 + 1, 0, none⟩ (.int .i64 0)).drew = W6 at *
    obtain ⟨g1, g2, g3, g4, g5, g6, g7, g8⟩ := CP
    refine leaves_cons (f := 75) (args := #[.pointer (some ⟨w.heap.size, 0, none⟩), .pointer (some ⟨w.heap.size + 1, 0, none⟩), .pointer (some ⟨w.heap.size + 1 + 1, 0, none⟩)]) (by simp) (by simp [go_sem]) ?_
    refine (catch_r_string _ _ _ _).mono ?_
    rintro e u' w'' ⟨rfl, rfl, rfl⟩
    have d0 := (cell_old W6 (.cells #[.int .i64 0, .int .i64 0] 107) w.heap.size 0 (by omega)).trans g6
    have d1 := (cell_old W6 (.cells #[.int .i64 0, .int .i64 0] 107) (w.heap.size + 1) 0 (by omega)).trans g7
    have d2 := (cell_old W6 (.cells #[.int .i64 0, .int .i64 0] 107) (w.heap.size + 1 + 1) 0 (by omega)).trans g8
    have BB : Below w.heap.size w5 W6 := ⟨g1, g2, g3, g4, fun k hk => g5 k (by omega) (by omega) (by omega) (by omega)⟩
    have PF := Lib.hid (show RetB (.tuple #[.string (strB (textS l).1), .int .i64 ((textS l).2.1 : Int), .int .i64 (textS l).2.2]) w (.returned (.tuple #[.string (strB (textS l).1), .int .i64 ((textS l).2.1 : Int), .int .i64 0])) (W6.alloc (.cells #[.int .i64 0, .int .i64 0] 107)) from ⟨by rw [h1], (HB.out.trans BB).alloc (by omega) _⟩)
    clear g1 g2 g3 g4 g5 g6 g7 g8 h1
    simp [Leaves, settle, results, Tryz.results62, go_sem, d0, d1, d2]
    exact PF.out
  · have r0 := (h4.cell (k := w.heap.size) (by omega) 0).trans F.1
    have r1 := (h4.cell (k := w.heap.size + 1) (by omega) 0).trans F.2.1
    have r2 := (h4.cell (k := w.heap.size + 1 + 1) (by omega) 0).trans F.2.2.1
    have f0 := (h4.frozen (k := w.heap.size) (by omega) 0).trans F.2.2.2.2.2.1
    have f1 := (h4.frozen (k := w.heap.size + 1) (by omega) 0).trans F.2.2.2.2.2.2.1
    have f2 := (h4.frozen (k := w.heap.size + 1 + 1) (by omega) 0).trans F.2.2.2.2.2.2.2.1
    have HB := Lib.hid (hB.trans (h4.below (B := w.heap.size) (by omega)))
    have hsz : w.heap.size + 1 + 1 + 1 < w5.heap.size := by rw [h4.2.2.2.1]; simp
    clear h4 hrd hB F
    refine leaves_cons (f := 75) (args := #[.pointer (some ⟨w.heap.size, 0, none⟩), .pointer (some ⟨w.heap.size + 1, 0, none⟩), .pointer (some ⟨w.heap.size + 1 + 1, 0, none⟩)]) (by simp) (by simp [go_sem]) ?_
    refine (catch_p_string _ _ _ (by omega) (by omega) (by omega) _ _ [] _ _ _ _ r0 r1 r2 f0 f1 f2).mono ?_
    rintro e u' w'' ⟨rfl, rfl, g1, g2, g3, g4, g5, g6, g7, g8⟩
    have BB : Below w.heap.size w5 w'' := ⟨g1, g2, g3, by omega, fun k hk => g5 k (by omega) (by omega) (by omega) (by omega)⟩
    have Z : (.string (strB (textS l).1) : Value) = (.string ⟨#[]⟩) := by rw [text_none h1]; rfl
    have PF := Lib.hid (show RetB (.tuple #[.string (strB (textS l).1), .int .i64 ((textS l).2.1 : Int), .int .i64 (textS l).2.2]) w (.returned (.tuple #[.string ⟨#[]⟩, .int .i64 ((textS l).2.1 : Int), .int .i64 (textS l).2.2])) w'' from ⟨by rw [Z], HB.out.trans BB⟩)
    clear g1 g2 g3 g4 g5 h1
    simp [Leaves, settle, results, Tryz.results62, go_sem, g6, g7, g8]
    exact PF.out
set_option maxRecDepth 100000 in
theorem cuint_any {w : World} {A : Option Addr} {n cc : Nat} {l : List UInt8} (h : BS w A n cc l) :
    Calls Tryz.prog 23 #[.slice A n cc] w (RetB (.tuple #[.int .u64 ((numS l).1 : Int), .int .i64 (numS l).2.1, .int .i64 (numS l).2.2]) w) := by
  go_enter Tryz.func23, Tryz.ntmps23
  go_wp2_with fail
  refine (read_uint64 h).mono ?_
  rintro e w2 ⟨rfl, hb⟩
  go_wp2_with fail
  go_ret3
  exact ⟨rfl, hb⟩
set_option maxRecDepth 100000 in
theorem cint_any {w : World} {A : Option Addr} {n cc : Nat} {l : List UInt8} (h : BS w A n cc l) :
    Calls Tryz.prog 42 #[.slice A n cc] w (RetB (.tuple #[.int .i64 (zagI (numS l).1), .int .i64 (numS l).2.1, .int .i64 (numS l).2.2]) w) := by
  go_enter Tryz.func42, Tryz.ntmps42
  go_wp2_with fail
  refine (read_int64 h).mono ?_
  rintro e w2 ⟨rfl, hb⟩
  go_wp2_with fail
  go_ret3
  exact ⟨rfl, hb⟩
set_option maxRecDepth 100000 in
theorem ctext_any {w : World} {A : Option Addr} {n cc : Nat} {l : List UInt8} (h : BS w A n cc l) :
    Calls Tryz.prog 44 #[.slice A n cc] w (RetB (.tuple #[.string (strB (textS l).1), .int .i64 (textS l).2.1, .int .i64 (textS l).2.2]) w) := by
  go_enter Tryz.func44, Tryz.ntmps44
  go_wp2_with fail
  refine (read_string h).mono ?_
  rintro e w2 ⟨rfl, hb⟩
  go_wp2_with fail
  go_ret3
  exact ⟨rfl, hb⟩
end Go.Proofs.YtefijgdbnjmifaaGreatDoor
namespace Go.Proofs.YtefijgdbnjmifaaGreatDoor
open Go.RowKit

/-- The place goes on; else all below is as it was. -/
def AtW (pb : Nat) (q : Nat) (w w' : World) : Prop := w'.os = w.os ∧ w'.tape = w.tape ∧ w'.output = w.output ∧ w.heap.size ≤ w'.heap.size ∧ (∀ k, k < w.heap.size → k ≠ pb → w'.heap[k]? = w.heap[k]?) ∧ w'.cell? ⟨pb, 0, none⟩ = some (.int .i64 q) ∧ w'.frozen? ⟨pb, 0, none⟩ = w.frozen? ⟨pb, 0, none⟩
theorem AtW.of {w w1 : World} {pb q : Nat} {u : Value} {z : Int} (hz : z = (q : Int)) (h : Below w.heap.size w w1) (hl : pb < w.heap.size) (hc : w1.cell? ⟨pb, 0, none⟩ = some u) : AtW pb q w (w1.setCell ⟨pb, 0, none⟩ (.int .i64 z)) := by
  subst hz
  exact ⟨h.os, h.tape, h.output, by simp; exact h.size, fun k hk hne => (heap_setCell_other _ _ k _ hne).trans (h.block k hk), World.cell?_setCell_same _ _ _ hc, (World.frozen?_setCell _ _ _ _).trans (h.frozen (p := ⟨pb, 0, none⟩) hl)⟩
theorem AtW.same {w : World} {pb p : Nat} (hc : w.cell? ⟨pb, 0, none⟩ = some (.int .i64 p)) : AtW pb p w w := ⟨rfl, rfl, rfl, Nat.le_refl _, fun _ _ _ => rfl, hc, rfl⟩
theorem AtW.then {w w1 w2 : World} {pb p q : Nat} (h : AtW pb p w w1) (k : AtW pb q w1 w2) : AtW pb q w w2 :=
  ⟨k.1.trans h.1, k.2.1.trans h.2.1, k.2.2.1.trans h.2.2.1, Nat.le_trans h.2.2.2.1 k.2.2.2.1, fun j hj hn => (k.2.2.2.2.1 j (Nat.lt_of_lt_of_le hj h.2.2.2.1) hn).trans (h.2.2.2.2.1 j hj hn), k.2.2.2.2.2.1, k.2.2.2.2.2.2.trans h.2.2.2.2.2.2⟩
/-- What is read, if it is there. -/
def ifS {α : Type} (is : Bool) (z : α) (s : α × Nat × Int) : α × Nat × Int := if is then s else (z, 0, 0)
theorem byt_drop (l : List UInt8) (p j : Nat) : byt (l.drop p) j = byt l (p + j) := by
  unfold byt
  simp [List.getD]
theorem addr_add (b off p : Nat) : (⟨b, off, none⟩ : Addr).add p = ⟨b, off + p, none⟩ := by
  unfold Addr.add
  split
  · rename_i h; subst h; rfl
  · rfl
/-- The bytes from a place on. -/
theorem BS.from_ {w : World} {a : Addr} {n cc p : Nat} {l : List UInt8} (h : BS w (some a) n cc l) (hp : p ≤ n) : BS w (some (a.add p)) (n - p) (cc - p) (l.drop p) where
  len := by rw [List.length_drop, h.len]
  bytes := fun hn => by
    obtain ⟨b, off, e, hlt, hc⟩ := h.bytes (by omega)
    injection e with e
    subst e
    exact ⟨b, off + p, congrArg some (addr_add b off p), hlt, fun j hj => by show _ = some (Value.int .u8 (byt (l.drop p) j : Int)); rw [byt_drop, Nat.add_assoc]; exact hc (p + j) (by omega)⟩
  cap := by have := h.cap; omega
  capb := by have := h.capb; omega
  nil := fun e => by cases e
  small := by have := h.small; omega
theorem BS.end_ {w : World} {a : Addr} {n : Nat} {l : List UInt8} (h : BS w (some a) n n l) : BS w (some a) 0 0 (l.drop n) where
  len := by rw [List.length_drop, h.len]; omega
  bytes := fun hn => absurd hn (by omega)
  cap := by omega
  capb := by omega
  nil := fun _ => rfl
  small := by omega
theorem num_pos {l : List UInt8} : (numS l).2.1 ≤ l.length := by
  have : ∀ (f i n : Nat), Nm l i n → f = 10 - i → (numGo l f i n).2.1 ≤ l.length := by
    intro f
    induction f with
    | zero => intro i n h hf; have := h.le; omega
    | succ f ih =>
      intro i n h hf
      by_cases he : l.length ≤ i
      · rw [numGo_end he]; exact Nat.le_refl _
      · by_cases hb : (byt l i = 0 ∧ 0 < i) ∨ (i = 9 ∧ byt l i ≠ 1)
        · rw [numGo_bad (by omega) hb]; show i ≤ _; omega
        · by_cases h1 : byt l i < 128
          · rw [numGo_last (by omega) hb h1]; show i + 1 ≤ _; omega
          · rw [numGo_more (by omega) hb h1]
            exact ih _ _ (h.more (by omega) hb h1) (by omega)
  exact this 10 0 0 (Nm.start l) rfl
theorem text_pos {l : List UInt8} : (textS l).2.1 ≤ l.length := by
  by_cases h1 : (numS l).2.2 = 0
  · by_cases h2 : l.length - (numS l).2.1 < (numS l).1
    · rw [text_short h1 h2]; exact Nat.le_refl _
    · have := @num_pos l
      rw [text_good h1 h2]
      show (numS l).2.1 + (numS l).1 ≤ _
      omega
  · rw [text_bad h1]; exact num_pos
theorem text_zero {l : List UInt8} (h : (textS l).2.2 ≠ 0) : strB (textS l).1 = ⟨#[]⟩ := by rw [text_none h]; rfl
theorem zag_zero {l : List UInt8} (h : (numS l).2.2 ≠ 0) : zagI (numS l).1 = 0 := by rw [num_zero h]; rfl
theorem num_zeroI {l : List UInt8} (h : (numS l).2.2 ≠ 0) : ((numS l).1 : Int) = 0 := by rw [num_zero h]; rfl
set_option maxRecDepth 100000 in
theorem field_uint64_no (s f : Value) (pb : Nat) (w : World) :
    Calls Tryz.prog 40 #[s, .pointer (some ⟨pb, 0, none⟩), .bool false, f] w (RetB (.tuple #[.int .u64 0, .int .i64 0]) w) := by
  go_enter Tryz.func40, Tryz.ntmps40
  go_wp2_with fail
  go_ret2
  exact ⟨rfl, Below.refl _ _⟩
set_option maxRecDepth 100000 in
set_option maxHeartbeats 600000 in
theorem field_uint64_is {w : World} {A : Option Addr} {n cc : Nat} {l : List UInt8} {pb p : Nat} (h : BS w A n cc l) (hc : w.cell? ⟨pb, 0, none⟩ = some (.int .i64 p)) (hf : w.frozen? ⟨pb, 0, none⟩ = false) (hl : pb < w.heap.size) (hp : p ≤ n) :
    Calls Tryz.prog 40 #[.slice A n cc, .pointer (some ⟨pb, 0, none⟩), .bool true, .func (.func 23) #[] #[]] w
      (fun e w' => e = .returned (.tuple #[.int .u64 ((numS (l.drop p)).1 : Int), .int .i64 (numS (l.drop p)).2.2]) ∧ AtW pb (p + (numS (l.drop p)).2.1) w w') := by
  have hcap := h.cap
  have hcapb := h.capb
  have hsm := h.small
  have hlen := Lib.hid h.len
  have HN := Lib.hid h.nil
  have H := Lib.hid h
  have HP := Lib.hid (@num_pos (l.drop p))
  have hpos : (numS (l.drop p)).2.1 ≤ n - p := by have := HP.out; rw [List.length_drop, hlen.out] at this; exact this
  have HZ := Lib.hid (@num_zeroI (l.drop p))
  clear h HP
  cases A with
  | none =>
    obtain rfl := HN.out rfl
    obtain rfl : n = 0 := by omega
    obtain rfl : p = 0 := by omega
    simp only [List.drop_zero, Nat.zero_add] at *
    go_enter Tryz.func40, Tryz.ntmps40
    go_wp2_with fail
    refine (cuint_any H.out).mono ?_
    rintro e w1 ⟨rfl, hb⟩
    have c1 := (hb.cell (p := ⟨pb, 0, none⟩) hl).trans hc
    have f1 := (hb.frozen (p := ⟨pb, 0, none⟩) hl).trans hf
    have AW := Lib.hid (AtW.of (q := (numS l).2.1) rfl hb hl c1)
    clear hb
    by_cases hz : (numS l).2.2 = 0
    · have hz1 : ((numS l).2.2 != 0) = false := by rw [hz]; rfl
      go_wp2_with fail
      go_ret2
      exact ⟨ret_tup2 rfl (congrArg _ hz.symm), AW.out⟩
    · have hz1 : ((numS l).2.2 != 0) = true := bne_iff_ne.2 hz
      have HZ2 := Lib.hid (HZ.out hz)
      clear hz
      go_wp2_with fail
      go_ret2
      exact ⟨ret_tup2 (congrArg _ HZ2.out.symm) rfl, AW.out⟩
  | some a =>
    have hle1 : (p : Int) ≤ (n : Int) := by omega
    have hle2 : (n : Int) ≤ (cc : Int) := by omega
    go_enter Tryz.func40, Tryz.ntmps40
    have WW := Lib.hid (show IntKind.i64.wrap ((p : Int) + (((numS (l.drop p)).2.1 : Nat) : Int)) = (p : Int) + (((numS (l.drop p)).2.1 : Nat) : Int) from IntWalk.i64_in _ (by omega))
    by_cases hpc : p = cc
    · subst hpc
      obtain rfl : n = p := by omega
      have H2 := Lib.hid (H.out.end_)
      go_wp2_with fail
      refine (cuint_any H2.out).mono ?_
      rintro e w1 ⟨rfl, hb⟩
      have c1 := (hb.cell (p := ⟨pb, 0, none⟩) hl).trans hc
      have f1 := (hb.frozen (p := ⟨pb, 0, none⟩) hl).trans hf
      have AW := Lib.hid (AtW.of (q := n + (numS (l.drop n)).2.1) (Int.natCast_add _ _).symm hb hl c1)
      have hw1 := WW.out
      clear hb
      by_cases hz : (numS (l.drop n)).2.2 = 0
      · have hz1 : ((numS (l.drop n)).2.2 != 0) = false := by rw [hz]; rfl
        go_wp2_with fail
        go_ret2
        exact ⟨ret_tup2 rfl (congrArg _ hz.symm), AW.out⟩
      · have hz1 : ((numS (l.drop n)).2.2 != 0) = true := bne_iff_ne.2 hz
        have HZ2 := Lib.hid (HZ.out hz)
        clear hz
        go_wp2_with fail
        go_ret2
        exact ⟨ret_tup2 (congrArg _ HZ2.out.symm) rfl, AW.out⟩
    · have hlt : (p : Int) < (cc : Int) := by omega
      have H2 := Lib.hid (H.out.from_ hp)
      go_wp2_with fail
      refine (cuint_any H2.out).mono ?_
      rintro e w1 ⟨rfl, hb⟩
      have c1 := (hb.cell (p := ⟨pb, 0, none⟩) hl).trans hc
      have f1 := (hb.frozen (p := ⟨pb, 0, none⟩) hl).trans hf
      have AW := Lib.hid (AtW.of (q := p + (numS (l.drop p)).2.1) (Int.natCast_add _ _).symm hb hl c1)
      have hw1 := WW.out
      clear hb
      by_cases hz : (numS (l.drop p)).2.2 = 0
      · have hz1 : ((numS (l.drop p)).2.2 != 0) = false := by rw [hz]; rfl
        go_wp2_with fail
        go_ret2
        exact ⟨ret_tup2 rfl (congrArg _ hz.symm), AW.out⟩
      · have hz1 : ((numS (l.drop p)).2.2 != 0) = true := bne_iff_ne.2 hz
        have HZ2 := Lib.hid (HZ.out hz)
        clear hz
        go_wp2_with fail
        go_ret2
        exact ⟨ret_tup2 (congrArg _ HZ2.out.symm) rfl, AW.out⟩
set_option maxRecDepth 100000 in
theorem field_int64_no (s f : Value) (pb : Nat) (w : World) :
    Calls Tryz.prog 41 #[s, .pointer (some ⟨pb, 0, none⟩), .bool false, f] w (RetB (.tuple #[.int .i64 0, .int .i64 0]) w) := by
  go_enter Tryz.func41, Tryz.ntmps41
  go_wp2_with fail
  go_ret2
  exact ⟨rfl, Below.refl _ _⟩
set_option maxRecDepth 100000 in
set_option maxHeartbeats 600000 in
theorem field_int64_is {w : World} {A : Option Addr} {n cc : Nat} {l : List UInt8} {pb p : Nat} (h : BS w A n cc l) (hc : w.cell? ⟨pb, 0, none⟩ = some (.int .i64 p)) (hf : w.frozen? ⟨pb, 0, none⟩ = false) (hl : pb < w.heap.size) (hp : p ≤ n) :
    Calls Tryz.prog 41 #[.slice A n cc, .pointer (some ⟨pb, 0, none⟩), .bool true, .func (.func 42) #[] #[]] w
      (fun e w' => e = .returned (.tuple #[.int .i64 (zagI (numS (l.drop p)).1), .int .i64 (numS (l.drop p)).2.2]) ∧ AtW pb (p + (numS (l.drop p)).2.1) w w') := by
  have hcap := h.cap
  have hcapb := h.capb
  have hsm := h.small
  have hlen := Lib.hid h.len
  have HN := Lib.hid h.nil
  have H := Lib.hid h
  have HP := Lib.hid (@num_pos (l.drop p))
  have hpos : (numS (l.drop p)).2.1 ≤ n - p := by have := HP.out; rw [List.length_drop, hlen.out] at this; exact this
  have HZ := Lib.hid (@zag_zero (l.drop p))
  clear h HP
  cases A with
  | none =>
    obtain rfl := HN.out rfl
    obtain rfl : n = 0 := by omega
    obtain rfl : p = 0 := by omega
    simp only [List.drop_zero, Nat.zero_add] at *
    go_enter Tryz.func41, Tryz.ntmps41
    go_wp2_with fail
    refine (cint_any H.out).mono ?_
    rintro e w1 ⟨rfl, hb⟩
    have c1 := (hb.cell (p := ⟨pb, 0, none⟩) hl).trans hc
    have f1 := (hb.frozen (p := ⟨pb, 0, none⟩) hl).trans hf
    have AW := Lib.hid (AtW.of (q := (numS l).2.1) rfl hb hl c1)
    clear hb
    by_cases hz : (numS l).2.2 = 0
    · have hz1 : ((numS l).2.2 != 0) = false := by rw [hz]; rfl
      go_wp2_with fail
      go_ret2
      exact ⟨ret_tup2 rfl (congrArg _ hz.symm), AW.out⟩
    · have hz1 : ((numS l).2.2 != 0) = true := bne_iff_ne.2 hz
      have HZ2 := Lib.hid (HZ.out hz)
      clear hz
      go_wp2_with fail
      go_ret2
      exact ⟨ret_tup2 (congrArg _ HZ2.out.symm) rfl, AW.out⟩
  | some a =>
    have hle1 : (p : Int) ≤ (n : Int) := by omega
    have hle2 : (n : Int) ≤ (cc : Int) := by omega
    go_enter Tryz.func41, Tryz.ntmps41
    have WW := Lib.hid (show IntKind.i64.wrap ((p : Int) + (((numS (l.drop p)).2.1 : Nat) : Int)) = (p : Int) + (((numS (l.drop p)).2.1 : Nat) : Int) from IntWalk.i64_in _ (by omega))
    by_cases hpc : p = cc
    · subst hpc
      obtain rfl : n = p := by omega
      have H2 := Lib.hid (H.out.end_)
      go_wp2_with fail
      refine (cint_any H2.out).mono ?_
      rintro e w1 ⟨rfl, hb⟩
      have c1 := (hb.cell (p := ⟨pb, 0, none⟩) hl).trans hc
      have f1 := (hb.frozen (p := ⟨pb, 0, none⟩) hl).trans hf
      have AW := Lib.hid (AtW.of (q := n + (numS (l.drop n)).2.1) (Int.natCast_add _ _).symm hb hl c1)
      have hw1 := WW.out
      clear hb
      by_cases hz : (numS (l.drop n)).2.2 = 0
      · have hz1 : ((numS (l.drop n)).2.2 != 0) = false := by rw [hz]; rfl
        go_wp2_with fail
        go_ret2
        exact ⟨ret_tup2 rfl (congrArg _ hz.symm), AW.out⟩
      · have hz1 : ((numS (l.drop n)).2.2 != 0) = true := bne_iff_ne.2 hz
        have HZ2 := Lib.hid (HZ.out hz)
        clear hz
        go_wp2_with fail
        go_ret2
        exact ⟨ret_tup2 (congrArg _ HZ2.out.symm) rfl, AW.out⟩
    · have hlt : (p : Int) < (cc : Int) := by omega
      have H2 := Lib.hid (H.out.from_ hp)
      go_wp2_with fail
      refine (cint_any H2.out).mono ?_
      rintro e w1 ⟨rfl, hb⟩
      have c1 := (hb.cell (p := ⟨pb, 0, none⟩) hl).trans hc
      have f1 := (hb.frozen (p := ⟨pb, 0, none⟩) hl).trans hf
      have AW := Lib.hid (AtW.of (q := p + (numS (l.drop p)).2.1) (Int.natCast_add _ _).symm hb hl c1)
      have hw1 := WW.out
      clear hb
      by_cases hz : (numS (l.drop p)).2.2 = 0
      · have hz1 : ((numS (l.drop p)).2.2 != 0) = false := by rw [hz]; rfl
        go_wp2_with fail
        go_ret2
        exact ⟨ret_tup2 rfl (congrArg _ hz.symm), AW.out⟩
      · have hz1 : ((numS (l.drop p)).2.2 != 0) = true := bne_iff_ne.2 hz
        have HZ2 := Lib.hid (HZ.out hz)
        clear hz
        go_wp2_with fail
        go_ret2
        exact ⟨ret_tup2 (congrArg _ HZ2.out.symm) rfl, AW.out⟩
set_option maxRecDepth 100000 in
theorem field_string_no (s f : Value) (pb : Nat) (w : World) :
    Calls Tryz.prog 43 #[s, .pointer (some ⟨pb, 0, none⟩), .bool false, f] w (RetB (.tuple #[.string ⟨#[]⟩, .int .i64 0]) w) := by
  go_enter Tryz.func43, Tryz.ntmps43
  go_wp2_with fail
  go_ret2
  exact ⟨rfl, Below.refl _ _⟩
set_option maxRecDepth 100000 in
set_option maxHeartbeats 600000 in
theorem field_string_is {w : World} {A : Option Addr} {n cc : Nat} {l : List UInt8} {pb p : Nat} (h : BS w A n cc l) (hc : w.cell? ⟨pb, 0, none⟩ = some (.int .i64 p)) (hf : w.frozen? ⟨pb, 0, none⟩ = false) (hl : pb < w.heap.size) (hp : p ≤ n) :
    Calls Tryz.prog 43 #[.slice A n cc, .pointer (some ⟨pb, 0, none⟩), .bool true, .func (.func 44) #[] #[]] w
      (fun e w' => e = .returned (.tuple #[.string (strB (textS (l.drop p)).1), .int .i64 (textS (l.drop p)).2.2]) ∧ AtW pb (p + (textS (l.drop p)).2.1) w w') := by
  have hcap := h.cap
  have hcapb := h.capb
  have hsm := h.small
  have hlen := Lib.hid h.len
  have HN := Lib.hid h.nil
  have H := Lib.hid h
  have HP := Lib.hid (@text_pos (l.drop p))
  have hpos : (textS (l.drop p)).2.1 ≤ n - p := by have := HP.out; rw [List.length_drop, hlen.out] at this; exact this
  have HZ := Lib.hid (@text_zero (l.drop p))
  clear h HP
  cases A with
  | none =>
    obtain rfl := HN.out rfl
    obtain rfl : n = 0 := by omega
    obtain rfl : p = 0 := by omega
    simp only [List.drop_zero, Nat.zero_add] at *
    go_enter Tryz.func43, Tryz.ntmps43
    go_wp2_with fail
    refine (ctext_any H.out).mono ?_
    rintro e w1 ⟨rfl, hb⟩
    have c1 := (hb.cell (p := ⟨pb, 0, none⟩) hl).trans hc
    have f1 := (hb.frozen (p := ⟨pb, 0, none⟩) hl).trans hf
    have AW := Lib.hid (AtW.of (q := (textS l).2.1) rfl hb hl c1)
    clear hb
    by_cases hz : (textS l).2.2 = 0
    · have hz1 : ((textS l).2.2 != 0) = false := by rw [hz]; rfl
      go_wp2_with fail
      go_ret2
      exact ⟨ret_tup2 rfl (congrArg _ hz.symm), AW.out⟩
    · have hz1 : ((textS l).2.2 != 0) = true := bne_iff_ne.2 hz
      have HZ2 := Lib.hid (HZ.out hz)
      clear hz
      go_wp2_with fail
      go_ret2
      exact ⟨ret_tup2 (congrArg _ HZ2.out.symm) rfl, AW.out⟩
  | some a =>
    have hle1 : (p : Int) ≤ (n : Int) := by omega
    have hle2 : (n : Int) ≤ (cc : Int) := by omega
    go_enter Tryz.func43, Tryz.ntmps43
    have WW := Lib.hid (show IntKind.i64.wrap ((p : Int) + (((textS (l.drop p)).2.1 : Nat) : Int)) = (p : Int) + (((textS (l.drop p)).2.1 : Nat) : Int) from IntWalk.i64_in _ (by omega))
    by_cases hpc : p = cc
    · subst hpc
      obtain rfl : n = p := by omega
      have H2 := Lib.hid (H.out.end_)
      go_wp2_with fail
      refine (ctext_any H2.out).mono ?_
      rintro e w1 ⟨rfl, hb⟩
      have c1 := (hb.cell (p := ⟨pb, 0, none⟩) hl).trans hc
      have f1 := (hb.frozen (p := ⟨pb, 0, none⟩) hl).trans hf
      have AW := Lib.hid (AtW.of (q := n + (textS (l.drop n)).2.1) (Int.natCast_add _ _).symm hb hl c1)
      have hw1 := WW.out
      clear hb
      by_cases hz : (textS (l.drop n)).2.2 = 0
      · have hz1 : ((textS (l.drop n)).2.2 != 0) = false := by rw [hz]; rfl
        go_wp2_with fail
        go_ret2
        exact ⟨ret_tup2 rfl (congrArg _ hz.symm), AW.out⟩
      · have hz1 : ((textS (l.drop n)).2.2 != 0) = true := bne_iff_ne.2 hz
        have HZ2 := Lib.hid (HZ.out hz)
        clear hz
        go_wp2_with fail
        go_ret2
        exact ⟨ret_tup2 (congrArg _ HZ2.out.symm) rfl, AW.out⟩
    · have hlt : (p : Int) < (cc : Int) := by omega
      have H2 := Lib.hid (H.out.from_ hp)
      go_wp2_with fail
      refine (ctext_any H2.out).mono ?_
      rintro e w1 ⟨rfl, hb⟩
      have c1 := (hb.cell (p := ⟨pb, 0, none⟩) hl).trans hc
      have f1 := (hb.frozen (p := ⟨pb, 0, none⟩) hl).trans hf
      have AW := Lib.hid (AtW.of (q := p + (textS (l.drop p)).2.1) (Int.natCast_add _ _).symm hb hl c1)
      have hw1 := WW.out
      clear hb
      by_cases hz : (textS (l.drop p)).2.2 = 0
      · have hz1 : ((textS (l.drop p)).2.2 != 0) = false := by rw [hz]; rfl
        go_wp2_with fail
        go_ret2
        exact ⟨ret_tup2 rfl (congrArg _ hz.symm), AW.out⟩
      · have hz1 : ((textS (l.drop p)).2.2 != 0) = true := bne_iff_ne.2 hz
        have HZ2 := Lib.hid (HZ.out hz)
        clear hz
        go_wp2_with fail
        go_ret2
        exact ⟨ret_tup2 (congrArg _ HZ2.out.symm) rfl, AW.out⟩
end Go.Proofs.YtefijgdbnjmifaaGreatDoor

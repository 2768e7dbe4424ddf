/- InstrKnown, walked: the words of all instructions, the chapter's examples and limits. -/
import Derived.Test.YtefijgdbnjmifaaDoorUnlH
import Derived.Test.YtefijgdbnjmifaaDoorCircA
import Derived.Test.YtefijgdbnjmifaaDoorBytE
import Derived.Test.YtefijgdbnjmifaaDoorKnwA
namespace Go.Proofs.YtefijgdbnjmifaaDoor
open Go.RowKit

theorem krow_agg (op : Nat) (h : op < 256) (w : World) : Calls Tryd.prog 13 #[.int .u8 (op : Int)] w (RetB (.agg #[.string (wordK op), .int .i64 (aK op), .bool (numK op), .bool (decide (textK op = 1)), .bool (decide (textK op = 2)), .int .i64 (takesK op), .int .i64 (leaveK op)]) w) := row_any op h w
theorem word_any (op : Nat) (h : op < 256) (w : World) : Calls Tryd.prog 12 #[.int .u8 (op : Int)] w (RetB (.string (wordK op)) w) := by
  have HK := Lib.hid (bkind_agg op h)
  have hfl : ∀ w, (Instr.field 46 (.agg #[.string (wordK op), .int .u8 (aB op), .bool (numK op), .int .u8 (tB op), .int .i64 (takesK op), .int .i64 (leaveK op), .bool (manyK op), .bool (endsK op)]) 0).run Tryd.prog w = .ok (.string (wordK op)) w := fun _ => by kernel_rfl
  go_enter Tryd.func12, Tryd.ntmps12
  go_wp2_with fail
  refine (HK.out _).mono ?_
  rintro e w1 ⟨rfl, h1⟩
  have H1 := Lib.hid h1
  clear h1
  go_wp2_with fail
  go_ret
  exact ⟨rfl, H1.out⟩
/-- What Check tells: what is wrong, and where. -/
def CkPost (wrong er : Int) (w : World) (e : Ending) (w' : World) : Prop := ∃ a b : Int, e = .returned (.tuple #[.int .i64 a, .int .i64 b, .int .i64 wrong, .int .i64 er]) ∧ Below w.heap.size w w'
theorem look_is {w : World} {A : Option Addr} {n cc : Nat} {cs : List InsV} {p wrong er : Int} (hcode : CodeIn w A cs) (hl : cs.length = n) (hok : OkC cs) (hn : n ≤ 9223372036854775807)
    (h1 : (lookS (insL cs) p).wrong = wrong) (h2 : (lookS (insL cs) p).e = er) : Calls Tryd.prog 14 #[.slice A n cc, .int .i64 p] w (CkPost wrong er w) := by
  refine (check_any hcode hl hok hn p).mono ?_
  rintro e w' ⟨rfl, hb⟩
  exact ⟨_, _, by rw [h1, h2], hb⟩
theorem ins_ends (n : Nat) : insL (List.replicate n endV) = List.replicate n endI := by
  unfold insL; rw [List.map_replicate]; rfl
theorem ok_ends (n : Nat) : OkC (List.replicate n endV) := fun k hk => by
  have hk' : k < n := by simpa using hk
  have e : atV (List.replicate n endV) k = endV := by unfold atV; rw [List.getD_eq_getElem?_getD, List.getElem?_eq_getElem (by simpa using hk')]; simp
  rw [e]; exact ⟨by decide, by decide⟩
/-- The cells of a row whose first k instructions are ends. -/
def cellA (k j : Nat) : Value := if j % 4 = 0 then .int .u8 (if j / 4 < k then 28 else 0) else if j % 4 = 3 then .string ⟨#[]⟩ else .int .i64 0
/-- A row of so many nothings. -/
def manyA : Array Value := madeCells #[.int .u8 0, .int .i64 0, .int .i64 0, .string ⟨#[]⟩] 32772
theorem many_at (j : Nat) (hj : j < 32772) : manyA[j]? = some (cellA 0 j) := by
  unfold manyA madeCells
  have h4 : j % 4 = 0 ∨ j % 4 = 1 ∨ j % 4 = 2 ∨ j % 4 = 3 := by omega
  rcases h4 with h | h | h | h <;> simp [hj, cellA, h]
structure Ends (w : World) (b k : Nat) : Prop where
  cells : ∀ j, j < 32772 → w.cell? ⟨b, j, none⟩ = some (cellA k j)
  fz : ∀ j, w.frozen? ⟨b, j, none⟩ = false
theorem Ends.code {w : World} {b k n : Nat} (h : Ends w b k) (hn : n ≤ k) (hk : n ≤ 8193) : CodeIn w (some ⟨b, 0, none⟩) (List.replicate n endV) := fun hp => by
  have hp' : 0 < n := by simpa using hp
  refine ⟨b, 0, rfl, World.block_lt_of_cell? w _ (h.cells 0 (by omega)), fun i hi => ?_⟩
  have hi' : i < n := by simpa using hi
  have e : atV (List.replicate n endV) i = endV := by unfold atV; rw [List.getD_eq_getElem?_getD, List.getElem?_eq_getElem (by simpa using hi')]; simp
  rw [e]
  have g := fun d (hd : d < 4) => h.cells (0 + i * 4 + d) (by omega)
  have g0 := g 0 (by omega)
  have g1 := g 1 (by omega)
  have g2 := g 2 (by omega)
  have g3 := g 3 (by omega)
  refine ⟨g0.trans ?_, g1.trans ?_, g2.trans ?_, g3.trans ?_⟩
  · unfold cellA; rw [if_pos (by omega), if_pos (by omega)]; rfl
  · unfold cellA; rw [if_neg (by omega), if_neg (by omega)]; rfl
  · unfold cellA; rw [if_neg (by omega), if_neg (by omega)]; rfl
  · unfold cellA; rw [if_neg (by omega), if_pos (by omega)]; rfl
theorem Ends.keep {w w' : World} {b k : Nat} (h : Ends w b k) (hb : Below w.heap.size w w') : Ends w' b k :=
  ⟨fun j hj => (hb.cell (p := ⟨b, j, none⟩) (World.block_lt_of_cell? w ⟨b, 0, none⟩ (h.cells 0 (by omega)))).trans (h.cells j hj), fun j => (hb.frozen (p := ⟨b, j, none⟩) (World.block_lt_of_cell? w ⟨b, 0, none⟩ (h.cells 0 (by omega)))).trans (h.fz j)⟩
theorem Ends.start (w : World) (t : TypeId) : Ends (w.alloc (.cells manyA t)) w.heap.size 0 := ⟨fun j hj => by rw [World.cell?_alloc_new]; exact many_at j hj, fun j => by simp⟩
theorem cellA_op {k j : Nat} (h : j ≠ k * 4) : cellA (k + 1) j = cellA k j := by
  unfold cellA
  by_cases h4 : j % 4 = 0
  · rw [if_pos h4, if_pos h4]
    congr 1
    by_cases a : j / 4 < k
    · rw [if_pos a, if_pos (by omega)]
    · rw [if_neg a, if_neg (by omega)]
  · rw [if_neg h4, if_neg h4]
theorem Ends.at {w : World} {b k : Nat} (h : Ends w b k) (hk : k < 8193) : w.cell? ⟨b, k * 4, none⟩ = some (.int .u8 0) ∧ w.cell? ⟨b, k * 4 + 1, none⟩ = some (.int .i64 0) ∧ w.cell? ⟨b, k * 4 + 2, none⟩ = some (.int .i64 0) ∧ w.cell? ⟨b, k * 4 + 3, none⟩ = some (.string ⟨#[]⟩) := by
  refine ⟨(h.cells _ (by omega)).trans ?_, (h.cells _ (by omega)).trans ?_, (h.cells _ (by omega)).trans ?_, (h.cells _ (by omega)).trans ?_⟩
  · unfold cellA; rw [if_pos (by omega), if_neg (by omega)]
  · unfold cellA; rw [if_neg (by omega), if_neg (by omega)]
  · unfold cellA; rw [if_neg (by omega), if_neg (by omega)]
  · unfold cellA; rw [if_neg (by omega), if_pos (by omega)]
theorem cell_same_or (w : World) (b j i : Nat) (u v : Value) (hj : w.cell? ⟨b, j, none⟩ = some u) (hi : w.cell? ⟨b, i, none⟩ = some v) : (w.setCell ⟨b, j, none⟩ u).cell? ⟨b, i, none⟩ = some v := by
  by_cases e : i = j
  · subst e; rw [World.cell?_setCell_same _ _ _ hj]; rw [hj] at hi; exact hi
  · rw [World.cell?_setCell_other _ _ _ _ (by intro c; injection c with _ c2 _; exact e c2.symm)]; exact hi
theorem ok_kC : OkC kC := fun k hk => by
  have hk' : k < 4 := hk
  match k, hk' with
  | 0, _ => exact ⟨by decide, by decide⟩
  | 1, _ => exact ⟨by decide, by decide⟩
  | 2, _ => exact ⟨by decide, by decide⟩
  | 3, _ => exact ⟨by decide, by decide⟩
def kCells : Array Value := #[.int .u8 21, .int .i64 0, .int .i64 0, .string ⟨#[]⟩, .int .u8 2, .int .i64 3, .int .i64 0, .string ⟨#[]⟩, .int .u8 21, .int .i64 0, .int .i64 0, .string ⟨#[]⟩, .int .u8 28, .int .i64 0, .int .i64 0, .string ⟨#[]⟩]
theorem code_kC (w : World) (t : TypeId) : CodeIn (w.alloc (.cells kCells t)) (some ⟨w.heap.size, 0, none⟩) kC := fun _ => by
  refine ⟨w.heap.size, 0, rfl, by simp, fun k hk => ?_⟩
  have hk' : k < 4 := hk
  simp only [World.cell?_alloc_new]
  match k, hk' with
  | 0, _ => exact ⟨rfl, rfl, rfl, rfl⟩
  | 1, _ => exact ⟨rfl, rfl, rfl, rfl⟩
  | 2, _ => exact ⟨rfl, rfl, rfl, rfl⟩
  | 3, _ => exact ⟨rfl, rfl, rfl, rfl⟩
/-- What the two texts tell. -/
def tU : ByteArray := ⟨#[48, 32, 116, 101, 120, 116, 32, 34, 97, 92, 120, 48, 97, 34, 10, 49, 32, 99, 97, 108, 108, 32, 50, 32, 112, 97, 121, 10]⟩
def tJ : ByteArray := ⟨#[48, 32, 106, 117, 109, 112, 32, 55, 10]⟩
def KuPost (w : World) (e : Ending) (w' : World) : Prop := ∃ (b o cc : Nat), e = .returned (.tuple #[.slice (some ⟨b, o, none⟩) 2 cc, .int .i64 0, .int .i64 0]) ∧ w'.cell? ⟨b, o + 3, none⟩ = some (.string ⟨#[97, 10]⟩) ∧
  (w'.cell? ⟨b, o + 4, none⟩ = some (.int .u8 50) ∧ w'.cell? ⟨b, o + 5, none⟩ = some (.int .i64 2) ∧ w'.cell? ⟨b, o + 6, none⟩ = some (.int .i64 0) ∧ w'.cell? ⟨b, o + 7, none⟩ = some (.string ⟨#[112, 97, 121]⟩)) ∧ b < w'.heap.size ∧ Below w.heap.size w w'
theorem ku_any (w : World) (hp : Pow10 w) (hv : SynVar w) (hr : RangeVar w) (hm : MaxVar w) : Calls Tryd.prog 15 #[.string tU] w (KuPost w) := by
  refine (unlist_any tU (by decide) w hp hv hr hm).mono ?_
  rintro e w' ⟨A, cc, rfl, hc, hb⟩
  have hu : unlS tU.data.toList = (kU, 0, 0) := kU_unl
  rw [hu] at hc
  obtain ⟨b, o, rfl, hlt, hk⟩ := hc (by decide)
  have k0 := (hk 0 (by decide)).2.2.2
  obtain ⟨k1, k2, k3, k4⟩ := hk 1 (by decide)
  refine ⟨b, o, cc, by rw [hu]; rfl, ?_, ⟨?_, ?_, ?_, ?_⟩, hlt, hb⟩
  · exact k0
  · exact k1
  · exact k2
  · exact k3
  · exact k4
def KjPost (w : World) (e : Ending) (w' : World) : Prop := ∃ (v x : Value), e = .returned (.tuple #[v, x, .int .i64 9]) ∧ Below w.heap.size w w'
theorem kj_any (w : World) (hp : Pow10 w) (hv : SynVar w) (hr : RangeVar w) (hm : MaxVar w) : Calls Tryd.prog 15 #[.string tJ] w (KjPost w) := by
  refine (unlist_any tJ (by decide) w hp hv hr hm).mono ?_
  rintro e w' ⟨A, cc, rfl, hc, hb⟩
  have hu : unlS tJ.data.toList = ([], 0, 9) := kJ_unl
  exact ⟨_, _, by rw [hu], hb⟩
/-- One more. -/
theorem Ends.more {w : World} {b k : Nat} (h : Ends w b k) (hk : k < 8193) :
    Ends ((((w.setCell ⟨b, k * 4, none⟩ (.int .u8 28)).setCell ⟨b, k * 4 + 1, none⟩ (.int .i64 0)).setCell ⟨b, k * 4 + 2, none⟩ (.int .i64 0)).setCell ⟨b, k * 4 + 3, none⟩ (.string ⟨#[]⟩)) b (k + 1) := by
  obtain ⟨c0, c1, c2, c3⟩ := h.at hk
  have e0 : ∀ j, j < 32772 → (w.setCell ⟨b, k * 4, none⟩ (.int .u8 28)).cell? ⟨b, j, none⟩ = some (cellA (k + 1) j) := fun j hj => by
    by_cases e : j = k * 4
    · subst e
      rw [World.cell?_setCell_same _ _ _ c0]
      unfold cellA; rw [if_pos (by omega), if_pos (by omega)]
    · rw [World.cell?_setCell_other _ _ _ _ (by intro c; injection c with _ c2 _; exact e c2.symm), h.cells j hj, cellA_op e]
  have d1 := e0 (k * 4 + 1) (by omega)
  have d2 := e0 (k * 4 + 2) (by omega)
  have d3 := e0 (k * 4 + 3) (by omega)
  have v1 : cellA (k + 1) (k * 4 + 1) = .int .i64 0 := by unfold cellA; rw [if_neg (by omega), if_neg (by omega)]
  have v2 : cellA (k + 1) (k * 4 + 2) = .int .i64 0 := by unfold cellA; rw [if_neg (by omega), if_neg (by omega)]
  have v3 : cellA (k + 1) (k * 4 + 3) = .string ⟨#[]⟩ := by unfold cellA; rw [if_neg (by omega), if_pos (by omega)]
  rw [v1] at d1
  rw [v2] at d2
  rw [v3] at d3
  refine ⟨fun j hj => ?_, fun j => by simp only [World.frozen?_setCell]; exact h.fz j⟩
  have x1 := fun i v hv => cell_same_or _ b (k * 4 + 1) i _ v d1 hv
  have x2 := fun i v hv => cell_same_or _ b (k * 4 + 2) i _ v (x1 _ _ d2) hv
  have x3 := fun i v hv => cell_same_or _ b (k * 4 + 3) i _ v (x2 _ _ (x1 _ _ d3)) hv
  exact x3 _ _ (x2 _ _ (x1 _ _ (e0 j hj)))
theorem many_make (w : World) : (Instr.makeSlice 22 (.int .i64 8193) (.int .i64 8193)).run Tryd.prog w = .ok (.slice (some ⟨w.heap.size, 0, none⟩) 8193 8193) (w.alloc (.cells manyA 36)) := by
  obtain ⟨i, hi, hz, hs, hb⟩ := info_parts infoIU
  have hr := run_make (P := Tryd.prog) w 22 36 i _ Tryd.underlying22 hi hz .i64 .i64 8193 8193 (by decide) (by decide) (by rw [hb]; decide) (by decide)
  rw [hs] at hr
  exact hr
set_option maxRecDepth 100000 in
set_option maxHeartbeats 4000000 in
theorem known_law (w : World) (hp : Pow10 w) (hv : SynVar w) (hr : RangeVar w) (hm : MaxVar w) :
    Calls Tryd.prog 4 #[] w (RetB (.bool true) w) := by
  have HP := Lib.hid hp
  have HV := Lib.hid hv
  have HR := Lib.hid hr
  have HM := Lib.hid hm
  clear hp hv hr hm
  go_enter Tryd.func4, Tryd.ntmps4
  go_wp2_with fail
  go_loopw [1] (fun i wr => ∃ k : Nat, i = .int .i64 k ∧ k ≤ 256 ∧ Below w.heap.size w wr) (fun i _ => 256 - (intOf i).toNat)
  case atStart => exact ⟨0, rfl, by omega, Below.refl _ _⟩
  case round =>
    obtain ⟨k, rfl, hk, hw⟩ := hrel
    have HW := Lib.hid hw
    clear hw
    by_cases hlt : k < 256
    · have hw8 : IntKind.u8.wrap (k : Int) = (k : Int) := by rw [IntKind.wrap_u8]; omega
      go_wp2_with fail
      refine (word_any k hlt _).mono ?_
      rintro e w1 ⟨rfl, h1⟩
      have H1 := Lib.hid (bthen HW.out h1)
      clear h1
      go_wp2_with fail
      refine (krow_agg k hlt _).mono ?_
      rintro e w2 ⟨rfl, h2⟩
      have H2 := Lib.hid (bthen H1.out h2)
      clear h2
      have hww : ((wordK k).toList == (wordK k).toList) = true := beq_self_eq_true _
      have hfl : ∀ w, (Instr.field 33 (.agg #[.string (wordK k), .int .i64 (aK k), .bool (numK k), .bool (decide (textK k = 1)), .bool (decide (textK k = 2)), .int .i64 (takesK k), .int .i64 (leaveK k)]) 0).run Tryd.prog w = .ok (.string (wordK k)) w := fun _ => by kernel_rfl
      generalize wordK k = wk at *
      go_wp2_with fail
      go_roundw
      case rel => exact ⟨k + 1, by go_num, by omega, H2.out⟩
      case measure => simp [intOf]; omega
    · have hmk := many_make wr
      generalize hMA : manyA = mA at *
      go_wp2_with fail
      subst hMA
      have E0 := Lib.hid (Ends.start wr 36)
      have BW := Lib.hid (HW.out.alloc (HW.out.size) (.cells manyA 36))
      generalize wr.alloc (.cells manyA 36) = wa at *
      have HB0 := Lib.hid HW.out.size
      generalize wr.heap.size = b at *
      clear hmk
      go_loopw [3] (fun i wx => ∃ q : Nat, i = .int .i64 q ∧ q ≤ 8193 ∧ Hid (Ends wx b q) ∧ Below w.heap.size w wx) (fun i _ => 8193 - (intOf i).toNat)
      case atStart => exact ⟨0, rfl, by omega, E0, BW.out⟩
      case round =>
        obtain ⟨q, rfl, hq, he, hw⟩ := hrel
        have HW2 := Lib.hid hw
        clear hw
        by_cases hlq : q < 8193
        · have f0 := he.out.fz
          obtain ⟨c0, c1, c2, c3⟩ := he.out.at hlq
          go_wp2_with fail
          go_roundw
          case rel => exact ⟨q + 1, by go_num, by omega, Lib.hid (he.out.more hlq), (((HW2.out.setCell (p := ⟨b, q * 4, none⟩) HB0.out _).setCell (p := ⟨b, q * 4 + 1, none⟩) HB0.out _).setCell (p := ⟨b, q * 4 + 2, none⟩) HB0.out _).setCell (p := ⟨b, q * 4 + 3, none⟩) HB0.out _⟩
          case measure => simp [intOf]; omega
        · go_wp2_with fail
          refine (look_is (wrong := 0) (er := 0) (cs := List.replicate 8192 endV) (n := 8192) (he.out.code (n := 8192) (by omega) (by omega)) (by rw [List.length_replicate]) (ok_ends _) (by omega) (by rw [ins_ends]; exact (ends_look 8192 (by omega) (by omega) 100 (by omega) (by omega)).1) (by rw [ins_ends]; exact (ends_look 8192 (by omega) (by omega) 100 (by omega) (by omega)).2)).mono ?_
          rintro e w1 ⟨a1, b1, rfl, h1⟩
          have E1 := Lib.hid (he.out.keep h1)
          have H1 := Lib.hid (bthen HW2.out h1)
          clear h1
          go_wp2_with fail
          refine (look_is (wrong := 0) (er := 2) (cs := List.replicate 8193 endV) (n := 8193) (E1.out.code (n := 8193) (by omega) (by omega)) (by rw [List.length_replicate]) (ok_ends _) (by omega) (by rw [ins_ends]; exact (ends_long 8193 (by omega)).1) (by rw [ins_ends]; exact (ends_long 8193 (by omega)).2)).mono ?_
          rintro e w2 ⟨a2, b2, rfl, h2⟩
          have E2 := Lib.hid (E1.out.keep h2)
          have H2 := Lib.hid (bthen H1.out h2)
          clear h2
          go_wp2_with fail
          refine (look_is (wrong := 0) (er := 1) (cs := List.replicate 1 endV) (n := 1) (E2.out.code (n := 1) (by omega) (by omega)) (by rw [List.length_replicate]) (ok_ends _) (by omega) (ends_many _).1 (ends_many _).2).mono ?_
          rintro e w3 ⟨a3, b3, rfl, h3⟩
          have H3 := Lib.hid (bthen H2.out h3)
          clear h3
          go_wp2_with fail
          have EC := Lib.hid (code_kC w3 36)
          have HC := Lib.hid (H3.out.alloc H3.out.size (.cells kCells 36))
          refine (look_is (wrong := 2) (er := 140) (cs := kC) (n := 4) EC.out rfl ok_kC (by omega) kC_look.1 kC_look.2).mono ?_
          rintro e w4 ⟨a4, b4, rfl, h4⟩
          have H4 := Lib.hid (bthen HC.out h4)
          clear h4 EC HC
          go_wp2_with fail
          refine (look_is (wrong := 0) (er := 3) (cs := []) (n := 0) (fun h => absurd h (by simp)) rfl (fun k hk => absurd hk (by simp)) (by omega) (by decide +kernel) nil_look).mono ?_
          rintro e w5 ⟨a5, b5, rfl, h5⟩
          have H5 := Lib.hid (bthen H4.out h5)
          clear h5
          go_wp2_with fail
          refine (ku_any _ (HP.out.below H5.out) (HV.out.below H5.out) (HR.out.below H5.out) (HM.out.below H5.out)).mono ?_
          rintro e w6 ⟨ub, uo, uc, rfl, u3, hu4, ul, h6⟩
          have H6 := Lib.hid (bthen H5.out h6)
          clear h6
          go_wp2_with fail
          refine (kj_any _ (HP.out.below H6.out) (HV.out.below H6.out) (HR.out.below H6.out) (HM.out.below H6.out)).mono ?_
          rintro e w7 ⟨jv, jx, rfl, h7⟩
          have k3 := (h7.cell (p := ⟨ub, uo + 3, none⟩) ul).trans u3
          have k4 := (h7.cell (p := ⟨ub, uo + 4, none⟩) ul).trans hu4.1
          have k5 := (h7.cell (p := ⟨ub, uo + 5, none⟩) ul).trans hu4.2.1
          have k6 := (h7.cell (p := ⟨ub, uo + 6, none⟩) ul).trans hu4.2.2.1
          have k7 := (h7.cell (p := ⟨ub, uo + 7, none⟩) ul).trans hu4.2.2.2
          have ul7 := Lib.hid (Nat.lt_of_lt_of_le ul h7.size)
          have H7 := Lib.hid (bthen H6.out h7)
          clear h7 u3 hu4 ul
          have K3 := Lib.hid k3
          have K4 := Lib.hid k4
          have K5 := Lib.hid k5
          have K6 := Lib.hid k6
          have K7 := Lib.hid k7
          clear k3 k4 k5 k6 k7
          go_wp2_with fail
          refine (awake_any _).mono ?_
          rintro e w8 ⟨rfl, h8⟩
          have k3 := (h8.cell (p := ⟨ub, uo + 3, none⟩) ul7.out).trans K3.out
          have k4 := (h8.cell (p := ⟨ub, uo + 4, none⟩) ul7.out).trans K4.out
          have k5 := (h8.cell (p := ⟨ub, uo + 5, none⟩) ul7.out).trans K5.out
          have k6 := (h8.cell (p := ⟨ub, uo + 6, none⟩) ul7.out).trans K6.out
          have k7 := (h8.cell (p := ⟨ub, uo + 7, none⟩) ul7.out).trans K7.out
          have H8 := Lib.hid (bthen H7.out h8)
          clear h8
          go_wp2_with fail
          go_ret
          exact ⟨rfl, H8.out⟩
end Go.Proofs.YtefijgdbnjmifaaDoor

/- What stands ahead of what, walked. The heap in memory: what it holds; laying a thing at a place. Heaps in plain Lean. The heap: rising, walked. -/
import Derived.Test.YtjfdokoigkdciaaBase
import Derived.Deep.RegionHeld3
import Derived.Maps.OwnSet
import Derived.Deep.QuietTactic
import Derived.BigQuiet
import Derived.WalkSmall
namespace Go.Proofs.Ytjfdokoigkdciaa
open Go.RowKit

def cmpI (a b : Int) : Int := if a < b then -1 else if b < a then 1 else 0
def orI (a b : Int) : Int := if a = 0 then b else a
theorem cmpI_lt {a b : Int} (h : a < b) : cmpI a b = -1 := if_pos h
theorem cmpI_gt {a b : Int} (h : b < a) : cmpI a b = 1 := by unfold cmpI; rw [if_neg (by omega), if_pos h]
theorem cmpI_eq {a b : Int} (h : ¬ a < b) (h' : ¬ b < a) : cmpI a b = 0 := by unfold cmpI; rw [if_neg h, if_neg h']

theorem compare64 (a b : Int) (w : World) : Calls Try.prog 60 #[.int .i64 a, .int .i64 b] w (Ret (.int .i64 (cmpI a b)) w) := by
  go_enter Try.func60, Try.ntmps60
  go_wp2
  all_goals
    go_ret
    exact ⟨ret_int (by first | exact (cmpI_lt (by assumption)).symm | exact (cmpI_gt (by assumption)).symm | exact (cmpI_eq (by omega) (by omega)).symm), rfl⟩
theorem compareI (a b : Int) (w : World) : Calls Try.prog 61 #[.int .i64 a, .int .i64 b] w (Ret (.int .i64 (cmpI a b)) w) := by
  go_enter Try.func61, Try.ntmps61
  go_wp2
  all_goals
    go_ret
    exact ⟨ret_int (by first | exact (cmpI_lt (by assumption)).symm | exact (cmpI_gt (by assumption)).symm | exact (cmpI_eq (by omega) (by omega)).symm), rfl⟩
theorem or_first (b off : Nat) (x y : Int) (w : World) (h0 : w.cell? ⟨b, off, none⟩ = some (.int .i64 x)) (hx : (x != 0) = true) : Calls Try.prog 59 #[.slice (some ⟨b, off, none⟩) 2 2] w (Ret (.int .i64 (orI x y)) w) := by
  have E := Lib.hid (show x = orI x y from (if_neg (by simpa using hx)).symm)
  go_enter Try.func59, Try.ntmps59
  go_wp2
  refine wp_loop_rounds 3 ?_
  rw [rounds_succ]
  go_wp2
  go_ret
  exact ⟨ret_int E.out, rfl⟩
theorem or_second (b off : Nat) (x y : Int) (w : World) (h0 : w.cell? ⟨b, off, none⟩ = some (.int .i64 x)) (h1 : w.cell? ⟨b, off + 1, none⟩ = some (.int .i64 y)) (hx : (x != 0) = false) (hy : (y != 0) = true) : Calls Try.prog 59 #[.slice (some ⟨b, off, none⟩) 2 2] w (Ret (.int .i64 (orI x y)) w) := by
  have E := Lib.hid (show y = orI x y from (if_pos (by simpa using hx)).symm)
  go_enter Try.func59, Try.ntmps59
  go_wp2
  refine wp_loop_rounds 3 ?_
  rw [rounds_succ]
  go_wp2
  rw [rounds_succ]
  go_wp2
  go_ret
  exact ⟨ret_int E.out, rfl⟩
theorem or_none (b off : Nat) (x y : Int) (w : World) (h0 : w.cell? ⟨b, off, none⟩ = some (.int .i64 x)) (h1 : w.cell? ⟨b, off + 1, none⟩ = some (.int .i64 y)) (hx : (x != 0) = false) (hy : (y != 0) = false) : Calls Try.prog 59 #[.slice (some ⟨b, off, none⟩) 2 2] w (Ret (.int .i64 (orI x y)) w) := by
  have E := Lib.hid (show 0 = orI x y from by unfold orI; rw [if_pos (by simpa using hx)]; exact (by simpa using hy : y = 0).symm)
  go_enter Try.func59, Try.ntmps59
  go_wp2
  refine wp_loop_rounds 3 ?_
  rw [rounds_succ]
  go_wp2
  rw [rounds_succ]
  go_wp2
  rw [rounds_succ]
  go_wp2
  go_ret
  exact ⟨ret_int E.out, rfl⟩
theorem or_two (b off : Nat) (x y : Int) (w : World) (h0 : w.cell? ⟨b, off, none⟩ = some (.int .i64 x)) (h1 : w.cell? ⟨b, off + 1, none⟩ = some (.int .i64 y)) : Calls Try.prog 59 #[.slice (some ⟨b, off, none⟩) 2 2] w (Ret (.int .i64 (orI x y)) w) := by
  cases hx : (x != 0) with
  | true => exact or_first b off x y w h0 hx
  | false =>
    cases hy : (y != 0) with
    | true => exact or_second b off x y w h0 h1 hx hy
    | false => exact or_none b off x y w h0 h1 hx hy
/-- A thing: its key, its number, its value. -/
structure Thing where
  key : Int
  num : Int
  v : Int
def Thing.val (t : Thing) : Value := .agg #[.int .i64 t.key, .int .i64 t.num, .int .i64 t.v]
def Thing.cells (t : Thing) : List Value := [.int .i64 t.key, .int .i64 t.num, .int .i64 t.v]
def aheadI (a b : Thing) : Int := orI (cmpI a.key b.key) (cmpI a.num b.num)
theorem ahead_any (a b : Thing) (w : World) : Calls Try.prog 58 #[a.val, b.val] w (RetB (.int .i64 (aheadI a b)) w) := by
  obtain ⟨ak, an, av⟩ := a
  obtain ⟨bk, bn, bv⟩ := b
  simp only [Thing.val]
  go_enter Try.func58, Try.ntmps58
  go_wp2_with fail
  go_region_held3 (fun w' => w'.cell? ⟨w.heap.size, 0, none⟩ = some (.int .i64 ak) ∧ w'.cell? ⟨w.heap.size, 1, none⟩ = some (.int .i64 an) ∧ w'.cell? ⟨w.heap.size + 1, 0, none⟩ = some (.int .i64 bk) ∧ w'.cell? ⟨w.heap.size + 1, 1, none⟩ = some (.int .i64 bn))
    (go_keep) (first | (go_at_call 60; refine (compare64 _ _ _).mono ?_; rintro e w2 ⟨rfl, rfl⟩) | (go_at_call 61; refine (compareI _ _ _).mono ?_; rintro e w2 ⟨rfl, rfl⟩) | (go_at_call 59; refine (or_two _ _ (cmpI ak bk) (cmpI an bn) _ (by simp [go_sem]) (by simp [go_sem])).mono ?_; rintro e w2 ⟨rfl, rfl⟩))
  go_wp2_with fail
  go_ret
  exact ⟨rfl, by go_grown⟩
end Go.Proofs.Ytjfdokoigkdciaa
namespace Go.Proofs.Ytjfdokoigkdciaa
open Go.RowKit Go.Maps

def cellsL (L : List Thing) : List Value := L.flatMap Thing.cells
theorem cellsL_length (L : List Thing) : (cellsL L).length = L.length * 3 := by
  induction L with
  | nil => rfl
  | cons a L ih => simp only [cellsL, List.flatMap_cons, List.length_append, List.length_cons] at ih ⊢; rw [show (List.flatMap Thing.cells L).length = L.length * 3 from ih]; simp [Thing.cells]; omega
theorem cellsL_cons (a : Thing) (L : List Thing) : cellsL (a :: L) = .int .i64 a.key :: .int .i64 a.num :: .int .i64 a.v :: cellsL L := rfl
theorem cellsL_append (L M : List Thing) : cellsL (L ++ M) = cellsL L ++ cellsL M := by simp [cellsL]
theorem cellsL_get (L : List Thing) (i : Nat) (h : i < L.length) : (cellsL L)[i * 3]? = some (.int .i64 L[i].key) ∧ (cellsL L)[i * 3 + 1]? = some (.int .i64 L[i].num) ∧ (cellsL L)[i * 3 + 2]? = some (.int .i64 L[i].v) := by
  induction L generalizing i with
  | nil => simp at h
  | cons a L ih =>
    rw [cellsL_cons]
    cases i with
    | zero => simp
    | succ i =>
      have := ih i (by simpa using h)
      rw [show (i + 1) * 3 = i * 3 + 3 from by omega, show i * 3 + 3 + 1 = (i * 3 + 1) + 3 from by omega, show i * 3 + 3 + 2 = (i * 3 + 2) + 3 from by omega]
      simpa using this
theorem cellsL_set (L : List Thing) (i : Nat) (x : Thing) : (((cellsL L).set (i * 3) (.int .i64 x.key)).set (i * 3 + 1) (.int .i64 x.num)).set (i * 3 + 2) (.int .i64 x.v) = if i < L.length then cellsL (L.set i x) else cellsL L := by
  induction L generalizing i with
  | nil => simp [cellsL]
  | cons a L ih =>
    rw [cellsL_cons]
    cases i with
    | zero => simp [cellsL_cons]
    | succ i =>
      have := ih i
      rw [show (i + 1) * 3 = i * 3 + 3 from by omega, show i * 3 + 3 + 1 = (i * 3 + 1) + 3 from by omega, show i * 3 + 3 + 2 = (i * 3 + 2) + 3 from by omega]
      simp only [List.set_cons_succ, this, List.length_cons, Nat.add_lt_add_iff_right]
      split <;> simp [cellsL_cons]

/-- What a heap op may turn: these blocks alone. -/
def Turn (w w' : World) (p : Nat → Prop) : Prop := w'.os = w.os ∧ w'.tape = w.tape ∧ w'.output = w.output ∧ w.heap.size ≤ w'.heap.size ∧ ∀ k, k < w.heap.size → ¬ p k → w'.heap[k]? = w.heap[k]?
theorem Turn.refl (w : World) (p : Nat → Prop) : Turn w w p := ⟨rfl, rfl, rfl, Nat.le_refl _, fun _ _ _ => rfl⟩
theorem Turn.size {w w' : World} {p} (h : Turn w w' p) : w.heap.size ≤ w'.heap.size := h.2.2.2.1
theorem Turn.block {w w' : World} {p} (h : Turn w w' p) {k : Nat} (hk : k < w.heap.size) (hp : ¬ p k) : w'.heap[k]? = w.heap[k]? := h.2.2.2.2 k hk hp
theorem Turn.then {a b c : World} {p q : Nat → Prop} (h : Turn a b p) (k : Turn b c q) (hq : ∀ j, j < a.heap.size → q j → p j) : Turn a c p :=
  ⟨k.1.trans h.1, k.2.1.trans h.2.1, k.2.2.1.trans h.2.2.1, Nat.le_trans h.size k.size, fun j hj hp => (k.block (Nat.lt_of_lt_of_le hj h.size) (fun e => hp (hq j hj e))).trans (h.block hj hp)⟩
theorem Turn.of_below {w w' : World} {p} (h : Below w.heap.size w w') : Turn w w' p := ⟨h.os, h.tape, h.output, h.size, fun k hk _ => h.block k hk⟩
theorem Turn.of_grown {w w' : World} {g : Nat} {p : Nat → Prop} (h : w.grownBy w' (some g)) (hp : p g) : Turn w w' p :=
  ⟨h.os, h.tape, h.output, h.size, fun k hk hn => h.block k hk (fun e => by cases e; exact hn hp)⟩
theorem Turn.cell {w w' : World} {p} (h : Turn w w' p) {k : Nat} (o : Nat) (hk : k < w.heap.size) (hp : ¬ p k) : w'.cell? ⟨k, o, none⟩ = w.cell? ⟨k, o, none⟩ := World.cell?_of_block (w := w) (a := ⟨k, o, none⟩) (h.block (k := k) hk hp)
theorem Turn.frozen {w w' : World} {p} (h : Turn w w' p) {k : Nat} (o : Nat) (hk : k < w.heap.size) (hp : ¬ p k) : w'.frozen? ⟨k, o, none⟩ = w.frozen? ⟨k, o, none⟩ := World.frozen?_of_block (w := w) (a := ⟨k, o, none⟩) (h.block (k := k) hk hp)

def kI : TypeId := 3
def kT : TypeId := 91
abbrev MapD := DataW Unit
def litI (x : Int) : Lit := .int .i64 x
def datI (x : Int) : MapD := .lit (.int .i64 x)
/-- A heap: the struct at block sb, its map at block bm, its row from block base on. -/
structure HP (w : World) (base sb bm : Nat) (sl : Value) (nx : Int) (L : List Thing) (c : Nat) : Prop where
  c0 : w.cell? ⟨sb, 0, none⟩ = some (.bool true)
  c1 : w.cell? ⟨sb, 1, none⟩ = some sl
  c2 : w.cell? ⟨sb, 2, none⟩ = some (.map (some bm))
  c3 : w.cell? ⟨sb, 3, none⟩ = some (.int .i64 nx)
  fz : ∀ o, w.frozen? ⟨sb, o, none⟩ = false
  row : w.ownsRow base kT 3 sl L.length (cellsL L)
  map : ∃ D : MapD, w.ownsMap Try.prog kI (plainElem Try.prog kI) bm c D
  hs : sb < base
  hm : bm < base
  ne : sb ≠ bm
  hb : base ≤ w.heap.size
/-- The map tells where a number stands. -/
def MapAt (w : World) (bm c : Nat) (num : Int) (i : Int) : Prop := ∃ D : MapD, w.ownsMap Try.prog kI (plainElem Try.prog kI) bm c D ∧ D.atKey (litI num) (datI 0) = datI i
theorem keyedI : Keyed Try.prog kI := int_keyed Try.underlying3
theorem zeroI (w : World) : (zeroValue kI).run Try.prog w = .ok (.int .i64 0) w := by kernel_rfl

theorem HP.lt_sb {w : World} {base sb bm : Nat} {sl : Value} {nx : Int} {L : List Thing} {c : Nat} (h : HP w base sb bm sl nx L c) : sb < w.heap.size := Nat.lt_of_lt_of_le h.hs h.hb
theorem HP.lt_bm {w : World} {base sb bm : Nat} {sl : Value} {nx : Int} {L : List Thing} {c : Nat} (h : HP w base sb bm sl nx L c) : bm < w.heap.size := Nat.lt_of_lt_of_le h.hm h.hb

/-- The world behind laying a thing into the row. -/
def laidW (w : World) (g i : Nat) (x : Thing) : World :=
  ((w.setCell ⟨g, i * 3, none⟩ (.int .i64 x.key)).setCell ⟨g, i * 3 + 1, none⟩ (.int .i64 x.num)).setCell ⟨g, i * 3 + 2, none⟩ (.int .i64 x.v)
theorem laidW_row {w : World} {base g cap i : Nat} {L : List Thing} (h : w.ownsRow base kT 3 (.slice (some ⟨g, 0, none⟩) L.length cap) L.length (cellsL L)) (hi : i < L.length) (x : Thing) :
    (laidW w g i x).ownsRow base kT 3 (.slice (some ⟨g, 0, none⟩) L.length cap) L.length (cellsL (L.set i x)) ∧ w.grownBy (laidW w g i x) (some g) := by
  obtain ⟨a1, b1⟩ := h.stored (i * 3) (.int .i64 x.key)
  obtain ⟨a2, b2⟩ := a1.stored (i * 3 + 1) (.int .i64 x.num)
  obtain ⟨a3, b3⟩ := a2.stored (i * 3 + 2) (.int .i64 x.v)
  have e := cellsL_set L i x
  rw [if_pos hi] at e
  rw [e] at a3
  exact ⟨a3, (b1.trans b2).trans b3⟩
theorem own_block {w w' : World} {base e size n : Nat} {v : Value} {xs : List Value} (h : w.ownsRow base e size v n xs) (hk : ∀ g, v.ownBlock = some g → w'.heap[g]? = w.heap[g]?) : w'.ownsRow base e size v n xs := by
  refine ⟨h.1, ?_⟩
  rcases h.2 with h2 | ⟨g, cap, cur, hv, hb, hg, hr⟩
  · exact .inl h2
  · exact .inr ⟨g, cap, cur, hv, hb, (hk g (by rw [hv]; rfl)).trans hg, hr⟩
theorem map_block {w w' : World} {bm c : Nat} {D : MapD} (h : w.ownsMap Try.prog kI (plainElem Try.prog kI) bm c D) (hk : w'.heap[bm]? = w.heap[bm]?) : w'.ownsMap Try.prog kI (plainElem Try.prog kI) bm c D := by
  obtain ⟨es, cl, hb, hr⟩ := h
  exact ⟨es, cl, hk.trans hb, hr⟩
theorem HP.own_ne {w : World} {base sb bm : Nat} {sl : Value} {nx : Int} {L : List Thing} {c : Nat} (h : HP w base sb bm sl nx L c) {g : Nat} (hg : sl.ownBlock = some g) : base ≤ g ∧ g < w.heap.size ∧ g ≠ sb ∧ g ≠ bm := by
  have h1 := h.row.lt g hg
  have h2 := h.hs
  have h3 := h.hm
  exact ⟨h1.1, h1.2, by omega, by omega⟩
/-- A heap is as it was where its blocks are. -/
theorem HP.keep {w w' : World} {base sb bm : Nat} {sl : Value} {nx : Int} {L : List Thing} {c : Nat} {p : Nat → Prop} (h : HP w base sb bm sl nx L c) (t : Turn w w' p) (h1 : ¬ p sb) (h2 : ¬ p bm) (h3 : ∀ g, sl.ownBlock = some g → ¬ p g) : HP w' base sb bm sl nx L c where
  c0 := (t.cell 0 h.lt_sb h1).trans h.c0
  c1 := (t.cell 1 h.lt_sb h1).trans h.c1
  c2 := (t.cell 2 h.lt_sb h1).trans h.c2
  c3 := (t.cell 3 h.lt_sb h1).trans h.c3
  fz := fun o => (t.frozen o h.lt_sb h1).trans (h.fz o)
  row := own_block h.row fun g hg => t.block (h.own_ne hg).2.1 (h3 g hg)
  map := by obtain ⟨D, hD⟩ := h.map; exact ⟨D, map_block hD (t.block h.lt_bm h2)⟩
  hs := h.hs
  hm := h.hm
  ne := h.ne
  hb := Nat.le_trans h.hb t.size
theorem HP.below {w w' : World} {base sb bm : Nat} {sl : Value} {nx : Int} {L : List Thing} {c : Nat} (h : HP w base sb bm sl nx L c) (t : Below w.heap.size w w') : HP w' base sb bm sl nx L c :=
  h.keep (p := fun _ => False) (Turn.of_below t) (fun h => h) (fun h => h) (fun _ _ h => h)
theorem HP.mono {w : World} {base sb bm : Nat} {sl : Value} {nx : Int} {L : List Thing} {c c' : Nat} (h : HP w base sb bm sl nx L c) (hc : c ≤ c') : HP w base sb bm sl nx L c' :=
  { h with map := by obtain ⟨D, hD⟩ := h.map; exact ⟨D, hD.mono hc⟩ }
theorem Turn.of_map {w w' : World} {b : Nat} {p : Nat → Prop} (h : w.mapTurned w' b) (hp : p b) : Turn w w' p := Turn.of_grown h.grown hp

theorem lay_any {w : World} {base sb bm g cap : Nat} {nx : Int} {L : List Thing} {c : Nat} (h : HP w base sb bm (.slice (some ⟨g, 0, none⟩) L.length cap) nx L c) (i : Nat) (hi : i < L.length) (x : Thing) (hx : (Lit.int .i64 x.num).wf = true) (hi64 : (i : Int) ≤ 9223372036854775807) (hc : c < maxLen) :
    Calls Try.prog 56 #[.pointer (some ⟨sb, 0, none⟩), .int .i64 i, x.val] w fun e w' => e = .returned (.tuple #[]) ∧
      HP w' base sb bm (.slice (some ⟨g, 0, none⟩) L.length cap) nx (L.set i x) (c + 1) ∧ MapAt w' bm (c + 1) x.num i ∧ Turn w w' (fun k => k = bm ∨ k = g) := by
  obtain ⟨xk, xn, xv⟩ := x
  have c1 := h.c1
  have c2 := h.c2
  obtain ⟨g0, g1, g2⟩ := cellsL_get L i hi
  have r0 := (h.row.cellAt (i * 3) (by omega)).trans g0
  have r1 := (h.row.cellAt (i * 3 + 1) (by omega)).trans g1
  have r2 := (h.row.cellAt (i * 3 + 2) (by omega)).trans g2
  have fz := h.row.frozenAt
  have hsb := h.lt_sb
  have hbm := h.lt_bm
  have hg := (h.row.lt g rfl).2
  have H := Lib.hid h
  clear h g0 g1 g2
  simp only [Thing.val]
  go_enter Try.func56, Try.ntmps56
  go_wp2
  go_region
  go_wp2
  obtain ⟨hrow, hgr⟩ := laidW_row H.out.row hi ⟨xk, xn, xv⟩
  obtain ⟨D, hD⟩ := H.out.map
  have hgb : g ≠ bm := fun e => by have := (H.out.row.lt g rfl).1; have := H.out.hm; omega
  have hD1 := (((hD.kept hgr (by simpa using fun e => hgb e.symm)).alloc (.cells #[.int .i64 xk, .int .i64 xn, .int .i64 xv] 91)).drew).drew
  have hwi : (Lit.int .i64 (i : Int)).wf = true := WalkArith.wf_i64 (by omega)
  obtain ⟨w2, hrun, hown2, hturn2⟩ := hD1.store keyedI Try.underlying81 hc (keyOf_int_mk Try.underlying3 hx) (plainElem_int Try.underlying3 hwi)
  have hgs : g ≠ sb := fun e => by have := (H.out.row.lt g rfl).1; have := H.out.hs; omega
  have k2 : (laidW w g i ⟨xk, xn, xv⟩).cell? ⟨sb, 2, none⟩ = some (.map (some bm)) := (World.cell?_of_block (a := ⟨sb, 2, none⟩) (hgr.block sb hsb (by simpa using fun e => hgs e.symm))).trans c2
  have HR := Lib.hid hrow
  have HG := Lib.hid hgr
  simp only [laidW] at hrun k2
  clear hrow hgr hD1
  go_region
  go_end0
  have T1 : Turn w (laidW w g i ⟨xk, xn, xv⟩) (fun k => k = bm ∨ k = g) := Turn.of_grown HG.out (.inr rfl)
  have T2 : Turn w ((laidW w g i ⟨xk, xn, xv⟩).alloc (.cells #[.int .i64 xk, .int .i64 xn, .int .i64 xv] 91)).drew.drew (fun k => k = bm ∨ k = g) :=
    T1.then (q := fun _ => False) (Turn.of_below (((Below.refl _ _).alloc (Nat.le_refl _) _).drew.drew)) (fun _ _ h => h.elim)
  have T3 := T2.then (q := fun k => k = bm) (Turn.of_map hturn2 rfl) (fun _ _ h => .inl h)
  have nsb : ¬ (sb = bm ∨ sb = g) := fun h => h.elim H.out.ne (fun e => hgs e.symm)
  refine ⟨rfl, ?_, ⟨_, hown2, ?_⟩, T3⟩
  · exact {
      c0 := (T3.cell 0 hsb nsb).trans H.out.c0
      c1 := (T3.cell 1 hsb nsb).trans H.out.c1
      c2 := (T3.cell 2 hsb nsb).trans H.out.c2
      c3 := (T3.cell 3 hsb nsb).trans H.out.c3
      fz := fun o => (T3.frozen o hsb nsb).trans (H.out.fz o)
      row := by
        rw [List.length_set]
        exact ((HR.out.alloc _).drew.drew).kept hturn2.grown (.inr (by simpa [Value.ownBlock] using hgb))
      map := ⟨_, hown2⟩
      hs := H.out.hs
      hm := H.out.hm
      ne := H.out.ne
      hb := Nat.le_trans H.out.hb T3.size }
  · exact atKey_put_same (k := litI xn) hD.isMap trivial _ _
end Go.Proofs.Ytjfdokoigkdciaa
namespace Go.Proofs.Ytjfdokoigkdciaa
open Go.RowKit

def ltT (a b : Thing) : Bool := decide (aheadI a b < 0)
theorem ltT_iff (a b : Thing) : ltT a b = true ↔ (a.key < b.key ∨ (a.key = b.key ∧ a.num < b.num)) := by
  unfold ltT aheadI orI cmpI
  simp only [decide_eq_true_eq]
  split <;> split <;> (try split) <;> (try split) <;> omega
def leT (a b : Thing) : Prop := ltT b a = false
theorem leT_iff (a b : Thing) : leT a b ↔ (a.key < b.key ∨ (a.key = b.key ∧ a.num ≤ b.num)) := by
  have := ltT_iff b a
  unfold leT
  rw [← Bool.not_eq_true, this]; omega
theorem leT_trans {a b c : Thing} (h : leT a b) (k : leT b c) : leT a c := by rw [leT_iff] at *; omega
theorem leT_of_lt {a b : Thing} (h : ltT a b = true) : leT a b := by rw [ltT_iff] at h; rw [leT_iff]; omega
theorem leT_refl (a : Thing) : leT a a := by rw [leT_iff]; omega
theorem leT_total (a b : Thing) : leT a b ∨ leT b a := by rw [leT_iff, leT_iff]; omega
def zT : Thing := ⟨0, 0, 0⟩
/-- What stands at a place. -/
def atL (L : List Thing) (j : Nat) : Thing := L.getD j zT
theorem atL_get (L : List Thing) (j : Nat) (h : j < L.length) : atL L j = L[j] := by simp [atL, List.getD, h]
theorem atL_set (L : List Thing) (i : Nat) (x : Thing) (j : Nat) (h : i < L.length) : atL (L.set i x) j = if j = i then x else atL L j := by
  unfold atL List.getD
  by_cases e : j = i
  · subst e; simp [h]
  · rw [if_neg e, List.getElem?_set_ne (fun h => e h.symm)]
theorem atL_take (L : List Thing) (n j : Nat) (h : j < n) : atL (L.take n) j = atL L j := by
  unfold atL List.getD
  rw [List.getElem?_take_of_lt h]
def IsHeap (L : List Thing) : Prop := ∀ j, 0 < j → j < L.length → leT (atL L ((j - 1) / 2)) (atL L j)
def UpHeap (L : List Thing) (i : Nat) : Prop :=
  (∀ j, 0 < j → j < L.length → j ≠ i → leT (atL L ((j - 1) / 2)) (atL L j)) ∧ (0 < i → ∀ j, 0 < j → j < L.length → (j - 1) / 2 = i → leT (atL L ((i - 1) / 2)) (atL L j))
def DownHeap (L : List Thing) (i : Nat) : Prop :=
  (∀ j, 0 < j → j < L.length → (j - 1) / 2 ≠ i → leT (atL L ((j - 1) / 2)) (atL L j)) ∧ (0 < i → ∀ j, 0 < j → j < L.length → (j - 1) / 2 = i → leT (atL L ((i - 1) / 2)) (atL L j))
def swapL (L : List Thing) (i p : Nat) : List Thing := (L.set i (atL L p)).set p (atL L i)
theorem swapL_length (L : List Thing) (i p : Nat) : (swapL L i p).length = L.length := by simp [swapL]
theorem swapL_at (L : List Thing) (i p j : Nat) (hi : i < L.length) (hp : p < L.length) : atL (swapL L i p) j = if j = p then atL L i else if j = i then atL L p else atL L j := by
  unfold swapL
  rw [atL_set _ _ _ _ (by simpa using hp), atL_set _ _ _ _ hi]
theorem swapL_perm (L : List Thing) (i p : Nat) (hi : i < L.length) (hp : p < L.length) : (swapL L i p).Perm L := by
  unfold swapL
  rw [atL_get _ _ hi, atL_get _ _ hp]
  exact List.set_set_perm hi hp
theorem swapL_hole (M : List Thing) (i p : Nat) (x : Thing) (hi : i < M.length) (hne : p ≠ i) : swapL (M.set i x) i p = (M.set i (atL M p)).set p x := by
  unfold swapL
  rw [atL_set _ _ _ _ hi, atL_set _ _ _ _ hi, if_neg hne, if_pos rfl, List.set_set]
theorem up_step {L : List Thing} {i : Nat} (h : UpHeap L i) (hi : i < L.length) (h0 : 0 < i) (hlt : ltT (atL L i) (atL L ((i - 1) / 2)) = true) : UpHeap (swapL L i ((i - 1) / 2)) ((i - 1) / 2) := by
  have hp : (i - 1) / 2 < i := by omega
  generalize hP : (i - 1) / 2 = p at *
  have hpl : p < L.length := by omega
  refine ⟨?_, ?_⟩
  · intro j hj hjl hne
    rw [swapL_length] at hjl
    rw [swapL_at _ _ _ _ hi hpl, swapL_at _ _ _ _ hi hpl, if_neg hne]
    by_cases e1 : j = i
    · subst e1
      rw [if_pos rfl, hP, if_pos rfl]
      exact leT_of_lt hlt
    · rw [if_neg e1]
      by_cases e2 : (j - 1) / 2 = p
      · rw [if_pos e2]
        have := h.1 j hj hjl e1
        rw [e2] at this
        exact leT_trans (leT_of_lt hlt) this
      · rw [if_neg e2]
        by_cases e3 : (j - 1) / 2 = i
        · rw [if_pos e3]
          have := h.2 h0 j hj hjl e3
          rw [hP] at this; exact this
        · rw [if_neg e3]
          exact h.1 j hj hjl e1
  · intro hp0 j hj hjl he
    rw [swapL_length] at hjl
    rw [swapL_at _ _ _ _ hi hpl, swapL_at _ _ _ _ hi hpl]
    have hpp := h.1 p hp0 hpl (by omega)
    rw [if_neg (show (p - 1) / 2 ≠ p from by omega), if_neg (show (p - 1) / 2 ≠ i from by omega), if_neg (show j ≠ p from by omega)]
    by_cases e1 : j = i
    · rw [if_pos e1]; exact hpp
    · rw [if_neg e1]
      have := h.1 j hj hjl e1
      rw [he] at this
      exact leT_trans hpp this
theorem up_end {L : List Thing} {i : Nat} (h : UpHeap L i) (he : i = 0 ∨ ltT (atL L i) (atL L ((i - 1) / 2)) = false) : IsHeap L := fun j hj hjl => by
  by_cases e : j = i
  · subst e
    rcases he with he | he
    · omega
    · exact he
  · exact h.1 j hj hjl e
theorem up_of {L : List Thing} (h : IsHeap L) (i : Nat) (hi : i < L.length) : UpHeap L i :=
  ⟨fun j hj hjl _ => h j hj hjl, fun h0 j hj hjl he => leT_trans (h i h0 hi) (by have := h j hj hjl; rwa [he] at this)⟩
theorem up_push {L : List Thing} (h : IsHeap L) (x : Thing) : UpHeap (L ++ [x]) L.length := by
  have ha : ∀ j, j < L.length → atL (L ++ [x]) j = atL L j := fun j hj => by unfold atL List.getD; rw [List.getElem?_append_left hj]
  refine ⟨fun j hj hjl hne => ?_, fun h0 j hj hjl he => ?_⟩
  · simp only [List.length_append, List.length_cons, List.length_nil] at hjl
    rw [ha j (by omega), ha _ (by omega)]
    exact h j hj (by omega)
  · simp only [List.length_append, List.length_cons, List.length_nil] at hjl
    omega
theorem down_step {L : List Thing} {i k : Nat} (h : DownHeap L i) (hi : i < L.length) (hk : k < L.length) (hc : k = 2 * i + 1 ∨ k = 2 * i + 2) (hle : ltT (atL L i) (atL L k) = false)
    (hmin : ∀ j, j < L.length → (j = 2 * i + 1 ∨ j = 2 * i + 2) → leT (atL L k) (atL L j)) : DownHeap (swapL L i k) k := by
  refine ⟨?_, ?_⟩
  · intro j hj hjl hne
    rw [swapL_length] at hjl
    rw [swapL_at _ _ _ _ hi hk, swapL_at _ _ _ _ hi hk, if_neg hne]
    by_cases e1 : j = k
    · subst e1
      rw [if_pos rfl, if_pos (show (j - 1) / 2 = i from by omega)]
      exact hle
    · rw [if_neg e1]
      by_cases e2 : j = i
      · rw [if_pos e2, if_neg (show (j - 1) / 2 ≠ i from by omega)]
        have := h.2 (by omega) k (by omega) hk (by omega)
        rw [e2]; exact this
      · rw [if_neg e2]
        by_cases e3 : (j - 1) / 2 = i
        · rw [if_pos e3]
          exact hmin j hjl (by omega)
        · rw [if_neg e3]
          exact h.1 j hj hjl e3
  · intro hk0 j hj hjl he
    rw [swapL_length] at hjl
    rw [swapL_at _ _ _ _ hi hk, swapL_at _ _ _ _ hi hk]
    rw [if_neg (show (k - 1) / 2 ≠ k from by omega), if_pos (show (k - 1) / 2 = i from by omega), if_neg (show j ≠ k from by omega), if_neg (show j ≠ i from by omega)]
    have := h.1 j hj hjl (by omega)
    rwa [he] at this
theorem down_end {L : List Thing} {i : Nat} (h : DownHeap L i) (he : ∀ j, j < L.length → (j = 2 * i + 1 ∨ j = 2 * i + 2) → leT (atL L i) (atL L j)) : IsHeap L := fun j hj hjl => by
  by_cases e : (j - 1) / 2 = i
  · rw [e]; exact he j hjl (by omega)
  · exact h.1 j hj hjl e
theorem down_drop {L : List Thing} (h : IsHeap L) (y : Thing) : DownHeap (((L.take (L.length - 1)).set 0 y)) 0 := by
  refine ⟨fun j hj hjl hne => ?_, fun h0 => absurd h0 (by omega)⟩
  have hl : (L.take (L.length - 1)).length = L.length - 1 := by simp
  simp only [List.length_set, hl] at hjl
  rw [atL_set _ _ _ _ (by omega), atL_set _ _ _ _ (by omega), if_neg hne, if_neg (by omega), atL_take _ _ _ (by omega), atL_take _ _ _ (by omega)]
  exact h j hj (by omega)
/-- The first is the least. -/
theorem head_least {L : List Thing} (h : IsHeap L) : ∀ n j, j ≤ n → j < L.length → leT (atL L 0) (atL L j) := by
  intro n
  induction n with
  | zero => intro j hj _; rw [show j = 0 from by omega]; exact leT_refl _
  | succ n ih =>
    intro j hj hl
    by_cases h0 : j = 0
    · subst h0; exact leT_refl _
    · exact leT_trans (ih ((j - 1) / 2) (by omega) (by omega)) (h j (by omega) hl)
theorem head_le {L : List Thing} (h : IsHeap L) : ∀ t ∈ L, leT (atL L 0) t := fun t ht => by
  obtain ⟨j, hj, rfl⟩ := List.getElem_of_mem ht
  rw [← atL_get L j hj]
  exact head_least h j j (Nat.le_refl _) hj
/-- What is left when the first is dropped. -/
theorem drop_perm {L : List Thing} (h : 1 < L.length) : (atL L 0 :: (L.take (L.length - 1)).set 0 (atL L (L.length - 1))).Perm L := by
  match L, h with
  | a :: M, h =>
    have hM : 0 < M.length := by simpa using h
    have e : M.length - 1 + 1 = M.length := by omega
    have e1 : atL (a :: M) (M.length + 1 - 1) = M[M.length - 1] := by
      rw [atL_get _ _ (by simp)]
      simp only [Nat.add_sub_cancel]
      conv => lhs; arg 2; rw [← e]
      rfl
    simp only [List.length_cons]
    rw [e1, show M.length + 1 - 1 = (M.length - 1) + 1 from by omega, List.take_succ_cons, List.set_cons_zero]
    show (a :: M[M.length - 1] :: M.take (M.length - 1)).Perm (a :: M)
    refine List.Perm.cons _ ?_
    have e2 : M = M.take (M.length - 1) ++ [M[M.length - 1]] := by
      rw [← List.take_succ_eq_append_getElem (by omega), e, List.take_length]
    conv => rhs; rw [e2]
    exact (List.perm_append_singleton _ _).symm
end Go.Proofs.Ytjfdokoigkdciaa
namespace Go.Proofs.Ytjfdokoigkdciaa
open Go.RowKit Go.Maps

def wfL (L : List Thing) : Prop := ∀ t ∈ L, (Lit.int .i64 t.num).wf = true
theorem wfL.perm {L M : List Thing} (h : wfL L) (p : M.Perm L) : wfL M := fun t ht => h t (p.mem_iff.1 ht)
theorem wfL.at {L : List Thing} (h : wfL L) {i : Nat} (hi : i < L.length) : (Lit.int .i64 (atL L i).num).wf = true := h _ (by rw [atL_get _ _ hi]; exact List.getElem_mem _)
/-- What lies in the row. -/
theorem HP.cells {w : World} {base sb bm g cap : Nat} {nx : Int} {L : List Thing} {c n : Nat} (h : HP w base sb bm (.slice (some ⟨g, 0, none⟩) n cap) nx L c) (hn : n = L.length) (i : Nat) (hi : i < L.length) :
    w.cell? ⟨g, i * 3, none⟩ = some (.int .i64 (atL L i).key) ∧ w.cell? ⟨g, i * 3 + 1, none⟩ = some (.int .i64 (atL L i).num) ∧ w.cell? ⟨g, i * 3 + 2, none⟩ = some (.int .i64 (atL L i).v) := by
  subst hn
  obtain ⟨g0, g1, g2⟩ := cellsL_get L i hi
  rw [atL_get _ _ hi]
  exact ⟨(h.row.cellAt (i * 3) (by omega)).trans g0, (h.row.cellAt (i * 3 + 1) (by omega)).trans g1, (h.row.cellAt (i * 3 + 2) (by omega)).trans g2⟩
theorem hole_perm {L M : List Thing} {k p : Nat} {x : Thing} (h : (M.set k x).Perm L) (hk : k < M.length) (hp : p < M.length) (hne : p ≠ k) : ((M.set k (atL M p)).set p x).Perm L := by
  rw [← swapL_hole M k p x hk hne]
  exact (swapL_perm _ _ _ (by simpa using hk) (by simpa using hp)).trans h
theorem hole_up {M : List Thing} {k : Nat} {x : Thing} (h : UpHeap (M.set k x) k) (hk : k < M.length) (h0 : 0 < k) (hlt : ltT x (atL M ((k - 1) / 2)) = true) : UpHeap ((M.set k (atL M ((k - 1) / 2))).set ((k - 1) / 2) x) ((k - 1) / 2) := by
  rw [← swapL_hole M k _ x hk (by omega)]
  refine up_step h (by simpa using hk) h0 ?_
  rw [atL_set _ _ _ _ hk, atL_set _ _ _ _ hk, if_pos rfl, if_neg (by omega)]; exact hlt
theorem hole_up_end {M : List Thing} {k : Nat} {x : Thing} (h : UpHeap (M.set k x) k) (hk : k < M.length) (he : k = 0 ∨ ltT x (atL M ((k - 1) / 2)) = false) : IsHeap (M.set k x) := by
  refine up_end h ?_
  rcases he with he | he
  · exact .inl he
  · by_cases h0 : k = 0
    · exact .inl h0
    · right; rw [atL_set _ _ _ _ hk, atL_set _ _ _ _ hk, if_pos rfl, if_neg (by omega)]; exact he
/-- The relation of rising and sinking. -/
structure Hole (w wr : World) (base sb bm g cap : Nat) (nx : Int) (L : List Thing) (c : Nat) (q : Nat) (x : Thing) (k : Nat) (M : List Thing) (c' : Nat) : Prop where
  hp : HP wr base sb bm (.slice (some ⟨g, 0, none⟩) L.length cap) nx M c'
  hk : k < M.length
  hl : M.length = L.length
  perm : (M.set k x).Perm L
  turn : Turn w wr (fun j => j = bm ∨ j = g)
  q0 : wr.cell? ⟨q, 0, none⟩ = some (.int .i64 x.key)
  q1 : wr.cell? ⟨q, 1, none⟩ = some (.int .i64 x.num)
  q2 : wr.cell? ⟨q, 2, none⟩ = some (.int .i64 x.v)
  ql : q < wr.heap.size

set_option maxHeartbeats 1000000 in
theorem rise_any {w : World} {base sb bm g cap : Nat} {nx : Int} {L : List Thing} {c : Nat} (h : HP w base sb bm (.slice (some ⟨g, 0, none⟩) L.length cap) nx L c) (i : Nat) (hi : i < L.length) (hup : UpHeap L i) (hwf : wfL L) (hi64 : (L.length : Int) ≤ 9223372036854775807) (hc : c + i + 1 < maxLen) :
    Calls Try.prog 54 #[.pointer (some ⟨sb, 0, none⟩), .int .i64 i] w fun e w' => e = .returned (.tuple #[]) ∧ ∃ L' : List Thing, L'.Perm L ∧ IsHeap L' ∧
      HP w' base sb bm (.slice (some ⟨g, 0, none⟩) L.length cap) nx L' (c + i + 1) ∧ Turn w w' (fun k => k = bm ∨ k = g) := by
  have c1 := h.c1
  obtain ⟨r0, r1, r2⟩ := h.cells rfl i hi
  have hsb := h.lt_sb
  have hbm := h.lt_bm
  have hg := (h.row.lt g rfl).2
  have H := Lib.hid h
  have UP := Lib.hid hup
  clear h hup
  generalize hx : atL L i = x at *
  obtain ⟨xk, xn, xv⟩ := x
  have HX := Lib.hid hx
  clear hx
  go_enter Try.func54, Try.ntmps54
  go_wp2_with fail
  go_loopw [1] (fun v wr => ∃ (k : Nat) (M : List Thing) (c' : Nat), v = .int .i64 k ∧ Hole w wr base sb bm g cap nx L c w.heap.size ⟨xk, xn, xv⟩ k M c' ∧ c' + k ≤ c + i ∧ UpHeap (M.set k ⟨xk, xn, xv⟩) k) (fun v _ => (intOf v).toNat)
  case atStart =>
    refine ⟨i, L, c, rfl, ?_, Nat.le_refl _, ?_⟩
    · have e : L.set i ⟨xk, xn, xv⟩ = L := by rw [← HX.out, atL_get _ _ hi, List.set_getElem_self]
      exact {
        hp := H.out.below ((Below.refl _ _).alloc (Nat.le_refl _) _)
        hk := hi
        hl := rfl
        perm := by rw [e]
        turn := Turn.of_below ((Below.refl _ _).alloc (Nat.le_refl _) _)
        q0 := by simp
        q1 := by simp
        q2 := by simp
        ql := by simp }
    · have e : L.set i ⟨xk, xn, xv⟩ = L := by rw [← HX.out, atL_get _ _ hi, List.set_getElem_self]
      rw [e]; exact UP.out
  case round =>
    obtain ⟨k, M, c', rfl, hr, hck, hu⟩ := hrel
    by_cases h0 : k = 0
    · subst h0
      have hk := hr.hk
      have hl := hr.hl
      have q0 := hr.q0
      have q1 := hr.q1
      have q2 := hr.q2
      simp only at q0 q1 q2
      have HR := Lib.hid hr
      have HU := Lib.hid hu
      clear hr hu
      go_wp2_with fail
      go_quiet (fail)
      go_wp2_with fail
      have hb2 : Below wr.heap.size wr (wr.drewN nq) := below_drewN (Below.refl _ wr) nq
      have hp2 : HP (wr.drewN nq) base sb bm (.slice (some ⟨g, 0, none⟩) M.length cap) nx M c' := by rw [hl]; exact HR.out.hp.below hb2
      refine (lay_any hp2 0 hk ⟨xk, xn, xv⟩ (by have := hwf.at hi; rwa [HX.out] at this) (by omega) (by omega)).mono ?_
      rintro e w3 ⟨rfl, hp3, hm3, t3⟩
      go_wp2_with fail
      go_end0
      rw [hl] at hp3
      exact ⟨rfl, _, HR.out.perm, hole_up_end HU.out hk (.inl rfl), hp3.mono (by omega), (HR.out.turn.then (q := fun _ => False) (Turn.of_below hb2) (fun _ _ h => h.elim)).then t3 (fun _ _ h => h)⟩
    · have hk := hr.hk
      have hl := hr.hl
      obtain ⟨p, hp⟩ : ∃ p : Nat, p = (k - 1) / 2 := ⟨_, rfl⟩
      have hpk : p < k := by omega
      have hq : ((k : Int) - 1).tdiv 2 = (p : Int) := by rw [Int.tdiv_eq_ediv_of_nonneg (by omega)]; omega
      obtain ⟨s0, s1, s2⟩ := hr.hp.cells hl.symm p (by omega)
      have d1 := hr.hp.c1
      have q0 := hr.q0
      have q1 := hr.q1
      have q2 := hr.q2
      have ql := hr.ql
      simp only at q0 q1 q2
      have hb : decide (0 < k) = true := decide_eq_true (by omega)
      have hb0 : 0 < k := by omega
      have hw1 : IntKind.i64.wrap ((k : Int) - 1) = (k : Int) - 1 := IntWalk.i64_in _ (by omega)
      have hw2 : IntKind.i64.wrap (p : Int) = (p : Int) := IntWalk.i64_in _ (by omega)
      have hpl : p < L.length := by omega
      have hpl2 : (p : Int) < (L.length : Int) := by omega
      have hp0 : (0 : Int) ≤ (p : Int) := by omega
      have lsb := hr.hp.lt_sb
      have lg := (hr.hp.own_ne (g := g) rfl).2.1
      generalize hy : atL M p = y at *
      obtain ⟨yk, yn, yv⟩ := y
      have HY := Lib.hid hy
      have HR := Lib.hid hr
      have HU := Lib.hid hu
      have HPK := Lib.hid hp
      clear hr hu hy hp
      simp only at s0 s1 s2
      have hp2 := HR.out.hp
      cases hd : ltT ⟨xk, xn, xv⟩ ⟨yk, yn, yv⟩ with
      | false =>
        have hd' : decide (aheadI ⟨xk, xn, xv⟩ ⟨yk, yn, yv⟩ < 0) = false := hd
        clear hp2
        go_wp2_with fail
        go_region_held3 (fun w' => w'.cell? ⟨w.heap.size, 0, none⟩ = some (.int .i64 xk) ∧ w'.cell? ⟨w.heap.size, 1, none⟩ = some (.int .i64 xn) ∧ w'.cell? ⟨w.heap.size, 2, none⟩ = some (.int .i64 xv) ∧ w'.cell? ⟨sb, 1, none⟩ = some (.slice (some ⟨g, 0, none⟩) L.length cap) ∧ w'.cell? ⟨g, p * 3, none⟩ = some (.int .i64 yk) ∧ w'.cell? ⟨g, p * 3 + 1, none⟩ = some (.int .i64 yn) ∧ w'.cell? ⟨g, p * 3 + 2, none⟩ = some (.int .i64 yv))
          (first | exact ⟨q0, q1, q2, d1, s0, s1, s2⟩ | exact ⟨k0, k1, k2, k3, k4, k5, k6⟩) (first | (go_at_call 58; refine (ahead_any ⟨xk, xn, xv⟩ ⟨yk, yn, yv⟩ _).mono ?_; rintro e w2 ⟨rfl, h2⟩; have c2 := (bcell h2).1; have k0 := (c2 _ 0 ql).trans q0; have k1 := (c2 _ 1 ql).trans q1; have k2 := (c2 _ 2 ql).trans q2; have k3 := (c2 _ 1 lsb).trans d1; have k4 := (c2 _ _ lg).trans s0; have k5 := (c2 _ _ lg).trans s1; have k6 := (c2 _ _ lg).trans s2))
        go_wp2_with fail
        have hb2 : Below wr.heap.size wr w2 := ((Below.refl _ wr).drew).trans h2
        have hp2 : HP w2 base sb bm (.slice (some ⟨g, 0, none⟩) M.length cap) nx M c' := by rw [hl]; exact HR.out.hp.below hb2
        refine (lay_any hp2 k hk ⟨xk, xn, xv⟩ (by have := hwf.at hi; rwa [HX.out] at this) (by omega) (by omega)).mono ?_
        rintro e w3 ⟨rfl, hp3, hm3, t3⟩
        go_wp2_with fail
        go_end0
        rw [hl] at hp3
        exact ⟨rfl, _, HR.out.perm, hole_up_end HU.out hk (.inr (by rw [← HPK.out, HY.out]; exact hd)), hp3.mono (by omega), (HR.out.turn.then (q := fun _ => False) (Turn.of_below hb2) (fun _ _ h => h.elim)).then t3 (fun _ _ h => h)⟩
      | true =>
        have hd' : decide (aheadI ⟨xk, xn, xv⟩ ⟨yk, yn, yv⟩ < 0) = true := hd
        clear hp2
        go_wp2_with fail
        go_region_held3 (fun w' => w'.cell? ⟨w.heap.size, 0, none⟩ = some (.int .i64 xk) ∧ w'.cell? ⟨w.heap.size, 1, none⟩ = some (.int .i64 xn) ∧ w'.cell? ⟨w.heap.size, 2, none⟩ = some (.int .i64 xv) ∧ w'.cell? ⟨sb, 1, none⟩ = some (.slice (some ⟨g, 0, none⟩) L.length cap) ∧ w'.cell? ⟨g, p * 3, none⟩ = some (.int .i64 yk) ∧ w'.cell? ⟨g, p * 3 + 1, none⟩ = some (.int .i64 yn) ∧ w'.cell? ⟨g, p * 3 + 2, none⟩ = some (.int .i64 yv))
          (first | exact ⟨q0, q1, q2, d1, s0, s1, s2⟩ | exact ⟨k0, k1, k2, k3, k4, k5, k6⟩) (first | (go_at_call 58; refine (ahead_any ⟨xk, xn, xv⟩ ⟨yk, yn, yv⟩ _).mono ?_; rintro e w2 ⟨rfl, h2⟩; have c2 := (bcell h2).1; have k0 := (c2 _ 0 ql).trans q0; have k1 := (c2 _ 1 ql).trans q1; have k2 := (c2 _ 2 ql).trans q2; have k3 := (c2 _ 1 lsb).trans d1; have k4 := (c2 _ _ lg).trans s0; have k5 := (c2 _ _ lg).trans s1; have k6 := (c2 _ _ lg).trans s2))
        go_wp2_with fail
        have hp2 : HP w2 base sb bm (.slice (some ⟨g, 0, none⟩) M.length cap) nx M c' := by rw [hl]; exact HR.out.hp.below (((Below.refl _ wr).drew).trans h2)
        refine (lay_any hp2 k hk ⟨yk, yn, yv⟩ (by have := (hwf.perm HR.out.perm).at (i := p) (by simpa using (by omega : p < M.length)); rw [atL_set _ _ _ _ hk, if_neg (by omega), HY.out] at this; exact this) (by omega) (by omega)).mono ?_
        rintro e w3 ⟨rfl, hp3, hm3, t3⟩
        go_wp2_with fail
        go_roundw
        case rel =>
          have hb2 : Below wr.heap.size wr w2 := ((Below.refl _ wr).drew).trans h2
          have hpp := HPK.out
          have s2 : w2.heap.size ≤ w3.heap.size := t3.size
          have nq : ∀ o, w3.cell? ⟨w.heap.size, o, none⟩ = w2.cell? ⟨w.heap.size, o, none⟩ := fun o => t3.cell o (Nat.lt_of_lt_of_le ql hb2.size) (by omega)
          refine ⟨p, M.set k ⟨yk, yn, yv⟩, c' + 1, by go_num, ?_, by omega, ?_⟩
          · exact {
              hp := by rw [hl] at hp3; exact hp3
              hk := by simpa using (by omega : p < M.length)
              hl := by simpa using hl
              perm := by have := hole_perm HR.out.perm hk (p := p) (by omega) (by omega); rwa [HY.out] at this
              turn := (HR.out.turn.then (q := fun _ => False) (Turn.of_below hb2) (fun _ _ h => h.elim)).then t3 (fun _ _ h => h)
              q0 := (nq 0).trans k0
              q1 := (nq 1).trans k1
              q2 := (nq 2).trans k2
              ql := Nat.lt_of_lt_of_le ql (Nat.le_trans hb2.size s2) }
          · have := hole_up HU.out hk (by omega) (by rw [← hpp, HY.out]; exact hd)
            rwa [← hpp, HY.out] at this
        case measure => simp [intOf]; omega
end Go.Proofs.Ytjfdokoigkdciaa

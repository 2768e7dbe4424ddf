/- The heap in memory: what it holds; laying a thing at a place. -/
import Derived.Test.YtefijgdbnjmifaaHeapA
import Derived.Maps.OwnSet
namespace Go.Proofs.Ytefijgdbnjmifaa
open Go.RowKit Go.Maps

def cellsL (L : List Thing) : List Value := L.flatMap Thing.cells
theorem cellsL_length (L : List Thing) : (cellsL L).length = L.length * 3 := by
  induction L with
  | nil => rfl
  | cons a L ih => simp only [cellsL, List.flatMap_cons, List.length_append, List.length_cons] at ih ⊢; rw [show (List.flatMap Thing.cells L).length = L.length * 3 from ih]; simp [Thing.cells]; omega
theorem cellsL_cons (a : Thing) (L : List Thing) : cellsL (a :: L) = .int .i64 a.key :: .int .i64 a.num :: .int .i64 a.v :: cellsL L := rfl
theorem cellsL_append (L M : List Thing) : cellsL (L ++ M) = cellsL L ++ cellsL M := by simp [cellsL]
theorem cellsL_get (L : List Thing) (i : Nat) (h : i < L.length) : (cellsL L)[i * 3]? = some (.int .i64 L[i].key) ∧ (cellsL L)[i * 3 + 1]? = some (.int .i64 L[i].num) ∧ (cellsL L)[i * 3 + 2]? = some (.int .i64 L[i].v) := by
  induction L generalizing i with
  | nil => simp at h
  | cons a L ih =>
    rw [cellsL_cons]
    cases i with
    | zero => simp
    | succ i =>
      have := ih i (by simpa using h)
      rw [show (i + 1) * 3 = i * 3 + 3 from by omega, show i * 3 + 3 + 1 = (i * 3 + 1) + 3 from by omega, show i * 3 + 3 + 2 = (i * 3 + 2) + 3 from by omega]
      simpa using this
theorem cellsL_set (L : List Thing) (i : Nat) (x : Thing) : (((cellsL L).set (i * 3) (.int .i64 x.key)).set (i * 3 + 1) (.int .i64 x.num)).set (i * 3 + 2) (.int .i64 x.v) = if i < L.length then cellsL (L.set i x) else cellsL L := by
  induction L generalizing i with
  | nil => simp [cellsL]
  | cons a L ih =>
    rw [cellsL_cons]
    cases i with
    | zero => simp [cellsL_cons]
    | succ i =>
      have := ih i
      rw [show (i + 1) * 3 = i * 3 + 3 from by omega, show i * 3 + 3 + 1 = (i * 3 + 1) + 3 from by omega, show i * 3 + 3 + 2 = (i * 3 + 2) + 3 from by omega]
      simp only [List.set_cons_succ, this, List.length_cons, Nat.add_lt_add_iff_right]
      split <;> simp [cellsL_cons]

/-- What a heap op may turn: these blocks alone. -/
def Turn (w w' : World) (p : Nat → Prop) : Prop := w'.os = w.os ∧ w'.tape = w.tape ∧ w'.output = w.output ∧ w.heap.size ≤ w'.heap.size ∧ ∀ k, k < w.heap.size → ¬ p k → w'.heap[k]? = w.heap[k]?
theorem Turn.refl (w : World) (p : Nat → Prop) : Turn w w p := ⟨rfl, rfl, rfl, Nat.le_refl _, fun _ _ _ => rfl⟩
theorem Turn.size {w w' : World} {p} (h : Turn w w' p) : w.heap.size ≤ w'.heap.size := h.2.2.2.1
theorem Turn.block {w w' : World} {p} (h : Turn w w' p) {k : Nat} (hk : k < w.heap.size) (hp : ¬ p k) : w'.heap[k]? = w.heap[k]? := h.2.2.2.2 k hk hp
theorem Turn.then {a b c : World} {p q : Nat → Prop} (h : Turn a b p) (k : Turn b c q) (hq : ∀ j, j < a.heap.size → q j → p j) : Turn a c p :=
  ⟨k.1.trans h.1, k.2.1.trans h.2.1, k.2.2.1.trans h.2.2.1, Nat.le_trans h.size k.size, fun j hj hp => (k.block (Nat.lt_of_lt_of_le hj h.size) (fun e => hp (hq j hj e))).trans (h.block hj hp)⟩
theorem Turn.of_below {w w' : World} {p} (h : Below w.heap.size w w') : Turn w w' p := ⟨h.os, h.tape, h.output, h.size, fun k hk _ => h.block k hk⟩
theorem Turn.of_grown {w w' : World} {g : Nat} {p : Nat → Prop} (h : w.grownBy w' (some g)) (hp : p g) : Turn w w' p :=
  ⟨h.os, h.tape, h.output, h.size, fun k hk hn => h.block k hk (fun e => by cases e; exact hn hp)⟩
theorem Turn.cell {w w' : World} {p} (h : Turn w w' p) {k : Nat} (o : Nat) (hk : k < w.heap.size) (hp : ¬ p k) : w'.cell? ⟨k, o, none⟩ = w.cell? ⟨k, o, none⟩ := World.cell?_of_block (w := w) (a := ⟨k, o, none⟩) (h.block (k := k) hk hp)
theorem Turn.frozen {w w' : World} {p} (h : Turn w w' p) {k : Nat} (o : Nat) (hk : k < w.heap.size) (hp : ¬ p k) : w'.frozen? ⟨k, o, none⟩ = w.frozen? ⟨k, o, none⟩ := World.frozen?_of_block (w := w) (a := ⟨k, o, none⟩) (h.block (k := k) hk hp)

def kI : TypeId := 3
def kT : TypeId := 115
abbrev MapD := DataW Unit
def litI (x : Int) : Lit := .int .i64 x
def datI (x : Int) : MapD := .lit (.int .i64 x)
/-- A heap: the struct at block sb, its map at block bm, its row from block base on. -/
structure HP (w : World) (base sb bm : Nat) (sl : Value) (nx : Int) (L : List Thing) (c : Nat) : Prop where
  c0 : w.cell? ⟨sb, 0, none⟩ = some (.bool true)
  c1 : w.cell? ⟨sb, 1, none⟩ = some sl
  c2 : w.cell? ⟨sb, 2, none⟩ = some (.map (some bm))
  c3 : w.cell? ⟨sb, 3, none⟩ = some (.int .i64 nx)
  fz : ∀ o, w.frozen? ⟨sb, o, none⟩ = false
  row : w.ownsRow base kT 3 sl L.length (cellsL L)
  map : ∃ D : MapD, w.ownsMap Try.prog kI (plainElem Try.prog kI) bm c D
  hs : sb < base
  hm : bm < base
  ne : sb ≠ bm
  hb : base ≤ w.heap.size
/-- The map tells where a number stands. -/
def MapAt (w : World) (bm c : Nat) (num : Int) (i : Int) : Prop := ∃ D : MapD, w.ownsMap Try.prog kI (plainElem Try.prog kI) bm c D ∧ D.atKey (litI num) (datI 0) = datI i
theorem keyedI : Keyed Try.prog kI := int_keyed Try.underlying3
theorem zeroI (w : World) : (zeroValue kI).run Try.prog w = .ok (.int .i64 0) w := by kernel_rfl

theorem HP.lt_sb {w : World} {base sb bm : Nat} {sl : Value} {nx : Int} {L : List Thing} {c : Nat} (h : HP w base sb bm sl nx L c) : sb < w.heap.size := Nat.lt_of_lt_of_le h.hs h.hb
theorem HP.lt_bm {w : World} {base sb bm : Nat} {sl : Value} {nx : Int} {L : List Thing} {c : Nat} (h : HP w base sb bm sl nx L c) : bm < w.heap.size := Nat.lt_of_lt_of_le h.hm h.hb

/-- The world behind laying a thing into the row. -/
def laidW (w : World) (g i : Nat) (x : Thing) : World :=
  ((w.setCell ⟨g, i * 3, none⟩ (.int .i64 x.key)).setCell ⟨g, i * 3 + 1, none⟩ (.int .i64 x.num)).setCell ⟨g, i * 3 + 2, none⟩ (.int .i64 x.v)
theorem laidW_row {w : World} {base g cap i : Nat} {L : List Thing} (h : w.ownsRow base kT 3 (.slice (some ⟨g, 0, none⟩) L.length cap) L.length (cellsL L)) (hi : i < L.length) (x : Thing) :
    (laidW w g i x).ownsRow base kT 3 (.slice (some ⟨g, 0, none⟩) L.length cap) L.length (cellsL (L.set i x)) ∧ w.grownBy (laidW w g i x) (some g) := by
  obtain ⟨a1, b1⟩ := h.stored (i * 3) (.int .i64 x.key)
  obtain ⟨a2, b2⟩ := a1.stored (i * 3 + 1) (.int .i64 x.num)
  obtain ⟨a3, b3⟩ := a2.stored (i * 3 + 2) (.int .i64 x.v)
  have e := cellsL_set L i x
  rw [if_pos hi] at e
  rw [e] at a3
  exact ⟨a3, (b1.trans b2).trans b3⟩
theorem own_block {w w' : World} {base e size n : Nat} {v : Value} {xs : List Value} (h : w.ownsRow base e size v n xs) (hk : ∀ g, v.ownBlock = some g → w'.heap[g]? = w.heap[g]?) : w'.ownsRow base e size v n xs := by
  refine ⟨h.1, ?_⟩
  rcases h.2 with h2 | ⟨g, cap, cur, hv, hb, hg, hr⟩
  · exact .inl h2
  · exact .inr ⟨g, cap, cur, hv, hb, (hk g (by rw [hv]; rfl)).trans hg, hr⟩
theorem map_block {w w' : World} {bm c : Nat} {D : MapD} (h : w.ownsMap Try.prog kI (plainElem Try.prog kI) bm c D) (hk : w'.heap[bm]? = w.heap[bm]?) : w'.ownsMap Try.prog kI (plainElem Try.prog kI) bm c D := by
  obtain ⟨es, cl, hb, hr⟩ := h
  exact ⟨es, cl, hk.trans hb, hr⟩
theorem HP.own_ne {w : World} {base sb bm : Nat} {sl : Value} {nx : Int} {L : List Thing} {c : Nat} (h : HP w base sb bm sl nx L c) {g : Nat} (hg : sl.ownBlock = some g) : base ≤ g ∧ g < w.heap.size ∧ g ≠ sb ∧ g ≠ bm := by
  have h1 := h.row.lt g hg
  have h2 := h.hs
  have h3 := h.hm
  exact ⟨h1.1, h1.2, by omega, by omega⟩
/-- A heap is as it was where its blocks are. -/
theorem HP.keep {w w' : World} {base sb bm : Nat} {sl : Value} {nx : Int} {L : List Thing} {c : Nat} {p : Nat → Prop} (h : HP w base sb bm sl nx L c) (t : Turn w w' p) (h1 : ¬ p sb) (h2 : ¬ p bm) (h3 : ∀ g, sl.ownBlock = some g → ¬ p g) : HP w' base sb bm sl nx L c where
  c0 := (t.cell 0 h.lt_sb h1).trans h.c0
  c1 := (t.cell 1 h.lt_sb h1).trans h.c1
  c2 := (t.cell 2 h.lt_sb h1).trans h.c2
  c3 := (t.cell 3 h.lt_sb h1).trans h.c3
  fz := fun o => (t.frozen o h.lt_sb h1).trans (h.fz o)
  row := own_block h.row fun g hg => t.block (h.own_ne hg).2.1 (h3 g hg)
  map := by obtain ⟨D, hD⟩ := h.map; exact ⟨D, map_block hD (t.block h.lt_bm h2)⟩
  hs := h.hs
  hm := h.hm
  ne := h.ne
  hb := Nat.le_trans h.hb t.size
theorem HP.below {w w' : World} {base sb bm : Nat} {sl : Value} {nx : Int} {L : List Thing} {c : Nat} (h : HP w base sb bm sl nx L c) (t : Below w.heap.size w w') : HP w' base sb bm sl nx L c :=
  h.keep (p := fun _ => False) (Turn.of_below t) (fun h => h) (fun h => h) (fun _ _ h => h)
theorem HP.mono {w : World} {base sb bm : Nat} {sl : Value} {nx : Int} {L : List Thing} {c c' : Nat} (h : HP w base sb bm sl nx L c) (hc : c ≤ c') : HP w base sb bm sl nx L c' :=
  { h with map := by obtain ⟨D, hD⟩ := h.map; exact ⟨D, hD.mono hc⟩ }
theorem Turn.of_map {w w' : World} {b : Nat} {p : Nat → Prop} (h : w.mapTurned w' b) (hp : p b) : Turn w w' p := Turn.of_grown h.grown hp

theorem lay_any {w : World} {base sb bm g cap : Nat} {nx : Int} {L : List Thing} {c : Nat} (h : HP w base sb bm (.slice (some ⟨g, 0, none⟩) L.length cap) nx L c) (i : Nat) (hi : i < L.length) (x : Thing) (hx : (Lit.int .i64 x.num).wf = true) (hi64 : (i : Int) ≤ 9223372036854775807) (hc : c < maxLen) :
    Calls Try.prog 64 #[.pointer (some ⟨sb, 0, none⟩), .int .i64 i, x.val] w fun e w' => e = .returned (.tuple #[]) ∧
      HP w' base sb bm (.slice (some ⟨g, 0, none⟩) L.length cap) nx (L.set i x) (c + 1) ∧ MapAt w' bm (c + 1) x.num i ∧ Turn w w' (fun k => k = bm ∨ k = g) := by
  obtain ⟨xk, xn, xv⟩ := x
  have c1 := h.c1
  have c2 := h.c2
  obtain ⟨g0, g1, g2⟩ := cellsL_get L i hi
  have r0 := (h.row.cellAt (i * 3) (by omega)).trans g0
  have r1 := (h.row.cellAt (i * 3 + 1) (by omega)).trans g1
  have r2 := (h.row.cellAt (i * 3 + 2) (by omega)).trans g2
  have fz := h.row.frozenAt
  have hsb := h.lt_sb
  have hbm := h.lt_bm
  have hg := (h.row.lt g rfl).2
  have H := Lib.hid h
  clear h g0 g1 g2
  simp only [Thing.val]
  go_enter Try.func64, Try.ntmps64
  go_wp2
  go_region
  go_wp2
  obtain ⟨hrow, hgr⟩ := laidW_row H.out.row hi ⟨xk, xn, xv⟩
  obtain ⟨D, hD⟩ := H.out.map
  have hgb : g ≠ bm := fun e => by have := (H.out.row.lt g rfl).1; have := H.out.hm; omega
  have hD1 := (((hD.kept hgr (by simpa using fun e => hgb e.symm)).alloc (.cells #[.int .i64 xk, .int .i64 xn, .int .i64 xv] 115)).drew).drew
  have hwi : (Lit.int .i64 (i : Int)).wf = true := WalkArith.wf_i64 (by omega)
  obtain ⟨w2, hrun, hown2, hturn2⟩ := hD1.store keyedI Try.underlying91 hc (keyOf_int_mk Try.underlying3 hx) (plainElem_int Try.underlying3 hwi)
  have hgs : g ≠ sb := fun e => by have := (H.out.row.lt g rfl).1; have := H.out.hs; omega
  have k2 : (laidW w g i ⟨xk, xn, xv⟩).cell? ⟨sb, 2, none⟩ = some (.map (some bm)) := (World.cell?_of_block (a := ⟨sb, 2, none⟩) (hgr.block sb hsb (by simpa using fun e => hgs e.symm))).trans c2
  have HR := Lib.hid hrow
  have HG := Lib.hid hgr
  simp only [laidW] at hrun k2
  clear hrow hgr hD1
  go_region
  go_end0
  have T1 : Turn w (laidW w g i ⟨xk, xn, xv⟩) (fun k => k = bm ∨ k = g) := Turn.of_grown HG.out (.inr rfl)
  have T2 : Turn w ((laidW w g i ⟨xk, xn, xv⟩).alloc (.cells #[.int .i64 xk, .int .i64 xn, .int .i64 xv] 115)).drew.drew (fun k => k = bm ∨ k = g) :=
    T1.then (q := fun _ => False) (Turn.of_below (((Below.refl _ _).alloc (Nat.le_refl _) _).drew.drew)) (fun _ _ h => h.elim)
  have T3 := T2.then (q := fun k => k = bm) (Turn.of_map hturn2 rfl) (fun _ _ h => .inl h)
  have nsb : ¬ (sb = bm ∨ sb = g) := fun h => h.elim H.out.ne (fun e => hgs e.symm)
  refine ⟨rfl, ?_, ⟨_, hown2, ?_⟩, T3⟩
  · exact {
      c0 := (T3.cell 0 hsb nsb).trans H.out.c0
      c1 := (T3.cell 1 hsb nsb).trans H.out.c1
      c2 := (T3.cell 2 hsb nsb).trans H.out.c2
      c3 := (T3.cell 3 hsb nsb).trans H.out.c3
      fz := fun o => (T3.frozen o hsb nsb).trans (H.out.fz o)
      row := by
        rw [List.length_set]
        exact ((HR.out.alloc _).drew.drew).kept hturn2.grown (.inr (by simpa [Value.ownBlock] using hgb))
      map := ⟨_, hown2⟩
      hs := H.out.hs
      hm := H.out.hm
      ne := H.out.ne
      hb := Nat.le_trans H.out.hb T3.size }
  · exact atKey_put_same (k := litI xn) hD.isMap trivial _ _
end Go.Proofs.Ytefijgdbnjmifaa

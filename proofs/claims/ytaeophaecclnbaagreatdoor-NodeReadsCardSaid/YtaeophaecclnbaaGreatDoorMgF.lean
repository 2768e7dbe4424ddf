/- A reader that keeps its first fault: its memory; what it reads, one thing behind the other. Events in memory: one, a row of a call's own that holds them. A question: its value and its events are right; as a value. In plain Lean. Reading parts of an event, walked. Printed by gen_nx.py. -/
import Derived.Test.YtaeophaecclnbaaGreatDoorMgD
import Derived.Deep.RegionHeld3
import Derived.RegionTactic
namespace Go.Proofs.YtaeophaecclnbaaGreatDoor
open Go.RowKit

/-- A reader of the bytes at A, with a fault: block rb; its place is p, its fault er. -/
structure RE (w : World) (rb : Nat) (A : Option Addr) (n cc : Nat) (l : List UInt8) (p : Nat) (er : Int) : Prop where
  c0 : w.cell? ⟨rb, 0, none⟩ = some (.slice A n cc)
  c1 : w.cell? ⟨rb, 1, none⟩ = some (.int .i64 p)
  c2 : w.cell? ⟨rb, 2, none⟩ = some (.int .i64 er)
  f1 : w.frozen? ⟨rb, 1, none⟩ = false
  f2 : w.frozen? ⟨rb, 2, none⟩ = false
  bs : BS w A n cc l
  le : p ≤ n
  ne : 0 < n → ∀ b off, A = some ⟨b, off, none⟩ → b ≠ rb
  lt : rb < w.heap.size
  adr : ∃ a, A = some a
/-- The reader has gone on; else all is as it was. -/
structure GoE (rb : Nat) (q : Nat) (er : Int) (w w' : World) : Prop where
  os : w'.os = w.os
  tape : w'.tape = w.tape
  output : w'.output = w.output
  size : w.heap.size ≤ w'.heap.size
  block : ∀ k, k < w.heap.size → k ≠ rb → w'.heap[k]? = w.heap[k]?
  c0 : w'.cell? ⟨rb, 0, none⟩ = w.cell? ⟨rb, 0, none⟩
  c1 : w'.cell? ⟨rb, 1, none⟩ = some (.int .i64 q)
  c2 : w'.cell? ⟨rb, 2, none⟩ = some (.int .i64 er)
  more : ∀ j, 3 ≤ j → w'.cell? ⟨rb, j, none⟩ = w.cell? ⟨rb, j, none⟩
  frozen : ∀ j, w'.frozen? ⟨rb, j, none⟩ = w.frozen? ⟨rb, j, none⟩
section
variable {w w1 w2 w' : World} {rb : Nat} {A : Option Addr} {n cc : Nat} {l : List UInt8} {p q : Nat} {er er' : Int}
theorem GoE.bytes (g : GoE rb q er' w w') (h : RE w rb A n cc l p er) : Sl w' 1 A n (fun j => .int .u8 (byt l j : Int)) := fun hn => by
  obtain ⟨b, off, e, hlt, hc⟩ := h.bs.bytes hn
  exact ⟨b, off, e, Nat.lt_of_lt_of_le hlt g.size, fun j hj => (World.cell?_of_block (a := ⟨b, off + j, none⟩) (g.block b hlt (h.ne hn b off e))).trans (hc j hj)⟩
theorem GoE.re (g : GoE rb q er' w w') (h : RE w rb A n cc l p er) (hq : q ≤ n) : RE w' rb A n cc l q er' where
  c0 := g.c0.trans h.c0
  c1 := g.c1
  c2 := g.c2
  f1 := (g.frozen 1).trans h.f1
  f2 := (g.frozen 2).trans h.f2
  bs := { h.bs with bytes := g.bytes h }
  le := hq
  ne := h.ne
  lt := Nat.lt_of_lt_of_le h.lt g.size
  adr := h.adr
theorem GoE.refl (h : RE w rb A n cc l p er) : GoE rb p er w w := ⟨rfl, rfl, rfl, Nat.le_refl _, fun _ _ _ => rfl, rfl, h.c1, h.c2, fun _ _ => rfl, fun _ => rfl⟩
theorem GoE.then (h : GoE rb p er w w1) (k : GoE rb q er' w1 w2) : GoE rb q er' w w2 :=
  ⟨k.os.trans h.os, k.tape.trans h.tape, k.output.trans h.output, Nat.le_trans h.size k.size, fun j hl hj => (k.block j (Nat.lt_of_lt_of_le hl h.size) hj).trans (h.block j hl hj), k.c0.trans h.c0, k.c1, k.c2, fun j hj => (k.more j hj).trans (h.more j hj), fun j => (k.frozen j).trans (h.frozen j)⟩
theorem GoE.behind (h : GoE rb p er w w1) (hr : rb < w.heap.size) (k : Below w.heap.size w1 w2) : GoE rb p er w w2 :=
  ⟨k.os.trans h.os, k.tape.trans h.tape, k.output.trans h.output, Nat.le_trans h.size k.size, fun j hl hj => (k.block j hl).trans (h.block j hl hj), (k.cell (p := ⟨rb, 0, none⟩) hr).trans h.c0, (k.cell (p := ⟨rb, 1, none⟩) hr).trans h.c1, (k.cell (p := ⟨rb, 2, none⟩) hr).trans h.c2, fun j hj => (k.cell (p := ⟨rb, j, none⟩) hr).trans (h.more j hj), fun j => (k.frozen (p := ⟨rb, j, none⟩) hr).trans (h.frozen j)⟩
theorem GoE.ahead (k : Below w.heap.size w w1) (hr : rb < w.heap.size) (h : GoE rb p er w1 w2) : GoE rb p er w w2 :=
  ⟨h.os.trans k.os, h.tape.trans k.tape, h.output.trans k.output, Nat.le_trans k.size h.size, fun j hl hj => (h.block j (Nat.lt_of_lt_of_le hl k.size) hj).trans (k.block j hl), h.c0.trans (k.cell (p := ⟨rb, 0, none⟩) hr), h.c1, h.c2, fun j hj => (h.more j hj).trans (k.cell (p := ⟨rb, j, none⟩) hr), fun j => (h.frozen j).trans (k.frozen (p := ⟨rb, j, none⟩) hr)⟩
theorem ad12 (rb : Nat) : (⟨rb, 1, none⟩ : Addr) ≠ ⟨rb, 2, none⟩ := fun e => by injection e with _ e _; exact absurd e (by decide)
theorem ad21 (rb : Nat) : (⟨rb, 2, none⟩ : Addr) ≠ ⟨rb, 1, none⟩ := fun e => by injection e with _ e _; exact absurd e (by decide)
theorem ad1j (rb : Nat) {j : Nat} (hj : 3 ≤ j) : (⟨rb, 1, none⟩ : Addr) ≠ ⟨rb, j, none⟩ := fun e => by injection e with _ e _; omega
theorem ad2j (rb : Nat) {j : Nat} (hj : 3 ≤ j) : (⟨rb, 2, none⟩ : Addr) ≠ ⟨rb, j, none⟩ := fun e => by injection e with _ e _; omega
theorem GoE.store1 {u : Value} (h1 : w.cell? ⟨rb, 1, none⟩ = some u) (h2 : w.cell? ⟨rb, 2, none⟩ = some (.int .i64 er)) (z : Int) (hz : z = (q : Int)) : GoE rb q er w (w.setCell ⟨rb, 1, none⟩ (.int .i64 z)) := by
  subst hz
  refine ⟨rfl, rfl, rfl, by simp, fun k _ hk => heap_setCell_other _ _ k _ hk, World.cell?_setCell_other _ _ _ _ (by simp), World.cell?_setCell_same _ _ _ h1, (World.cell?_setCell_other _ _ _ _ (ad12 rb)).trans h2, fun j hj => World.cell?_setCell_other _ _ _ _ (ad1j rb hj), fun j => World.frozen?_setCell _ _ _ _⟩
theorem GoE.store2 {u : Value} (h1 : w.cell? ⟨rb, 1, none⟩ = some (.int .i64 q)) (h2 : w.cell? ⟨rb, 2, none⟩ = some u) : GoE rb q er' w (w.setCell ⟨rb, 2, none⟩ (.int .i64 er')) := by
  refine ⟨rfl, rfl, rfl, by simp, fun k _ hk => heap_setCell_other _ _ k _ hk, World.cell?_setCell_other _ _ _ _ (by simp), (World.cell?_setCell_other _ _ _ _ (ad21 rb)).trans h1, World.cell?_setCell_same _ _ _ h2, fun j hj => World.cell?_setCell_other _ _ _ _ (ad2j rb hj), fun j => World.frozen?_setCell _ _ _ _⟩
/-- The place and the fault are stored. -/
theorem GoE.store {u v : Value} (h1 : w.cell? ⟨rb, 1, none⟩ = some u) (h2 : w.cell? ⟨rb, 2, none⟩ = some v) (z : Int) (hz : z = (q : Int)) : GoE rb q er' w ((w.setCell ⟨rb, 1, none⟩ (.int .i64 z)).setCell ⟨rb, 2, none⟩ (.int .i64 er')) := by
  subst hz
  refine ⟨rfl, rfl, rfl, by simp, fun k _ hk => (heap_setCell_other _ _ k _ hk).trans (heap_setCell_other _ _ k _ hk), (World.cell?_setCell_other _ _ _ _ (by simp)).trans (World.cell?_setCell_other _ _ _ _ (by simp)), (World.cell?_setCell_other _ _ _ _ (ad21 rb)).trans (World.cell?_setCell_same _ _ _ h1),
    World.cell?_setCell_same _ _ _ ((World.cell?_setCell_other _ _ _ _ (ad12 rb)).trans h2), fun j hj => (World.cell?_setCell_other _ _ _ _ (ad2j rb hj)).trans (World.cell?_setCell_other _ _ _ _ (ad1j rb hj)), fun j => (World.frozen?_setCell _ _ _ _).trans (World.frozen?_setCell _ _ _ _)⟩
theorem GoE.drew (h : GoE rb q er w w') : GoE rb q er w w'.drew := ⟨h.os, h.tape, h.output, h.size, h.block, h.c0, h.c1, h.c2, h.more, h.frozen⟩
theorem GoE.below (g : GoE rb q er w w') {B : Nat} (hB : B ≤ rb) (hw : B ≤ w.heap.size) : Below B w w' := ⟨g.os, g.tape, g.output, g.size, fun k hk => g.block k (by omega) (by omega)⟩
theorem NodesIn.go {v : List Node} {B : Nat} {A' : Option Addr} (h : NodesIn w A' v) (f : Far B A' v.length) (hr : rb < B) (g : GoE rb q er w w') : NodesIn w' A' v := fun hn => by
  obtain ⟨b, off, e, hlt, hc⟩ := h hn
  have hb := f hn b off e
  have hbl := g.block b hlt (by omega)
  refine ⟨b, off, e, Nat.lt_of_lt_of_le hlt g.size, fun k hk => ?_⟩
  obtain ⟨c0, c1, c2, c3, c4⟩ := hc k hk
  exact ⟨(World.cell?_of_block hbl).trans c0, (World.cell?_of_block hbl).trans c1, (World.cell?_of_block hbl).trans c2, (World.cell?_of_block hbl).trans c3, (World.cell?_of_block hbl).trans c4⟩
/-- A value was read: its nodes, the reader behind it. -/
def VNx (v : List Node) (rb q : Nat) (er : Int) (w : World) (e : Ending) (w' : World) : Prop := ∃ A' c', e = .returned (.slice A' v.length c') ∧ NodesIn w' A' v ∧ Far w.heap.size A' v.length ∧ GoE rb q er w w'
theorem bs_drop {a : Addr} (h : BS w (some a) n cc l) (hp : p ≤ n) : BS w (some (a.add p)) (n - p) (cc - p) (l.drop p) where
  len := by rw [List.length_drop, h.len]
  bytes := fun hn => by
    obtain ⟨b, off, e, hlt, hc⟩ := h.bytes (by omega)
    injection e with e
    subst e
    refine ⟨b, off + p, by simp [Addr.add], hlt, fun j hj => ?_⟩
    show w.cell? ⟨b, off + p + j, none⟩ = some (.int .u8 (byt (l.drop p) j : Int))
    rw [byt_drop, Nat.add_assoc]
    exact hc (p + j) (by omega)
  cap := by have := h.cap; omega
  capb := by have := h.capb; omega
  nil := fun e => by cases e
  small := by have := h.small; omega
/-- What is left of bytes, from a place on, as a slice of them stands. -/
theorem bs_sub {a : Addr} (h : BS w (some a) n cc l) (hp : p ≤ n) : BS w (if cc = p then some a else some (a.add p)) (n - p) (cc - p) (l.drop p) := by
  by_cases hc : cc = p
  · have hn : n = p := by have := h.cap; omega
    rw [if_pos hc, hn, hc, Nat.sub_self]
    exact { len := by rw [List.length_drop, h.len]; omega, bytes := fun hn => absurd hn (by omega), cap := Nat.le_refl _, capb := by decide, nil := fun _ => rfl, small := by decide }
  · rw [if_neg hc]
    exact bs_drop h hp
theorem sub_some {a : Addr} : ∃ a', (if cc = p then some a else some (a.add p)) = some a' := by
  split
  · exact ⟨_, rfl⟩
  · exact ⟨_, rfl⟩
theorem bs_end (h : BS w A n cc l) (hp : p = n) : BS w A 0 0 (l.drop p) where
  len := by rw [List.length_drop, h.len]; omega
  bytes := fun hn => absurd hn (by omega)
  cap := Nat.le_refl _
  capb := by decide
  nil := fun _ => rfl
  small := by decide
end
theorem cintS_any {w : World} {A : Option Addr} {n cc : Nat} {l : List UInt8} (h : BS w A n cc l) :
    Calls Tryz.prog 13 #[.slice A n cc] w (RetB (.tuple #[.int .i64 (intS l).1, .int .i64 (intS l).2.1, .int .i64 (intS l).2.2]) w) := cint_any h
/-! ### One thing behind the other, each only if it is there and nothing was wrong -/
def stV {α : Type} (z : α) (is : Bool) (er : Int) (r : α × Nat × Int) : α := if is = true ∧ er = 0 then r.1 else z
def stA {α : Type} (is : Bool) (er : Int) (p : Nat) (r : α × Nat × Int) : Nat := if is = true ∧ er = 0 then p + r.2.1 else p
def stE {α : Type} (is : Bool) (er : Int) (r : α × Nat × Int) : Int := if is = true ∧ er = 0 then r.2.2 else er
section
variable {α : Type} {z : α} {is : Bool} {er : Int} {p : Nat} {r : α × Nat × Int}
theorem stV_no (h : ¬ (is = true ∧ er = 0)) : stV z is er r = z := if_neg h
theorem stA_no (h : ¬ (is = true ∧ er = 0)) : stA is er p r = p := if_neg h
theorem stE_no (h : ¬ (is = true ∧ er = 0)) : stE is er r = er := if_neg h
theorem stV_yes (h : is = true ∧ er = 0) : stV z is er r = r.1 := if_pos h
theorem stA_yes (h : is = true ∧ er = 0) : stA is er p r = p + r.2.1 := if_pos h
theorem stE_yes (h : is = true ∧ er = 0) : stE is er r = r.2.2 := if_pos h
theorem stA_le {n : Nat} (hp : p ≤ n) (hr : r.2.1 ≤ n - p) : stA is er p r ≤ n := by
  by_cases h : is = true ∧ er = 0
  · rw [stA_yes h]; omega
  · rw [stA_no h]; exact hp
end
/-! ### The parts of an event -/
def wI (l : List UInt8) (p : Nat) : Nat × Nat × Int := (stV 0 (idK (byt l p)) 0 (numS (l.drop (p + 1))), stA (idK (byt l p)) 0 (p + 1) (numS (l.drop (p + 1))), stE (idK (byt l p)) 0 (numS (l.drop (p + 1))))
def wT (l : List UInt8) (p : Nat) : List UInt8 × Nat × Int := (stV [] (nameK (byt l p)) (wI l p).2.2 (textS (l.drop (wI l p).2.1)), stA (nameK (byt l p)) (wI l p).2.2 (wI l p).2.1 (textS (l.drop (wI l p).2.1)), stE (nameK (byt l p)) (wI l p).2.2 (textS (l.drop (wI l p).2.1)))
def wV (l : List UInt8) (p : Nat) : List Node × Nat × Int := (stV [] (valueK (byt l p)) (wT l p).2.2 (vlS (l.drop (wT l p).2.1)), stA (valueK (byt l p)) (wT l p).2.2 (wT l p).2.1 (vlS (l.drop (wT l p).2.1)), stE (valueK (byt l p)) (wT l p).2.2 (vlS (l.drop (wT l p).2.1)))
def wN (l : List UInt8) (p : Nat) : Int × Nat × Int := (stV 0 (intK (byt l p)) (wV l p).2.2 (intS (l.drop (wV l p).2.1)), stA (intK (byt l p)) (wV l p).2.2 (wV l p).2.1 (intS (l.drop (wV l p).2.1)), stE (intK (byt l p)) (wV l p).2.2 (intS (l.drop (wV l p).2.1)))
section
variable {l : List UInt8} {p : Nat}
theorem pI_no {k : Nat} (h : idK k = false) (l : List UInt8) : pI k l = (0, 0, 0) := if_neg (by rw [h]; decide)
theorem pI_yes {k : Nat} (h : idK k = true) (l : List UInt8) : pI k l = numS l := if_pos h
theorem pT_no {k : Nat} (h : nameK k = false) (l : List UInt8) : pT k l = ([], 0, 0) := if_neg (by rw [h]; decide)
theorem pT_yes {k : Nat} (h : nameK k = true) (l : List UInt8) : pT k l = textS l := if_pos h
theorem pV_no {k : Nat} (h : valueK k = false) (l : List UInt8) : pV k l = ([], 0, 0) := if_neg (by rw [h]; decide)
theorem pV_yes {k : Nat} (h : valueK k = true) (l : List UInt8) : pV k l = vlS l := if_pos h
theorem pN_no {k : Nat} (h : intK k = false) (l : List UInt8) : pN k l = (0, 0, 0) := if_neg (by rw [h]; decide)
theorem pN_yes {k : Nat} (h : intK k = true) (l : List UInt8) : pN k l = intS l := if_pos h
theorem eA_def : eA l p = p + 1 + (pI (byt l p) (l.drop (p + 1))).2.1 := rfl
theorem eB_def : eB l p = eA l p + (pT (byt l p) (l.drop (eA l p))).2.1 := rfl
theorem eC_def : eC l p = eB l p + (pV (byt l p) (l.drop (eB l p))).2.1 := rfl
theorem eD_def : eD l p = eC l p + (pN (byt l p) (l.drop (eC l p))).2.1 := rfl
theorem wI_eq : wI l p = ((pI (byt l p) (l.drop (p + 1))).1, eA l p, (pI (byt l p) (l.drop (p + 1))).2.2) := by
  unfold wI
  rw [eA_def]
  cases h : idK (byt l p)
  · rw [stV_no (by simp), stA_no (by simp), stE_no (by simp), pI_no h]
    simp only [Nat.add_zero]
  · rw [stV_yes ⟨rfl, rfl⟩, stA_yes ⟨rfl, rfl⟩, stE_yes ⟨rfl, rfl⟩, pI_yes h]
theorem wT_eq (h1 : (pI (byt l p) (l.drop (p + 1))).2.2 = 0) : wT l p = ((pT (byt l p) (l.drop (eA l p))).1, eB l p, (pT (byt l p) (l.drop (eA l p))).2.2) := by
  unfold wT
  rw [wI_eq, h1, eB_def]
  dsimp only
  cases h : nameK (byt l p)
  · rw [stV_no (by simp), stA_no (by simp), stE_no (by simp), pT_no h]
    simp only [Nat.add_zero]
  · rw [stV_yes ⟨rfl, rfl⟩, stA_yes ⟨rfl, rfl⟩, stE_yes ⟨rfl, rfl⟩, pT_yes h]
theorem wT_no (h1 : (wI l p).2.2 ≠ 0) : wT l p = ([], (wI l p).2.1, (wI l p).2.2) := by
  unfold wT
  rw [stV_no (fun c => h1 c.2), stA_no (fun c => h1 c.2), stE_no (fun c => h1 c.2)]
theorem wV_eq (h1 : (pI (byt l p) (l.drop (p + 1))).2.2 = 0) (h2 : (pT (byt l p) (l.drop (eA l p))).2.2 = 0) : wV l p = ((pV (byt l p) (l.drop (eB l p))).1, eC l p, (pV (byt l p) (l.drop (eB l p))).2.2) := by
  unfold wV
  rw [wT_eq h1, h2, eC_def]
  dsimp only
  cases h : valueK (byt l p)
  · rw [stV_no (by simp), stA_no (by simp), stE_no (by simp), pV_no h]
    simp only [Nat.add_zero]
  · rw [stV_yes ⟨rfl, rfl⟩, stA_yes ⟨rfl, rfl⟩, stE_yes ⟨rfl, rfl⟩, pV_yes h]
theorem wV_no (h1 : (wT l p).2.2 ≠ 0) : wV l p = ([], (wT l p).2.1, (wT l p).2.2) := by
  unfold wV
  rw [stV_no (fun c => h1 c.2), stA_no (fun c => h1 c.2), stE_no (fun c => h1 c.2)]
theorem wN_eq (h1 : (pI (byt l p) (l.drop (p + 1))).2.2 = 0) (h2 : (pT (byt l p) (l.drop (eA l p))).2.2 = 0) (h3 : (pV (byt l p) (l.drop (eB l p))).2.2 = 0) : wN l p = ((pN (byt l p) (l.drop (eC l p))).1, eD l p, (pN (byt l p) (l.drop (eC l p))).2.2) := by
  unfold wN
  rw [wV_eq h1 h2, h3, eD_def]
  dsimp only
  cases h : intK (byt l p)
  · rw [stV_no (by simp), stA_no (by simp), stE_no (by simp), pN_no h]
    simp only [Nat.add_zero]
  · rw [stV_yes ⟨rfl, rfl⟩, stA_yes ⟨rfl, rfl⟩, stE_yes ⟨rfl, rfl⟩, pN_yes h]
theorem wN_no (h1 : (wV l p).2.2 ≠ 0) : wN l p = (0, (wV l p).2.1, (wV l p).2.2) := by
  unfold wN
  rw [stV_no (fun c => h1 c.2), stA_no (fun c => h1 c.2), stE_no (fun c => h1 c.2)]
/-- Something was wrong on the way. -/
theorem evt_bad (h : ¬ l.length ≤ p) (hk : ¬ (byt l p < 1 ∨ 12 < byt l p)) (he : (wN l p).2.2 ≠ 0) : evtS l p = (zE, (wN l p).2.1, (wN l p).2.2) := by
  by_cases h1 : (pI (byt l p) (l.drop (p + 1))).2.2 = 0
  · by_cases h2 : (pT (byt l p) (l.drop (eA l p))).2.2 = 0
    · by_cases h3 : (pV (byt l p) (l.drop (eB l p))).2.2 = 0
      · rw [wN_eq h1 h2 h3] at he ⊢
        exact ev_int h hk h1 h2 h3 he
      · have e := wV_eq h1 h2
        have hne : (wV l p).2.2 ≠ 0 := by rw [e]; exact h3
        rw [wN_no hne, e, ev_value h hk h1 h2 h3]
    · have e := wT_eq h1
      have hne : (wT l p).2.2 ≠ 0 := by rw [e]; exact h2
      have hne2 : (wV l p).2.2 ≠ 0 := by rw [wV_no hne]; exact hne
      rw [wN_no hne2, wV_no hne, e, ev_name h hk h1 h2]
  · have e := @wI_eq l p
    have hne : (wI l p).2.2 ≠ 0 := by rw [e]; exact h1
    have hne2 : (wT l p).2.2 ≠ 0 := by rw [wT_no hne]; exact hne
    have hne3 : (wV l p).2.2 ≠ 0 := by rw [wV_no hne2]; exact hne2
    rw [wN_no hne3, wV_no hne2, wT_no hne, e, ev_id h hk h1]
/-- Nothing was. -/
theorem wN_all (he : (wN l p).2.2 = 0) : (pI (byt l p) (l.drop (p + 1))).2.2 = 0 ∧ (pT (byt l p) (l.drop (eA l p))).2.2 = 0 ∧ (pV (byt l p) (l.drop (eB l p))).2.2 = 0 ∧ (pN (byt l p) (l.drop (eC l p))).2.2 = 0 := by
  have h3 : (wV l p).2.2 = 0 := Decidable.byContradiction fun c => c (by rw [wN_no c] at he; exact he)
  have h2 : (wT l p).2.2 = 0 := Decidable.byContradiction fun c => c (by rw [wV_no c] at h3; exact h3)
  have h1 : (wI l p).2.2 = 0 := Decidable.byContradiction fun c => c (by rw [wT_no c] at h2; exact h2)
  have g1 : (pI (byt l p) (l.drop (p + 1))).2.2 = 0 := by rw [wI_eq] at h1; exact h1
  have g2 : (pT (byt l p) (l.drop (eA l p))).2.2 = 0 := by rw [wT_eq g1] at h2; exact h2
  have g3 : (pV (byt l p) (l.drop (eB l p))).2.2 = 0 := by rw [wV_eq g1 g2] at h3; exact h3
  exact ⟨g1, g2, g3, by rw [wN_eq g1 g2 g3] at he; exact he⟩
theorem evX_eq (he : (wN l p).2.2 = 0) : evX l p = ⟨byt l p, (Nat.min (wI l p).1 500 : Nat), (wT l p).1, (wV l p).1, (wN l p).1⟩ ∧ (wN l p).2.1 = eD l p := by
  obtain ⟨h1, h2, h3, h4⟩ := wN_all he
  rw [wN_eq h1 h2 h3, wV_eq h1 h2, wT_eq h1, wI_eq]
  exact ⟨rfl, rfl⟩
theorem evt_end (h : ¬ l.length ≤ p) (hk : ¬ (byt l p < 1 ∨ 12 < byt l p)) (he : (wN l p).2.2 = 0) : evtS l p = if rightE (evX l p) then (evX l p, (wN l p).2.1, 0) else (zE, p, 3) := by
  obtain ⟨h1, h2, h3, h4⟩ := wN_all he
  rw [(evX_eq he).2]
  cases hr : rightE (evX l p) with
  | true => rw [evt_ok h hk h1 h2 h3 h4 hr]; rfl
  | false => rw [ev_wrong h hk h1 h2 h3 h4 hr]; rfl
theorem wI_le (h : p < l.length) : (wI l p).2.1 ≤ l.length := by rw [wI_eq]; exact eA_le h
theorem wT_le (h : p < l.length) : (wT l p).2.1 ≤ l.length := by
  by_cases c : (wI l p).2.2 = 0
  · rw [wT_eq (by rw [wI_eq] at c; exact c)]; exact eB_le h
  · rw [wT_no c]; exact wI_le h
theorem wV_le (h : p < l.length) : (wV l p).2.1 ≤ l.length := by
  unfold wV
  refine stA_le (wT_le h) ?_
  have := (valR (l.drop (wT l p).2.1)).to
  rw [List.length_drop] at this
  exact this
theorem wN_le (h : p < l.length) : (wN l p).2.1 ≤ l.length := by
  unfold wN
  refine stA_le (wV_le h) ?_
  have := int_pos (l.drop (wV l p).2.1)
  rw [List.length_drop] at this
  exact this
end
end Go.Proofs.YtaeophaecclnbaaGreatDoor
namespace Go.Proofs.YtaeophaecclnbaaGreatDoor
open Go.RowKit

def evV (x : Ev) (A : Option Addr) (c : Nat) : Value := .agg #[.int .u8 (x.kind : Int), .int .i64 x.id, .string (strB x.name), .slice A x.value.length c, .int .i64 x.int]
def atE (v : List Ev) (k : Nat) : Ev := v.getD k zE
/-- An event at a place. -/
structure EvAt (w : World) (b o : Nat) (x : Ev) : Prop where
  c0 : w.cell? ⟨b, o, none⟩ = some (.int .u8 (x.kind : Int))
  c1 : w.cell? ⟨b, o + 1, none⟩ = some (.int .i64 x.id)
  c2 : w.cell? ⟨b, o + 2, none⟩ = some (.string (strB x.name))
  c3 : ∃ A c, w.cell? ⟨b, o + 3, none⟩ = some (.slice A x.value.length c) ∧ NodesIn w A x.value
  c4 : w.cell? ⟨b, o + 4, none⟩ = some (.int .i64 x.int)
theorem EvAt.below {w w' : World} {b o : Nat} {x : Ev} (h : EvAt w b o x) (hb : Below w.heap.size w w') (hl : b < w.heap.size) : EvAt w' b o x where
  c0 := (hb.cell (p := ⟨b, o, none⟩) hl).trans h.c0
  c1 := (hb.cell (p := ⟨b, o + 1, none⟩) hl).trans h.c1
  c2 := (hb.cell (p := ⟨b, o + 2, none⟩) hl).trans h.c2
  c3 := by obtain ⟨A, c, h1, h2⟩ := h.c3; exact ⟨A, c, (hb.cell (p := ⟨b, o + 3, none⟩) hl).trans h1, h2.keep hb⟩
  c4 := (hb.cell (p := ⟨b, o + 4, none⟩) hl).trans h.c4
def EvsIn (w : World) (A : Option Addr) (v : List Ev) : Prop :=
  0 < v.length → ∃ b off : Nat, A = some ⟨b, off, none⟩ ∧ b < w.heap.size ∧ ∀ k, k < v.length → EvAt w b (off + k * 5) (atE v k)
theorem EvsIn.nil {w : World} {A : Option Addr} : EvsIn w A [] := fun h => absurd h (by simp)
theorem EvsIn.keep {w w' : World} {A : Option Addr} {v : List Ev} (h : EvsIn w A v) (hb : Below w.heap.size w w') : EvsIn w' A v := fun hn => by
  obtain ⟨b, off, e, hlt, hc⟩ := h hn
  exact ⟨b, off, e, Nat.lt_of_lt_of_le hlt hb.size, fun k hk => (hc k hk).below hb hlt⟩
/-- An event with its value's row. -/
structure EvM where
  x : Ev
  A : Option Addr
  c : Nat
def EvM.cells (e : EvM) : List Value := [.int .u8 (e.x.kind : Int), .int .i64 e.x.id, .string (strB e.x.name), .slice e.A e.x.value.length e.c, .int .i64 e.x.int]
def zM : EvM := ⟨zE, none, 0⟩
def evCells (c : List EvM) : List Value := c.flatMap EvM.cells
theorem evCells_snoc (c : List EvM) (e : EvM) : evCells (c ++ [e]) = evCells c ++ e.cells := by simp [evCells]
theorem evCells_length (c : List EvM) : (evCells c).length = c.length * 5 := by
  induction c with
  | nil => rfl
  | cons x c ih => simp only [evCells, List.flatMap_cons, List.length_append, List.length_cons] at *; rw [ih]; simp [EvM.cells]; omega
theorem evCells_at (c : List EvM) (k j : Nat) (hk : k < c.length) (hj : j < 5) : (evCells c).getD (k * 5 + j) (.int .i64 0) = (c.getD k zM).cells.getD j (.int .i64 0) := by
  induction c generalizing k with
  | nil => exact absurd hk (by simp)
  | cons x c ih =>
    have e : evCells (x :: c) = x.cells ++ evCells c := by simp [evCells]
    rw [e]
    have hl : x.cells.length = 5 := rfl
    cases k with
    | zero =>
      rw [List.getD_eq_getElem?_getD, List.getElem?_append_left (by omega)]
      simp [List.getD_eq_getElem?_getD]
    | succ k =>
      rw [List.getD_eq_getElem?_getD, List.getElem?_append_right (by omega), hl, show (k + 1) * 5 + j - 5 = k * 5 + j by omega, ← List.getD_eq_getElem?_getD, ih k (by simpa using hk)]
      simp
def evsOf (c : List EvM) : List Ev := c.map (·.x)
theorem evsOf_len (c : List EvM) : (evsOf c).length = c.length := by simp [evsOf]
theorem evsOf_at (c : List EvM) (k : Nat) : atE (evsOf c) k = (c.getD k zM).x := by
  unfold atE evsOf
  rw [List.getD_eq_getElem?_getD, List.getD_eq_getElem?_getD, List.getElem?_map]
  cases c[k]? <;> rfl
theorem getM_mem {c : List EvM} {k : Nat} (hk : k < c.length) : c.getD k zM ∈ c := by
  rw [List.getD_eq_getElem?_getD, List.getElem?_eq_getElem hk]
  exact List.getElem_mem hk
/-- A row of the call's own that holds events, each with its value behind a block. -/
structure EvRow (w : World) (base B : Nat) (A : Option Addr) (cap : Nat) (c : List EvM) : Prop where
  own : w.ownsRow base 109 5 (.slice A c.length cap) c.length (evCells c)
  val : ∀ e, e ∈ c → NodesIn w e.A e.x.value ∧ Far B e.A e.x.value.length
  ne : ∀ e, e ∈ c → 0 < e.x.value.length → ∀ b off q qo, e.A = some ⟨b, off, none⟩ → A = some ⟨q, qo, none⟩ → b ≠ q
theorem EvRow.evs {w : World} {base B cap : Nat} {A : Option Addr} {c : List EvM} (h : EvRow w base B A cap c) : EvsIn w A (evsOf c) := fun hn => by
  rw [evsOf_len] at hn
  obtain ⟨b, off, hA, hlt, hc⟩ := Sl.of_own (d := .int .i64 0) h.own (by omega)
  refine ⟨b, off, hA, hlt, fun k hk => ?_⟩
  rw [evsOf_len] at hk
  rw [evsOf_at]
  have hv := (h.val _ (getM_mem hk)).1
  have g : ∀ j, j < 5 → w.cell? ⟨b, off + (k * 5 + j), none⟩ = some ((c.getD k zM).cells.getD j (.int .i64 0)) := fun j hj => by
    rw [hc (k * 5 + j) (by omega)]
    exact congrArg some (evCells_at c k j hk hj)
  exact ⟨g 0 (by omega), by rw [Nat.add_assoc]; exact g 1 (by omega), by rw [Nat.add_assoc]; exact g 2 (by omega), ⟨_, _, by rw [Nat.add_assoc]; exact g 3 (by omega), hv⟩, by rw [Nat.add_assoc]; exact g 4 (by omega)⟩
theorem EvRow.start {w : World} {base B : Nat} : EvRow w base B none 0 [] := ⟨⟨rfl, .inl ⟨rfl, rfl⟩⟩, fun e he => absurd he (by simp), fun e he => absurd he (by simp)⟩
theorem EvRow.go {w w' : World} {base B cap rb q : Nat} {er : Int} {A : Option Addr} {c : List EvM} (h : EvRow w base B A cap c) (hr : rb < base) (hB : rb < B) (g : GoE rb q er w w') : EvRow w' base B A cap c :=
  ⟨own_kept h.own fun k hk hl => g.block k hl (by omega), fun e he => ⟨(h.val e he).1.go (h.val e he).2 hB g, (h.val e he).2⟩, h.ne⟩
theorem EvRow.below {w w' : World} {base B cap : Nat} {A : Option Addr} {c : List EvM} (h : EvRow w base B A cap c) (hb : Below w.heap.size w w') : EvRow w' base B A cap c :=
  ⟨own_ndb h.own hb, fun e he => ⟨(h.val e he).1.keep hb, (h.val e he).2⟩, h.ne⟩
theorem own_mono {w : World} {base base' e sz n : Nat} {v : Value} {xs : List Value} (h : w.ownsRow base e sz v n xs) (hb : base' ≤ base) : w.ownsRow base' e sz v n xs := by
  obtain ⟨h1, h2 | ⟨g, cap, cur, a, b, r⟩⟩ := h
  · exact ⟨h1, .inl h2⟩
  · exact ⟨h1, .inr ⟨g, cap, cur, a, Nat.le_trans hb b, r⟩⟩
theorem EvRow.mono {w : World} {base B base' B' cap : Nat} {A : Option Addr} {c : List EvM} (h : EvRow w base B A cap c) (h1 : base' ≤ base) (h2 : B' ≤ B) : EvRow w base' B' A cap c :=
  ⟨own_mono h.own h1, fun e he => ⟨(h.val e he).1, (h.val e he).2.mono h2⟩, h.ne⟩
theorem own_at {w : World} {base e sz n cap : Nat} {A : Option Addr} {xs : List Value} (h : w.ownsRow base e sz (.slice A n cap) n xs) : (A = none ∧ n = 0) ∨ ∃ q, A = some ⟨q, 0, none⟩ ∧ base ≤ q ∧ q < w.heap.size := by
  obtain ⟨_, ⟨hv, h0⟩ | ⟨g, cap', cur, hv, hb, hg, _⟩⟩ := h
  · injection hv with h1 _ _
    exact .inl ⟨h1, h0⟩
  · injection hv with h1 _ _
    exact .inr ⟨g, h1, hb, (Array.getElem?_eq_some_iff.1 hg).1⟩
theorem NodesIn.blocks {w w' : World} {A : Option Addr} {v : List Node} (h : NodesIn w A v) (hs : w.heap.size ≤ w'.heap.size) (hk : 0 < v.length → ∀ b off, A = some ⟨b, off, none⟩ → b < w.heap.size → w'.heap[b]? = w.heap[b]?) : NodesIn w' A v := fun hn => by
  obtain ⟨b, off, e, hlt, hc⟩ := h hn
  have hbl := hk hn b off e hlt
  refine ⟨b, off, e, Nat.lt_of_lt_of_le hlt hs, fun j hj => ?_⟩
  obtain ⟨c0, c1, c2, c3, c4⟩ := hc j hj
  exact ⟨(World.cell?_of_block hbl).trans c0, (World.cell?_of_block hbl).trans c1, (World.cell?_of_block hbl).trans c2, (World.cell?_of_block hbl).trans c3, (World.cell?_of_block hbl).trans c4⟩
/-- One event more. -/
theorem EvRow.app {W W2 w3 : World} {B cap g cap' cc1 : Nat} {A' A1 : Option Addr} {c : List EvM} {x : Ev} (h : EvRow W B B A' cap c) (hs : W.heap.size ≤ W2.heap.size) (hkeep : ∀ k, B ≤ k → k < W.heap.size → W2.heap[k]? = W.heap[k]?) (hn : NodesIn W2 A1 x.value) (hf : Far W.heap.size A1 x.value.length) (hBW : B ≤ W.heap.size)
    (hgrow : W2.grownBy w3 (Value.slice A' c.length cap).ownBlock) (hown : w3.ownsRow B 109 5 (.slice (some ⟨g, 0, none⟩) (c.length + 1) cap') (c.length + 1) (evCells c ++ EvM.cells ⟨x, A1, cc1⟩)) (hg : (Value.slice A' c.length cap).ownBlock = some g ∨ g = W2.heap.size) :
    EvRow w3 B B (some ⟨g, 0, none⟩) cap' (c ++ [⟨x, A1, cc1⟩]) := by
  have hob : ∀ q, (Value.slice A' c.length cap).ownBlock = some q → ∃ qo, A' = some ⟨q, qo, none⟩ ∧ q < W.heap.size := fun q hq => by
    rcases own_at h.own with ⟨rfl, _⟩ | ⟨q', rfl, _, hlt⟩
    · simp [Value.ownBlock] at hq
    · simp [Value.ownBlock] at hq
      subst hq
      exact ⟨0, rfl, hlt⟩
  refine ⟨by rw [evCells_snoc, List.length_append]; exact hown, fun e he => ?_, fun e he hl b off q qo e1 e2 => ?_⟩
  · rcases List.mem_append.1 he with he | he
    · obtain ⟨v1, v2⟩ := h.val e he
      refine ⟨v1.blocks (Nat.le_trans hs hgrow.size) fun hl b off e1 hlt => ?_, v2⟩
      rw [hgrow.block b (Nat.lt_of_lt_of_le hlt hs) (fun c => by
        obtain ⟨qo, e2, _⟩ := hob b c.symm
        exact h.ne e he hl b off b qo e1 e2 rfl)]
      exact hkeep b (v2 hl b off e1) hlt
    · rw [List.mem_singleton.1 he]
      refine ⟨hn.blocks hgrow.size fun hl b off e1 hlt => hgrow.block b hlt (fun c => ?_), hf.mono hBW⟩
      obtain ⟨qo, _, hq⟩ := hob b c.symm
      have := hf hl b off e1
      omega
  · injection e2 with e2
    injection e2 with e2 _ _
    subst e2
    rcases List.mem_append.1 he with he | he
    · obtain ⟨v1, v2⟩ := h.val e he
      obtain ⟨b', off', e', hlt, _⟩ := v1 hl
      rw [e1] at e'
      injection e' with e'
      injection e' with e' _ _
      subst e'
      rcases hg with hg | hg
      · obtain ⟨qo', e3, _⟩ := hob _ hg
        exact h.ne e he hl b off _ qo' e1 e3
      · omega
    · rw [List.mem_singleton.1 he] at e1 hl
      obtain ⟨b', off', e', hlt, _⟩ := hn hl
      have e1 : A1 = some ⟨b, off, none⟩ := e1
      rw [e1] at e'
      injection e' with e'
      injection e' with e' _ _
      subst e'
      have := hf hl b off e1
      rcases hg with hg | hg
      · obtain ⟨_, _, hq⟩ := hob _ hg
        omega
      · omega
/-- Events in a row of their own, all of it behind a block. -/
def EvsR (w : World) (B : Nat) (A : Option Addr) (cap : Nat) (v : List Ev) : Prop := ∃ c, EvRow w B B A cap c ∧ evsOf c = v
theorem EvsR.nil {w : World} {B : Nat} : EvsR w B none 0 [] := ⟨[], EvRow.start, rfl⟩
theorem EvsR.go {w w' : World} {B cap rb q : Nat} {er : Int} {A : Option Addr} {v : List Ev} (h : EvsR w B A cap v) (hr : rb < B) (g : GoE rb q er w w') : EvsR w' B A cap v := by
  obtain ⟨c, h1, h2⟩ := h
  exact ⟨c, h1.go hr hr g, h2⟩
theorem EvsR.below {w w' : World} {B cap : Nat} {A : Option Addr} {v : List Ev} (h : EvsR w B A cap v) (hb : Below w.heap.size w w') : EvsR w' B A cap v := by
  obtain ⟨c, h1, h2⟩ := h
  exact ⟨c, h1.below hb, h2⟩
theorem EvsR.evs {w : World} {B cap : Nat} {A : Option Addr} {v : List Ev} (h : EvsR w B A cap v) : EvsIn w A v := by
  obtain ⟨c, h1, rfl⟩ := h
  exact h1.evs
/-- A history was read: its events, the reader behind it. -/
def ENx (v : List Ev) (rb q : Nat) (er : Int) (w : World) (e : Ending) (w' : World) : Prop := ∃ A' c', e = .returned (.slice A' v.length c') ∧ EvsR w' w.heap.size A' c' v ∧ GoE rb q er w w'
/-! ### What is known of an event whose parts were read -/
structure EvC (x : Ev) : Prop where
  k1 : 1 ≤ x.kind
  k2 : x.kind ≤ 12
  id0 : idK x.kind = false → x.id = 0
  name0 : nameK x.kind = false → x.name = []
  value0 : valueK x.kind = false → x.value = []
  int0 : intK x.kind = false → x.int = 0
  right : valueK x.kind = true → Right x.value
  ok : OkEv x
theorem evX_kind (l : List UInt8) (p : Nat) : (evX l p).kind = byt l p := rfl
theorem evX_id (l : List UInt8) (p : Nat) : (evX l p).id = ((Nat.min (pI (byt l p) (l.drop (p + 1))).1 500 : Nat) : Int) := rfl
theorem evX_name (l : List UInt8) (p : Nat) : (evX l p).name = (pT (byt l p) (l.drop (eA l p))).1 := rfl
theorem evX_value (l : List UInt8) (p : Nat) : (evX l p).value = (pV (byt l p) (l.drop (eB l p))).1 := rfl
theorem evX_int (l : List UInt8) (p : Nat) : (evX l p).int = (pN (byt l p) (l.drop (eC l p))).1 := rfl
theorem evC_of {l : List UInt8} {p : Nat} (hl : l.length ≤ 140737488351232) (hk : ¬ (byt l p < 1 ∨ 12 < byt l p)) (he : (wN l p).2.2 = 0) : EvC (evX l p) := by
  obtain ⟨h1, h2, h3, h4⟩ := wN_all he
  refine ⟨?_, ?_, fun h => ?_, fun h => ?_, fun h => ?_, fun h => ?_, fun h => ?_, okE_evX hl h3⟩
  · rw [evX_kind]; omega
  · rw [evX_kind]; omega
  · rw [evX_kind] at h
    rw [evX_id, pI_no h]
    rfl
  · rw [evX_kind] at h
    rw [evX_name, pT_no h]
  · rw [evX_kind] at h
    rw [evX_value, pV_no h]
  · rw [evX_kind] at h
    rw [evX_int, pN_no h]
  · rw [evX_kind] at h
    rw [evX_value]
    rw [pV_yes h] at h3 ⊢
    exact (valR _).right h3
def chkE (x : Ev) : Int := if rightE x then 0 else 3
end Go.Proofs.YtaeophaecclnbaaGreatDoor
namespace Go.Proofs.YtaeophaecclnbaaGreatDoor
open Go.RowKit

def askV (x : Ask) (A1 : Option Addr) (c1 : Nat) (A2 : Option Addr) (c2 : Nat) : Value :=
  .agg #[.string (strB x.client), .int .i64 x.seq, .int .u8 (x.op : Int), .string (strB x.id), .string (strB x.name), .string (strB x.text), .slice A1 x.value.length c1, .int .i64 x.int, .int .i64 x.token, .slice A2 x.events.length c2]
/-- What reading a question answers. -/
def UPost (l : List UInt8) (w : World) (e : Ending) (w' : World) : Prop :=
  ∃ A1 c1 A2 c2, e = .returned (.tuple #[askV (unpS l).1 A1 c1 A2 c2, .int .i64 ((unpS l).2.1 : Nat), .int .i64 (unpS l).2.2]) ∧ NodesIn w' A1 (unpS l).1.value ∧ EvsIn w' A2 (unpS l).1.events ∧ Below w.heap.size w w'
theorem UPost.bad {l : List UInt8} {q : Nat} {er : Int} {w w' : World} (h : unpS l = (zA, q, er)) (hb : Below w.heap.size w w') :
    UPost l w (.returned (.tuple #[.agg #[.string ⟨#[]⟩, .int .i64 0, .int .u8 0, .string ⟨#[]⟩, .string ⟨#[]⟩, .string ⟨#[]⟩, .slice none 0 0, .int .i64 0, .int .i64 0, .slice none 0 0], .int .i64 (q : Int), .int .i64 er])) w' :=
  ⟨none, 0, none, 0, by rw [h]; rfl, by rw [h]; exact NodesIn.nil, by rw [h]; exact EvsIn.nil, hb⟩
theorem unp_long {l : List UInt8} (h : 65536 < l.length) : unpS l = (zA, 0, 2) := if_pos h
theorem unp_bad {l : List UInt8} (h : ¬ 65536 < l.length) (he : (u11 l).e ≠ 0) : unpS l = (zA, (u11 l).at_, (u11 l).e) := (if_neg h).trans (if_pos he)
theorem unp_ok {l : List UInt8} (h : ¬ 65536 < l.length) (he : (u11 l).e = 0) : unpS l = (askX l, (u11 l).at_, 0) := (if_neg h).trans (if_neg (fun c => c he))
theorem nx_value (l : List UInt8) (s : Rs) : nxV [] vlS l s = [] ∨ Right (nxV [] vlS l s) := by
  by_cases h : s.e = 0
  · by_cases h1 : (vlS (l.drop s.at_)).2.2 = 0
    · rw [nxV_ok h h1]; exact .inr ((valR _).right h1)
    · rw [nxV_bad h h1]; exact .inl rfl
  · rw [nxV_no h]; exact .inl rfl
theorem nx_okv (l : List UInt8) (s : Rs) : OkV (nxV [] vlS l s) := by
  by_cases h : s.e = 0
  · by_cases h1 : (vlS (l.drop s.at_)).2.2 = 0
    · rw [nxV_ok h h1]; exact (valR _).ok
    · rw [nxV_bad h h1]; intro x hx; exact absurd hx (by simp)
  · rw [nxV_no h]; intro x hx; exact absurd hx (by simp)
theorem nx_events {l : List UInt8} (hl : l.length ≤ 140737488351232) (s : Rs) : ∀ e, e ∈ nxV [] histS l s → OkEv e := by
  by_cases h : s.e = 0
  · by_cases h1 : (histS (l.drop s.at_)).2.2 = 0
    · rw [nxV_ok h h1]
      exact (histR (by rw [List.length_drop]; omega)).ok
    · rw [nxV_bad h h1]; intro x hx; exact absurd hx (by simp)
  · rw [nxV_no h]; intro x hx; exact absurd hx (by simp)
theorem unp_value (l : List UInt8) : (unpS l).1.value = [] ∨ Right (unpS l).1.value := by
  by_cases h : 65536 < l.length
  · rw [unp_long h]; exact .inl rfl
  · by_cases he : (u11 l).e = 0
    · rw [unp_ok h he]
      show (if isV l = 1 then nxV [] vlS l (u7 l) else []) = [] ∨ Right (if isV l = 1 then nxV [] vlS l (u7 l) else [])
      by_cases hv : isV l = 1
      · rw [if_pos hv]; exact nx_value l _
      · rw [if_neg hv]; exact .inl rfl
    · rw [unp_bad h he]; exact .inl rfl
theorem unp_events (l : List UInt8) : ∀ e, e ∈ (unpS l).1.events → OkEv e := by
  by_cases h : 65536 < l.length
  · rw [unp_long h]; intro x hx; exact absurd hx (by simp [zA])
  · by_cases he : (u11 l).e = 0
    · rw [unp_ok h he]; exact nx_events (by omega) _
    · rw [unp_bad h he]; intro x hx; exact absurd hx (by simp [zA])
section
variable {l : List UInt8}
theorem u1_le : (u1 l).at_ ≤ l.length := nxS_le (Nat.zero_le _) (flag_pos 255)
theorem u2_le : (u2 l).at_ ≤ l.length := nxS_le u1_le (fun _ => text_pos)
theorem u3_le : (u3 l).at_ ≤ l.length := nxS_le u2_le int_pos
theorem u4_le : (u4 l).at_ ≤ l.length := nxS_le u3_le (fun _ => text_pos)
theorem u5_le : (u5 l).at_ ≤ l.length := nxS_le u4_le (fun _ => text_pos)
theorem u6_le : (u6 l).at_ ≤ l.length := nxS_le u5_le (fun _ => text_pos)
theorem u7_le : (u7 l).at_ ≤ l.length := nxS_le u6_le (flag_pos 1)
theorem u8_le : (u8 l).at_ ≤ l.length := by
  unfold u8
  split
  · exact nxS_le u7_le (fun m => (valR m).to)
  · exact u7_le
theorem u9_le : (u9 l).at_ ≤ l.length := nxS_le u8_le int_pos
theorem u10_le : (u10 l).at_ ≤ l.length := nxS_le u9_le int_pos
end
end Go.Proofs.YtaeophaecclnbaaGreatDoor
namespace Go.Proofs.YtaeophaecclnbaaGreatDoor
open Go.RowKit

set_option maxRecDepth 100000 in
set_option maxHeartbeats 2000000 in
theorem enext_uint {w : World} {rb : Nat} {A : Option Addr} {n cc : Nat} {l : List UInt8} {p : Nat} {er : Int} (h : RE w rb A n cc l p er) (is : Bool) :
    Calls Tryz.prog 70 #[.pointer (some ⟨rb, 0, none⟩), .bool is, .func (.func 71) #[] #[]] w (fun e w' => e = .returned (.int .u64 (((stV 0 is er (numS (l.drop p))) : Nat) : Int)) ∧ GoE rb (stA is er p (numS (l.drop p))) (stE is er (numS (l.drop p))) w w') := by
  obtain ⟨a, rfl⟩ := h.adr
  have R0 := Lib.hid (GoE.refl h)
  have c0 := h.c0
  have c1 := h.c1
  have c2 := h.c2
  have f1 := h.f1
  have f2 := h.f2
  have hle := h.le
  have hlt := h.lt
  have HBS := Lib.hid h.bs
  have hcap := h.bs.cap
  have hsm := h.bs.small
  have hcapb := h.bs.capb
  have hnil := h.bs.nil
  clear h
  by_cases hc : is = true ∧ er = 0
  · obtain ⟨rfl, rfl⟩ := hc
    rw [stV_yes ⟨rfl, rfl⟩, stA_yes ⟨rfl, rfl⟩, stE_yes ⟨rfl, rfl⟩]
    by_cases hpc : cc = p
    · subst hpc
      obtain rfl : cc = n := by omega
      have HS := Lib.hid (show ∀ w', Below w.heap.size w w' → w'.cell? ⟨rb, 0, none⟩ = some (.slice (some a) cc cc) ∧ w'.cell? ⟨rb, 1, none⟩ = some (.int .i64 cc) from fun w' hb => ⟨(hb.cell (p := ⟨rb, 0, none⟩) hlt).trans c0, (hb.cell (p := ⟨rb, 1, none⟩) hlt).trans c1⟩)
      go_enter Tryz.func70, Tryz.ntmps70
      go_wp2_with fail
      go_region_held3 (fun w' => w'.cell? ⟨rb, 0, none⟩ = some (.slice (some a) cc cc) ∧ w'.cell? ⟨rb, 1, none⟩ = some (.int .i64 cc)) (first | exact HS.out _ (Below.refl _ _).drew | exact HS.out _ (bthen (Below.refl _ _).drew (by assumption))) (first | (go_at_call 71; refine (cuint_any (bs_end (HBS.out.below (Below.refl _ w).drew) rfl)).mono ?_; rintro e w1 ⟨rfl, hb⟩))
      replace hb := bthen (Below.refl _ w).drew hb
      have hq : (numS (l.drop cc)).2.1 ≤ cc - cc := by have := (num_pos : (numS (l.drop cc)).2.1 ≤ (l.drop cc).length); rw [List.length_drop, HBS.out.len] at this; omega
      have hw1 : IntKind.i64.wrap ((cc : Int) + ((numS (l.drop cc)).2.1 : Int)) = (cc : Int) + ((numS (l.drop cc)).2.1 : Int) := IntWalk.i64_in _ (by omega)
      have d1 := (hb.cell (p := ⟨rb, 1, none⟩) hlt).trans c1
      have d2 := (hb.cell (p := ⟨rb, 2, none⟩) hlt).trans c2
      have g1 := (hb.frozen (p := ⟨rb, 1, none⟩) hlt).trans f1
      have g2 := (hb.frozen (p := ⟨rb, 2, none⟩) hlt).trans f2
      have HG := Lib.hid (GoE.ahead hb hlt (GoE.store (q := cc + (numS (l.drop cc)).2.1) (er' := (numS (l.drop cc)).2.2) d1 d2 ((cc : Int) + ((numS (l.drop cc)).2.1 : Int)) (by omega)))
      clear hb
      go_wp2_with fail
      go_ret
      exact ⟨rfl, HG.out⟩
    · have HS := Lib.hid (show ∀ w', Below w.heap.size w w' → w'.cell? ⟨rb, 0, none⟩ = some (.slice (some a) n cc) ∧ w'.cell? ⟨rb, 1, none⟩ = some (.int .i64 p) from fun w' hb => ⟨(hb.cell (p := ⟨rb, 0, none⟩) hlt).trans c0, (hb.cell (p := ⟨rb, 1, none⟩) hlt).trans c1⟩)
      go_enter Tryz.func70, Tryz.ntmps70
      go_wp2_with fail
      go_region_held3 (fun w' => w'.cell? ⟨rb, 0, none⟩ = some (.slice (some a) n cc) ∧ w'.cell? ⟨rb, 1, none⟩ = some (.int .i64 p)) (first | exact HS.out _ (Below.refl _ _).drew | exact HS.out _ (bthen (Below.refl _ _).drew (by assumption))) (first | (go_at_call 71; refine (cuint_any (bs_drop (HBS.out.below (Below.refl _ w).drew) hle)).mono ?_; rintro e w1 ⟨rfl, hb⟩))
      replace hb := bthen (Below.refl _ w).drew hb
      have hq : (numS (l.drop p)).2.1 ≤ n - p := by have := (num_pos : (numS (l.drop p)).2.1 ≤ (l.drop p).length); rw [List.length_drop, HBS.out.len] at this; omega
      have hw1 : IntKind.i64.wrap ((p : Int) + ((numS (l.drop p)).2.1 : Int)) = (p : Int) + ((numS (l.drop p)).2.1 : Int) := IntWalk.i64_in _ (by omega)
      have d1 := (hb.cell (p := ⟨rb, 1, none⟩) hlt).trans c1
      have d2 := (hb.cell (p := ⟨rb, 2, none⟩) hlt).trans c2
      have g1 := (hb.frozen (p := ⟨rb, 1, none⟩) hlt).trans f1
      have g2 := (hb.frozen (p := ⟨rb, 2, none⟩) hlt).trans f2
      have HG := Lib.hid (GoE.ahead hb hlt (GoE.store (q := p + (numS (l.drop p)).2.1) (er' := (numS (l.drop p)).2.2) d1 d2 ((p : Int) + ((numS (l.drop p)).2.1 : Int)) (by omega)))
      clear hb
      go_wp2_with fail
      go_ret
      exact ⟨rfl, HG.out⟩
  · rw [stV_no hc, stA_no hc, stE_no hc]
    cases is with
    | false =>
      go_enter Tryz.func70, Tryz.ntmps70
      go_wp2_with fail
      go_ret
      exact ⟨rfl, R0.out⟩
    | true =>
      have he : (er != 0) = true := bne_iff_ne.2 (fun c => hc ⟨rfl, c⟩)
      go_enter Tryz.func70, Tryz.ntmps70
      go_wp2_with fail
      go_ret
      exact ⟨rfl, R0.out⟩
set_option maxRecDepth 100000 in
set_option maxHeartbeats 2000000 in
theorem enext_text {w : World} {rb : Nat} {A : Option Addr} {n cc : Nat} {l : List UInt8} {p : Nat} {er : Int} (h : RE w rb A n cc l p er) (is : Bool) :
    Calls Tryz.prog 118 #[.pointer (some ⟨rb, 0, none⟩), .bool is, .func (.func 11) #[] #[]] w (fun e w' => e = .returned (.string (strB (stV [] is er (textS (l.drop p))))) ∧ GoE rb (stA is er p (textS (l.drop p))) (stE is er (textS (l.drop p))) w w') := by
  obtain ⟨a, rfl⟩ := h.adr
  have R0 := Lib.hid (GoE.refl h)
  have c0 := h.c0
  have c1 := h.c1
  have c2 := h.c2
  have f1 := h.f1
  have f2 := h.f2
  have hle := h.le
  have hlt := h.lt
  have HBS := Lib.hid h.bs
  have hcap := h.bs.cap
  have hsm := h.bs.small
  have hcapb := h.bs.capb
  have hnil := h.bs.nil
  clear h
  by_cases hc : is = true ∧ er = 0
  · obtain ⟨rfl, rfl⟩ := hc
    rw [stV_yes ⟨rfl, rfl⟩, stA_yes ⟨rfl, rfl⟩, stE_yes ⟨rfl, rfl⟩]
    by_cases hpc : cc = p
    · subst hpc
      obtain rfl : cc = n := by omega
      have HS := Lib.hid (show ∀ w', Below w.heap.size w w' → w'.cell? ⟨rb, 0, none⟩ = some (.slice (some a) cc cc) ∧ w'.cell? ⟨rb, 1, none⟩ = some (.int .i64 cc) from fun w' hb => ⟨(hb.cell (p := ⟨rb, 0, none⟩) hlt).trans c0, (hb.cell (p := ⟨rb, 1, none⟩) hlt).trans c1⟩)
      go_enter Tryz.func118, Tryz.ntmps118
      go_wp2_with fail
      go_region_held3 (fun w' => w'.cell? ⟨rb, 0, none⟩ = some (.slice (some a) cc cc) ∧ w'.cell? ⟨rb, 1, none⟩ = some (.int .i64 cc)) (first | exact HS.out _ (Below.refl _ _).drew | exact HS.out _ (bthen (Below.refl _ _).drew (by assumption))) (first | (go_at_call 11; refine (ctext_any (bs_end (HBS.out.below (Below.refl _ w).drew) rfl)).mono ?_; rintro e w1 ⟨rfl, hb⟩))
      replace hb := bthen (Below.refl _ w).drew hb
      have hq : (textS (l.drop cc)).2.1 ≤ cc - cc := by have := (text_pos : (textS (l.drop cc)).2.1 ≤ (l.drop cc).length); rw [List.length_drop, HBS.out.len] at this; omega
      have hw1 : IntKind.i64.wrap ((cc : Int) + ((textS (l.drop cc)).2.1 : Int)) = (cc : Int) + ((textS (l.drop cc)).2.1 : Int) := IntWalk.i64_in _ (by omega)
      have d1 := (hb.cell (p := ⟨rb, 1, none⟩) hlt).trans c1
      have d2 := (hb.cell (p := ⟨rb, 2, none⟩) hlt).trans c2
      have g1 := (hb.frozen (p := ⟨rb, 1, none⟩) hlt).trans f1
      have g2 := (hb.frozen (p := ⟨rb, 2, none⟩) hlt).trans f2
      have HG := Lib.hid (GoE.ahead hb hlt (GoE.store (q := cc + (textS (l.drop cc)).2.1) (er' := (textS (l.drop cc)).2.2) d1 d2 ((cc : Int) + ((textS (l.drop cc)).2.1 : Int)) (by omega)))
      clear hb
      go_wp2_with fail
      go_ret
      exact ⟨rfl, HG.out⟩
    · have HS := Lib.hid (show ∀ w', Below w.heap.size w w' → w'.cell? ⟨rb, 0, none⟩ = some (.slice (some a) n cc) ∧ w'.cell? ⟨rb, 1, none⟩ = some (.int .i64 p) from fun w' hb => ⟨(hb.cell (p := ⟨rb, 0, none⟩) hlt).trans c0, (hb.cell (p := ⟨rb, 1, none⟩) hlt).trans c1⟩)
      go_enter Tryz.func118, Tryz.ntmps118
      go_wp2_with fail
      go_region_held3 (fun w' => w'.cell? ⟨rb, 0, none⟩ = some (.slice (some a) n cc) ∧ w'.cell? ⟨rb, 1, none⟩ = some (.int .i64 p)) (first | exact HS.out _ (Below.refl _ _).drew | exact HS.out _ (bthen (Below.refl _ _).drew (by assumption))) (first | (go_at_call 11; refine (ctext_any (bs_drop (HBS.out.below (Below.refl _ w).drew) hle)).mono ?_; rintro e w1 ⟨rfl, hb⟩))
      replace hb := bthen (Below.refl _ w).drew hb
      have hq : (textS (l.drop p)).2.1 ≤ n - p := by have := (text_pos : (textS (l.drop p)).2.1 ≤ (l.drop p).length); rw [List.length_drop, HBS.out.len] at this; omega
      have hw1 : IntKind.i64.wrap ((p : Int) + ((textS (l.drop p)).2.1 : Int)) = (p : Int) + ((textS (l.drop p)).2.1 : Int) := IntWalk.i64_in _ (by omega)
      have d1 := (hb.cell (p := ⟨rb, 1, none⟩) hlt).trans c1
      have d2 := (hb.cell (p := ⟨rb, 2, none⟩) hlt).trans c2
      have g1 := (hb.frozen (p := ⟨rb, 1, none⟩) hlt).trans f1
      have g2 := (hb.frozen (p := ⟨rb, 2, none⟩) hlt).trans f2
      have HG := Lib.hid (GoE.ahead hb hlt (GoE.store (q := p + (textS (l.drop p)).2.1) (er' := (textS (l.drop p)).2.2) d1 d2 ((p : Int) + ((textS (l.drop p)).2.1 : Int)) (by omega)))
      clear hb
      go_wp2_with fail
      go_ret
      exact ⟨rfl, HG.out⟩
  · rw [stV_no hc, stA_no hc, stE_no hc]
    cases is with
    | false =>
      go_enter Tryz.func118, Tryz.ntmps118
      go_wp2_with fail
      go_ret
      exact ⟨rfl, R0.out⟩
    | true =>
      have he : (er != 0) = true := bne_iff_ne.2 (fun c => hc ⟨rfl, c⟩)
      go_enter Tryz.func118, Tryz.ntmps118
      go_wp2_with fail
      go_ret
      exact ⟨rfl, R0.out⟩
set_option maxRecDepth 100000 in
set_option maxHeartbeats 2000000 in
theorem enext_int {w : World} {rb : Nat} {A : Option Addr} {n cc : Nat} {l : List UInt8} {p : Nat} {er : Int} (h : RE w rb A n cc l p er) (is : Bool) :
    Calls Tryz.prog 120 #[.pointer (some ⟨rb, 0, none⟩), .bool is, .func (.func 13) #[] #[]] w (fun e w' => e = .returned (.int .i64 (stV 0 is er (intS (l.drop p)))) ∧ GoE rb (stA is er p (intS (l.drop p))) (stE is er (intS (l.drop p))) w w') := by
  obtain ⟨a, rfl⟩ := h.adr
  have R0 := Lib.hid (GoE.refl h)
  have c0 := h.c0
  have c1 := h.c1
  have c2 := h.c2
  have f1 := h.f1
  have f2 := h.f2
  have hle := h.le
  have hlt := h.lt
  have HBS := Lib.hid h.bs
  have hcap := h.bs.cap
  have hsm := h.bs.small
  have hcapb := h.bs.capb
  have hnil := h.bs.nil
  clear h
  by_cases hc : is = true ∧ er = 0
  · obtain ⟨rfl, rfl⟩ := hc
    rw [stV_yes ⟨rfl, rfl⟩, stA_yes ⟨rfl, rfl⟩, stE_yes ⟨rfl, rfl⟩]
    by_cases hpc : cc = p
    · subst hpc
      obtain rfl : cc = n := by omega
      have HS := Lib.hid (show ∀ w', Below w.heap.size w w' → w'.cell? ⟨rb, 0, none⟩ = some (.slice (some a) cc cc) ∧ w'.cell? ⟨rb, 1, none⟩ = some (.int .i64 cc) from fun w' hb => ⟨(hb.cell (p := ⟨rb, 0, none⟩) hlt).trans c0, (hb.cell (p := ⟨rb, 1, none⟩) hlt).trans c1⟩)
      go_enter Tryz.func120, Tryz.ntmps120
      go_wp2_with fail
      go_region_held3 (fun w' => w'.cell? ⟨rb, 0, none⟩ = some (.slice (some a) cc cc) ∧ w'.cell? ⟨rb, 1, none⟩ = some (.int .i64 cc)) (first | exact HS.out _ (Below.refl _ _).drew | exact HS.out _ (bthen (Below.refl _ _).drew (by assumption))) (first | (go_at_call 13; refine (cintS_any (bs_end (HBS.out.below (Below.refl _ w).drew) rfl)).mono ?_; rintro e w1 ⟨rfl, hb⟩))
      replace hb := bthen (Below.refl _ w).drew hb
      have hq : (intS (l.drop cc)).2.1 ≤ cc - cc := by have := int_pos (l.drop cc); rw [List.length_drop, HBS.out.len] at this; omega
      have hw1 : IntKind.i64.wrap ((cc : Int) + ((intS (l.drop cc)).2.1 : Int)) = (cc : Int) + ((intS (l.drop cc)).2.1 : Int) := IntWalk.i64_in _ (by omega)
      have d1 := (hb.cell (p := ⟨rb, 1, none⟩) hlt).trans c1
      have d2 := (hb.cell (p := ⟨rb, 2, none⟩) hlt).trans c2
      have g1 := (hb.frozen (p := ⟨rb, 1, none⟩) hlt).trans f1
      have g2 := (hb.frozen (p := ⟨rb, 2, none⟩) hlt).trans f2
      have HG := Lib.hid (GoE.ahead hb hlt (GoE.store (q := cc + (intS (l.drop cc)).2.1) (er' := (intS (l.drop cc)).2.2) d1 d2 ((cc : Int) + ((intS (l.drop cc)).2.1 : Int)) (by omega)))
      clear hb
      go_wp2_with fail
      go_ret
      exact ⟨rfl, HG.out⟩
    · have HS := Lib.hid (show ∀ w', Below w.heap.size w w' → w'.cell? ⟨rb, 0, none⟩ = some (.slice (some a) n cc) ∧ w'.cell? ⟨rb, 1, none⟩ = some (.int .i64 p) from fun w' hb => ⟨(hb.cell (p := ⟨rb, 0, none⟩) hlt).trans c0, (hb.cell (p := ⟨rb, 1, none⟩) hlt).trans c1⟩)
      go_enter Tryz.func120, Tryz.ntmps120
      go_wp2_with fail
      go_region_held3 (fun w' => w'.cell? ⟨rb, 0, none⟩ = some (.slice (some a) n cc) ∧ w'.cell? ⟨rb, 1, none⟩ = some (.int .i64 p)) (first | exact HS.out _ (Below.refl _ _).drew | exact HS.out _ (bthen (Below.refl _ _).drew (by assumption))) (first | (go_at_call 13; refine (cintS_any (bs_drop (HBS.out.below (Below.refl _ w).drew) hle)).mono ?_; rintro e w1 ⟨rfl, hb⟩))
      replace hb := bthen (Below.refl _ w).drew hb
      have hq : (intS (l.drop p)).2.1 ≤ n - p := by have := int_pos (l.drop p); rw [List.length_drop, HBS.out.len] at this; omega
      have hw1 : IntKind.i64.wrap ((p : Int) + ((intS (l.drop p)).2.1 : Int)) = (p : Int) + ((intS (l.drop p)).2.1 : Int) := IntWalk.i64_in _ (by omega)
      have d1 := (hb.cell (p := ⟨rb, 1, none⟩) hlt).trans c1
      have d2 := (hb.cell (p := ⟨rb, 2, none⟩) hlt).trans c2
      have g1 := (hb.frozen (p := ⟨rb, 1, none⟩) hlt).trans f1
      have g2 := (hb.frozen (p := ⟨rb, 2, none⟩) hlt).trans f2
      have HG := Lib.hid (GoE.ahead hb hlt (GoE.store (q := p + (intS (l.drop p)).2.1) (er' := (intS (l.drop p)).2.2) d1 d2 ((p : Int) + ((intS (l.drop p)).2.1 : Int)) (by omega)))
      clear hb
      go_wp2_with fail
      go_ret
      exact ⟨rfl, HG.out⟩
  · rw [stV_no hc, stA_no hc, stE_no hc]
    cases is with
    | false =>
      go_enter Tryz.func120, Tryz.ntmps120
      go_wp2_with fail
      go_ret
      exact ⟨rfl, R0.out⟩
    | true =>
      have he : (er != 0) = true := bne_iff_ne.2 (fun c => hc ⟨rfl, c⟩)
      go_enter Tryz.func120, Tryz.ntmps120
      go_wp2_with fail
      go_ret
      exact ⟨rfl, R0.out⟩
set_option maxRecDepth 100000 in
set_option maxHeartbeats 2000000 in
theorem enext_value {w : World} {rb : Nat} {A : Option Addr} {n cc : Nat} {l : List UInt8} {p : Nat} {er : Int} (h : RE w rb A n cc l p er) (is : Bool) :
    Calls Tryz.prog 119 #[.pointer (some ⟨rb, 0, none⟩), .bool is, .func (.func 15) #[] #[]] w (fun e w' => VNx (stV [] is er (vlS (l.drop p))) rb (stA is er p (vlS (l.drop p))) (stE is er (vlS (l.drop p))) w e w') := by
  obtain ⟨a, rfl⟩ := h.adr
  have R0 := Lib.hid (GoE.refl h)
  have c0 := h.c0
  have c1 := h.c1
  have c2 := h.c2
  have f1 := h.f1
  have f2 := h.f2
  have hle := h.le
  have hlt := h.lt
  have HBS := Lib.hid h.bs
  have hcap := h.bs.cap
  have hsm := h.bs.small
  have hcapb := h.bs.capb
  have hnil := h.bs.nil
  clear h
  by_cases hc : is = true ∧ er = 0
  · obtain ⟨rfl, rfl⟩ := hc
    rw [stV_yes ⟨rfl, rfl⟩, stA_yes ⟨rfl, rfl⟩, stE_yes ⟨rfl, rfl⟩]
    by_cases hpc : cc = p
    · subst hpc
      obtain rfl : cc = n := by omega
      have HS := Lib.hid (show ∀ w', Below w.heap.size w w' → w'.cell? ⟨rb, 0, none⟩ = some (.slice (some a) cc cc) ∧ w'.cell? ⟨rb, 1, none⟩ = some (.int .i64 cc) from fun w' hb => ⟨(hb.cell (p := ⟨rb, 0, none⟩) hlt).trans c0, (hb.cell (p := ⟨rb, 1, none⟩) hlt).trans c1⟩)
      go_enter Tryz.func119, Tryz.ntmps119
      go_wp2_with fail
      go_region_held3 (fun w' => w'.cell? ⟨rb, 0, none⟩ = some (.slice (some a) cc cc) ∧ w'.cell? ⟨rb, 1, none⟩ = some (.int .i64 cc)) (first | exact HS.out _ (Below.refl _ _).drew | exact HS.out _ (bthen (Below.refl _ _).drew (by assumption))) (first | (go_at_call 15; refine (cvalue_any (bs_end (HBS.out.below (Below.refl _ w).drew) rfl)).mono ?_; rintro e w1 ⟨A', c', rfl, hn, hf, hb⟩))
      replace hb := bthen (Below.refl _ w).drew hb
      have hq : (vlS (l.drop cc)).2.1 ≤ cc - cc := by have := (valR (l.drop cc)).to; rw [List.length_drop, HBS.out.len] at this; omega
      have hw1 : IntKind.i64.wrap ((cc : Int) + ((vlS (l.drop cc)).2.1 : Int)) = (cc : Int) + ((vlS (l.drop cc)).2.1 : Int) := IntWalk.i64_in _ (by omega)
      have d1 := (hb.cell (p := ⟨rb, 1, none⟩) hlt).trans c1
      have d2 := (hb.cell (p := ⟨rb, 2, none⟩) hlt).trans c2
      have g1 := (hb.frozen (p := ⟨rb, 1, none⟩) hlt).trans f1
      have g2 := (hb.frozen (p := ⟨rb, 2, none⟩) hlt).trans f2
      have gs := GoE.store (q := cc + (vlS (l.drop cc)).2.1) (er' := (vlS (l.drop cc)).2.2) d1 d2 ((cc : Int) + ((vlS (l.drop cc)).2.1 : Int)) (by omega)
      have HG := Lib.hid (And.intro (hn.go hf hlt gs) (And.intro hf (GoE.ahead hb hlt gs)))
      clear hb hn hf gs
      go_wp2_with fail
      go_ret
      exact ⟨A', c', rfl, HG.out⟩
    · have HS := Lib.hid (show ∀ w', Below w.heap.size w w' → w'.cell? ⟨rb, 0, none⟩ = some (.slice (some a) n cc) ∧ w'.cell? ⟨rb, 1, none⟩ = some (.int .i64 p) from fun w' hb => ⟨(hb.cell (p := ⟨rb, 0, none⟩) hlt).trans c0, (hb.cell (p := ⟨rb, 1, none⟩) hlt).trans c1⟩)
      go_enter Tryz.func119, Tryz.ntmps119
      go_wp2_with fail
      go_region_held3 (fun w' => w'.cell? ⟨rb, 0, none⟩ = some (.slice (some a) n cc) ∧ w'.cell? ⟨rb, 1, none⟩ = some (.int .i64 p)) (first | exact HS.out _ (Below.refl _ _).drew | exact HS.out _ (bthen (Below.refl _ _).drew (by assumption))) (first | (go_at_call 15; refine (cvalue_any (bs_drop (HBS.out.below (Below.refl _ w).drew) hle)).mono ?_; rintro e w1 ⟨A', c', rfl, hn, hf, hb⟩))
      replace hb := bthen (Below.refl _ w).drew hb
      have hq : (vlS (l.drop p)).2.1 ≤ n - p := by have := (valR (l.drop p)).to; rw [List.length_drop, HBS.out.len] at this; omega
      have hw1 : IntKind.i64.wrap ((p : Int) + ((vlS (l.drop p)).2.1 : Int)) = (p : Int) + ((vlS (l.drop p)).2.1 : Int) := IntWalk.i64_in _ (by omega)
      have d1 := (hb.cell (p := ⟨rb, 1, none⟩) hlt).trans c1
      have d2 := (hb.cell (p := ⟨rb, 2, none⟩) hlt).trans c2
      have g1 := (hb.frozen (p := ⟨rb, 1, none⟩) hlt).trans f1
      have g2 := (hb.frozen (p := ⟨rb, 2, none⟩) hlt).trans f2
      have gs := GoE.store (q := p + (vlS (l.drop p)).2.1) (er' := (vlS (l.drop p)).2.2) d1 d2 ((p : Int) + ((vlS (l.drop p)).2.1 : Int)) (by omega)
      have HG := Lib.hid (And.intro (hn.go hf hlt gs) (And.intro hf (GoE.ahead hb hlt gs)))
      clear hb hn hf gs
      go_wp2_with fail
      go_ret
      exact ⟨A', c', rfl, HG.out⟩
  · rw [stV_no hc, stA_no hc, stE_no hc]
    cases is with
    | false =>
      go_enter Tryz.func119, Tryz.ntmps119
      go_wp2_with fail
      go_ret
      exact ⟨none, 0, rfl, NodesIn.nil, Far.nil, R0.out⟩
    | true =>
      have he : (er != 0) = true := bne_iff_ne.2 (fun c => hc ⟨rfl, c⟩)
      go_enter Tryz.func119, Tryz.ntmps119
      go_wp2_with fail
      go_ret
      exact ⟨none, 0, rfl, NodesIn.nil, Far.nil, R0.out⟩
end Go.Proofs.YtaeophaecclnbaaGreatDoor

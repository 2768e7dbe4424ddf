/- Reading an event, walked. -/
import Derived.Test.YtaeophaecclnbaaGreatDoorMgF
import Derived.Test.YtaeophaecclnbaaGreatDoorNxBQ
namespace Go.Proofs.YtaeophaecclnbaaGreatDoor
open Go.RowKit

/-- What reading an event comes to, from a place on. -/
def EvPost (l : List UInt8) (p : Nat) (rb : Nat) (w : World) (e : Ending) (w' : World) : Prop :=
  ∃ A' c', e = .returned (evV (evtS l p).1 A' c') ∧ NodesIn w' A' (evtS l p).1.value ∧ Far w.heap.size A' (evtS l p).1.value.length ∧ GoE rb (evtS l p).2.1 (evtS l p).2.2 w w'
theorem EvPost.bad {l : List UInt8} {p rb q : Nat} {er : Int} {w w' : World} (hv : evtS l p = (zE, q, er)) (g : GoE rb q er w w') : EvPost l p rb w (.returned (.agg #[.int .u8 0, .int .i64 0, .string ⟨#[]⟩, .slice none 0 0, .int .i64 0])) w' :=
  ⟨none, 0, by rw [hv]; rfl, by rw [hv]; exact NodesIn.nil, by rw [hv]; exact Far.nil, by rw [hv]; exact g⟩
theorem EvPost.good {l : List UInt8} {p rb q : Nat} {x : Ev} {kd : Nat} {id it : Int} {nm : List UInt8} {v : List Node} {A : Option Addr} {c : Nat} {w w' : World} (hv : evtS l p = (x, q, 0)) (e : x = ⟨kd, id, nm, v, it⟩) (hn : NodesIn w' A v) (hf : Far w.heap.size A v.length) (g : GoE rb q 0 w w') :
    EvPost l p rb w (.returned (.agg #[.int .u8 (kd : Int), .int .i64 id, .string (strB nm), .slice A v.length c, .int .i64 it])) w' := by
  subst e
  exact ⟨A, c, by rw [hv]; rfl, by rw [hv]; exact hn, by rw [hv]; exact hf, by rw [hv]; exact g⟩
theorem chk_at {x : Ev} {kd : Nat} {id it : Int} {nm : List UInt8} {v : List Node} {A : Option Addr} {c : Nat} {w : World} (e : x = ⟨kd, id, nm, v, it⟩) (h : EvC x) (hn : NodesIn w A v) :
    Calls Tryz.prog 121 #[.agg #[.int .u8 (kd : Int), .int .i64 id, .string (strB nm), .slice A v.length c, .int .i64 it]] w (RetB (.int .i64 (chkE x)) w) := by
  subst e
  exact chk_any h hn
/-- Two blocks of an event's five cells, and what the kind has. -/
structure EvB (W : World) (k : Nat) (a b c d x : Value) : Prop where
  c0 : W.cell? ⟨k, 0, none⟩ = some a
  c1 : W.cell? ⟨k, 1, none⟩ = some b
  c2 : W.cell? ⟨k, 2, none⟩ = some c
  c3 : W.cell? ⟨k, 3, none⟩ = some d
  c4 : W.cell? ⟨k, 4, none⟩ = some x
  fz : ∀ j, W.frozen? ⟨k, j, none⟩ = false
  lt : k < W.heap.size
theorem EvB.go {w w' : World} {rb q k : Nat} {er : Int} {a b c d x : Value} (h : EvB w k a b c d x) (hr : k ≠ rb) (g : GoE rb q er w w') : EvB w' k a b c d x := by
  have hb := g.block k h.lt hr
  exact ⟨(World.cell?_of_block hb).trans h.c0, (World.cell?_of_block hb).trans h.c1, (World.cell?_of_block hb).trans h.c2, (World.cell?_of_block hb).trans h.c3, (World.cell?_of_block hb).trans h.c4, fun j => (World.frozen?_of_block (a := ⟨k, j, none⟩) hb).trans (h.fz j), Nat.lt_of_lt_of_le h.lt g.size⟩
theorem EvB.keep {w w' : World} {k : Nat} {a b c d x : Value} (h : EvB w k a b c d x) (g : Below w.heap.size w w') : EvB w' k a b c d x :=
  ⟨(g.cell (p := ⟨k, 0, none⟩) h.lt).trans h.c0, (g.cell (p := ⟨k, 1, none⟩) h.lt).trans h.c1, (g.cell (p := ⟨k, 2, none⟩) h.lt).trans h.c2, (g.cell (p := ⟨k, 3, none⟩) h.lt).trans h.c3, (g.cell (p := ⟨k, 4, none⟩) h.lt).trans h.c4, fun j => (g.frozen (p := ⟨k, j, none⟩) h.lt).trans (h.fz j), Nat.lt_of_lt_of_le h.lt g.size⟩
theorem EvB.other {w : World} {k j o : Nat} {a b c d x v : Value} (h : EvB w k a b c d x) (hj : k ≠ j) : EvB (w.setCell ⟨j, o, none⟩ v) k a b c d x := by
  have hb : (w.setCell ⟨j, o, none⟩ v).heap[k]? = w.heap[k]? := heap_setCell_other _ _ k _ hj
  exact ⟨(World.cell?_of_block hb).trans h.c0, (World.cell?_of_block hb).trans h.c1, (World.cell?_of_block hb).trans h.c2, (World.cell?_of_block hb).trans h.c3, (World.cell?_of_block hb).trans h.c4, fun j => (World.frozen?_of_block (a := ⟨k, j, none⟩) hb).trans (h.fz j), by simpa using h.lt⟩
theorem adne (k : Nat) {i j : Nat} (h : i ≠ j) : (⟨k, i, none⟩ : Addr) ≠ ⟨k, j, none⟩ := fun e => by injection e with _ e _; exact h e
theorem EvB.set1 {w : World} {k : Nat} {a b c d x v : Value} (h : EvB w k a b c d x) : EvB (w.setCell ⟨k, 1, none⟩ v) k a v c d x :=
  ⟨(World.cell?_setCell_other _ _ _ _ (adne k (by decide))).trans h.c0, World.cell?_setCell_same _ _ _ h.c1, (World.cell?_setCell_other _ _ _ _ (adne k (by decide))).trans h.c2, (World.cell?_setCell_other _ _ _ _ (adne k (by decide))).trans h.c3, (World.cell?_setCell_other _ _ _ _ (adne k (by decide))).trans h.c4, fun j => (World.frozen?_setCell _ _ _ _).trans (h.fz j), by simpa using h.lt⟩
theorem EvB.set2 {w : World} {k : Nat} {a b c d x v : Value} (h : EvB w k a b c d x) : EvB (w.setCell ⟨k, 2, none⟩ v) k a b v d x :=
  ⟨(World.cell?_setCell_other _ _ _ _ (adne k (by decide))).trans h.c0, (World.cell?_setCell_other _ _ _ _ (adne k (by decide))).trans h.c1, World.cell?_setCell_same _ _ _ h.c2, (World.cell?_setCell_other _ _ _ _ (adne k (by decide))).trans h.c3, (World.cell?_setCell_other _ _ _ _ (adne k (by decide))).trans h.c4, fun j => (World.frozen?_setCell _ _ _ _).trans (h.fz j), by simpa using h.lt⟩
theorem EvB.set3 {w : World} {k : Nat} {a b c d x v : Value} (h : EvB w k a b c d x) : EvB (w.setCell ⟨k, 3, none⟩ v) k a b c v x :=
  ⟨(World.cell?_setCell_other _ _ _ _ (adne k (by decide))).trans h.c0, (World.cell?_setCell_other _ _ _ _ (adne k (by decide))).trans h.c1, (World.cell?_setCell_other _ _ _ _ (adne k (by decide))).trans h.c2, World.cell?_setCell_same _ _ _ h.c3, (World.cell?_setCell_other _ _ _ _ (adne k (by decide))).trans h.c4, fun j => (World.frozen?_setCell _ _ _ _).trans (h.fz j), by simpa using h.lt⟩
theorem EvB.set4 {w : World} {k : Nat} {a b c d x v : Value} (h : EvB w k a b c d x) : EvB (w.setCell ⟨k, 4, none⟩ v) k a b c d v :=
  ⟨(World.cell?_setCell_other _ _ _ _ (adne k (by decide))).trans h.c0, (World.cell?_setCell_other _ _ _ _ (adne k (by decide))).trans h.c1, (World.cell?_setCell_other _ _ _ _ (adne k (by decide))).trans h.c2, (World.cell?_setCell_other _ _ _ _ (adne k (by decide))).trans h.c3, World.cell?_setCell_same _ _ _ h.c4, fun j => (World.frozen?_setCell _ _ _ _).trans (h.fz j), by simpa using h.lt⟩
theorem NodesIn.set {w : World} {A : Option Addr} {v : List Node} {B k o : Nat} {u : Value} (h : NodesIn w A v) (f : Far B A v.length) (hk : k < B) : NodesIn (w.setCell ⟨k, o, none⟩ u) A v := fun hn => by
  obtain ⟨b, off, e, hlt, hc⟩ := h hn
  have hb := f hn b off e
  have hbl : (w.setCell ⟨k, o, none⟩ u).heap[b]? = w.heap[b]? := heap_setCell_other _ _ b _ (by show b ≠ k; omega)
  refine ⟨b, off, e, by simpa using hlt, fun j hj => ?_⟩
  obtain ⟨c0, c1, c2, c3, c4⟩ := hc j hj
  exact ⟨(World.cell?_of_block hbl).trans c0, (World.cell?_of_block hbl).trans c1, (World.cell?_of_block hbl).trans c2, (World.cell?_of_block hbl).trans c3, (World.cell?_of_block hbl).trans c4⟩
/-- While an event is read: the answer lies in block w.heap.size (still nought), the event in the next one, what its kind has in block fb. -/
structure EvS (w W : World) (rb q : Nat) (er : Int) (fb k : Nat) (b c : Value) (A : Option Addr) (cc : Nat) (v : List Node) (x : Value) : Prop where
  go : GoE rb q er w W
  r : EvB W w.heap.size (.int .u8 0) (.int .i64 0) (.string ⟨#[]⟩) (.slice none 0 0) (.int .i64 0)
  e : EvB W (w.heap.size + 1) (.int .u8 (k : Int)) b c (.slice A v.length cc) x
  f1 : W.cell? ⟨fb, 1, none⟩ = some (.bool (idK k))
  f2 : W.cell? ⟨fb, 2, none⟩ = some (.bool (nameK k))
  f4 : W.cell? ⟨fb, 4, none⟩ = some (.bool (valueK k))
  f5 : W.cell? ⟨fb, 5, none⟩ = some (.bool (intK k))
  lt : fb < W.heap.size
  ge : w.heap.size + 1 < fb
  nd : NodesIn W A v
  fr : Far (fb + 1) A v.length
section
variable {w W W' : World} {rb q q' : Nat} {er er' : Int} {fb k : Nat} {b c u : Value} {A : Option Addr} {cc : Nat} {v : List Node} {x : Value}
theorem EvS.next (h : EvS w W rb q er fb k b c A cc v x) (hr : rb < w.heap.size) (g : GoE rb q' er' W W') : EvS w W' rb q' er' fb k b c A cc v x := by
  have hb := g.block fb h.lt (by have := h.ge; omega)
  have hs := h.go.size
  exact ⟨h.go.then g, h.r.go (by omega) g, h.e.go (by omega) g, (World.cell?_of_block hb).trans h.f1, (World.cell?_of_block hb).trans h.f2, (World.cell?_of_block hb).trans h.f4, (World.cell?_of_block hb).trans h.f5, Nat.lt_of_lt_of_le h.lt g.size, h.ge, h.nd.go h.fr (by have := h.ge; omega) g, h.fr⟩
theorem EvS.other (h : EvS w W rb q er fb k b c A cc v x) (hr : rb < w.heap.size) (o : Nat) : GoE rb q er w (W.setCell ⟨w.heap.size + 1, o, none⟩ u) ∧ EvB (W.setCell ⟨w.heap.size + 1, o, none⟩ u) w.heap.size (.int .u8 0) (.int .i64 0) (.string ⟨#[]⟩) (.slice none 0 0) (.int .i64 0) ∧
    (∀ j, (W.setCell ⟨w.heap.size + 1, o, none⟩ u).cell? ⟨fb, j, none⟩ = W.cell? ⟨fb, j, none⟩) ∧ fb < (W.setCell ⟨w.heap.size + 1, o, none⟩ u).heap.size ∧ NodesIn (W.setCell ⟨w.heap.size + 1, o, none⟩ u) A v := by
  have hb : (W.setCell ⟨w.heap.size + 1, o, none⟩ u).heap[fb]? = W.heap[fb]? := heap_setCell_other _ _ fb _ (by have := h.ge; show fb ≠ w.heap.size + 1; omega)
  exact ⟨h.go.behind hr ((Below.refl w.heap.size W).setCell (p := ⟨w.heap.size + 1, o, none⟩) (by simp) _), h.r.other (by omega), fun j => World.cell?_of_block hb, by simpa using h.lt, h.nd.set h.fr (by have := h.ge; omega)⟩
theorem EvS.set1 (h : EvS w W rb q er fb k b c A cc v x) (hr : rb < w.heap.size) : EvS w (W.setCell ⟨w.heap.size + 1, 1, none⟩ u) rb q er fb k u c A cc v x := by
  obtain ⟨h1, h2, h3, h4, h5⟩ := h.other (u := u) hr 1
  exact ⟨h1, h2, h.e.set1, (h3 1).trans h.f1, (h3 2).trans h.f2, (h3 4).trans h.f4, (h3 5).trans h.f5, h4, h.ge, h5, h.fr⟩
theorem EvS.set2 (h : EvS w W rb q er fb k b c A cc v x) (hr : rb < w.heap.size) : EvS w (W.setCell ⟨w.heap.size + 1, 2, none⟩ u) rb q er fb k b u A cc v x := by
  obtain ⟨h1, h2, h3, h4, h5⟩ := h.other (u := u) hr 2
  exact ⟨h1, h2, h.e.set2, (h3 1).trans h.f1, (h3 2).trans h.f2, (h3 4).trans h.f4, (h3 5).trans h.f5, h4, h.ge, h5, h.fr⟩
theorem EvS.set4 (h : EvS w W rb q er fb k b c A cc v x) (hr : rb < w.heap.size) : EvS w (W.setCell ⟨w.heap.size + 1, 4, none⟩ u) rb q er fb k b c A cc v u := by
  obtain ⟨h1, h2, h3, h4, h5⟩ := h.other (u := u) hr 4
  exact ⟨h1, h2, h.e.set4, (h3 1).trans h.f1, (h3 2).trans h.f2, (h3 4).trans h.f4, (h3 5).trans h.f5, h4, h.ge, h5, h.fr⟩
theorem EvS.set3 {A' : Option Addr} {cc' : Nat} {v' : List Node} (h : EvS w W rb q er fb k b c A cc v x) (hr : rb < w.heap.size) (hn : NodesIn W A' v') (hf : Far (fb + 1) A' v'.length) : EvS w (W.setCell ⟨w.heap.size + 1, 3, none⟩ (.slice A' v'.length cc')) rb q er fb k b c A' cc' v' x := by
  obtain ⟨h1, h2, h3, h4, _⟩ := h.other (u := .slice A' v'.length cc') hr 3
  exact ⟨h1, h2, h.e.set3, (h3 1).trans h.f1, (h3 2).trans h.f2, (h3 4).trans h.f4, (h3 5).trans h.f5, h4, h.ge, hn.set hf (by have := h.ge; omega), hf⟩
end
section
variable {W : World} {rb : Nat} {A : Option Addr} {n cc : Nat} {l : List UInt8} {p : Nat}
theorem step_id (h : RE W rb A n cc l (p + 1) 0) : Calls Tryz.prog 70 #[.pointer (some ⟨rb, 0, none⟩), .bool (idK (byt l p)), .func (.func 71) #[] #[]] W (fun e w' => e = .returned (.int .u64 (((wI l p).1 : Nat) : Int)) ∧ GoE rb (wI l p).2.1 (wI l p).2.2 W w') := enext_uint h _
theorem step_name (h : RE W rb A n cc l (wI l p).2.1 (wI l p).2.2) : Calls Tryz.prog 118 #[.pointer (some ⟨rb, 0, none⟩), .bool (nameK (byt l p)), .func (.func 11) #[] #[]] W (fun e w' => e = .returned (.string (strB (wT l p).1)) ∧ GoE rb (wT l p).2.1 (wT l p).2.2 W w') := enext_text h _
theorem step_value (h : RE W rb A n cc l (wT l p).2.1 (wT l p).2.2) : Calls Tryz.prog 119 #[.pointer (some ⟨rb, 0, none⟩), .bool (valueK (byt l p)), .func (.func 15) #[] #[]] W (fun e w' => VNx (wV l p).1 rb (wV l p).2.1 (wV l p).2.2 W e w') := enext_value h _
theorem step_int (h : RE W rb A n cc l (wV l p).2.1 (wV l p).2.2) : Calls Tryz.prog 120 #[.pointer (some ⟨rb, 0, none⟩), .bool (intK (byt l p)), .func (.func 13) #[] #[]] W (fun e w' => e = .returned (.int .i64 (wN l p).1) ∧ GoE rb (wN l p).2.1 (wN l p).2.2 W w') := enext_int h _
end
theorem min_id (V : Nat) : IntKind.i64.wrap (min (V : Int) 500) = ((Nat.min V 500 : Nat) : Int) := by
  have h : ((Nat.min V 500 : Nat) : Int) = min (V : Int) 500 := by
    show ((min V 500 : Nat) : Int) = _
    omega
  rw [h, IntWalk.i64_in _ (by omega)]
set_option maxRecDepth 100000 in
set_option maxHeartbeats 4000000 in
theorem evt_any {w : World} {rb : Nat} {A : Option Addr} {n cc : Nat} {l : List UInt8} {p : Nat} (h : RE w rb A n cc l p 0) :
    Calls Tryz.prog 72 #[.pointer (some ⟨rb, 0, none⟩)] w (EvPost l p rb w) := by
  have H := Lib.hid h
  have c0 := h.c0
  have c1 := h.c1
  have c2 := h.c2
  have f1 := h.f1
  have f2 := h.f2
  have hle := h.le
  have hlt := h.lt
  have hsm := h.bs.small
  have HL := Lib.hid h.bs.len
  have G0 := Lib.hid (GoE.refl h)
  have FZ := Lib.hid (And.intro f1 f2)
  by_cases hp : p < n
  · obtain ⟨b, off, rfl, hbl, hcell⟩ := h.bs.bytes (by omega)
    have hne := h.ne (by omega) b off rfl
    have cb : w.cell? ⟨b, off + p, none⟩ = some (.int .u8 (byt l p : Int)) := hcell p (by omega)
    clear hcell h
    have HP := Lib.hid (show ¬ l.length ≤ p by rw [HL.out]; omega)
    have HF := Lib.hid (fields_any (byt l p) (byt_lt l p))
    have heq : ((p : Int) == (n : Int)) = false := beq_eq_false_iff_ne.2 (by omega)
    by_cases hk : byt l p < 1 ∨ 12 < byt l p
    · have hf : (decide (1 ≤ byt l p) && decide (byt l p ≤ 12)) = false := by
        rcases hk with hk | hk
        · rw [decide_eq_false (show ¬ 1 ≤ byt l p by omega)]; rfl
        · rw [decide_eq_false (show ¬ byt l p ≤ 12 by omega), Bool.and_false]
      have EV := Lib.hid (ev_kind HP.out hk)
      unfold fieldsV at HF
      rw [hf] at HF
      clear hf hk
      generalize byt l p = k at *
      go_enter Tryz.func72, Tryz.ntmps72
      go_wp2_with fail
      refine (HF.out _).mono ?_
      rintro e w1 ⟨rfl, hb⟩
      have HB := Lib.hid (show Below w.heap.size w w1 from bthen (((Below.refl _ w).alloc (Nat.le_refl _) _).alloc (by simp) _) hb)
      have d1 := (HB.out.cell (p := ⟨rb, 1, none⟩) hlt).trans c1
      have d2 := (HB.out.cell (p := ⟨rb, 2, none⟩) hlt).trans c2
      have g2 := (HB.out.frozen (p := ⟨rb, 2, none⟩) hlt).trans f2
      have kx := fun j => hb.cell (p := ⟨w.heap.size, j, none⟩) (by simp <;> omega)
      have kf := fun j => hb.frozen (p := ⟨w.heap.size, j, none⟩) (by simp <;> omega)
      have x0 := kx 0
      have x1 := kx 1
      have x2 := kx 2
      have x3 := kx 3
      have x4 := kx 4
      simp at x0 x1 x2 x3 x4 kf
      have hsz : w.heap.size + 1 < w1.heap.size := by have := hb.size; simp at this; omega
      have RB : EvB w1 w.heap.size (.int .u8 0) (.int .i64 0) (.string ⟨#[]⟩) (.slice none 0 0) (.int .i64 0) := ⟨x0, x1, x2, x3, x4, kf, by omega⟩
      have ZB : EvB ((w1.setCell ⟨rb, 2, none⟩ (.int .i64 3)).alloc (.cells #[.bool false, .bool (idK k), .bool (nameK k), .bool (listK k), .bool (valueK k), .bool (intK k), .int .i64 (leastK k), .int .i64 (mostK k)] 214)) w.heap.size (.int .u8 0) (.int .i64 0) (.string ⟨#[]⟩) (.slice none 0 0) (.int .i64 0) :=
        (RB.other (by omega)).keep ((Below.refl _ _).alloc (Nat.le_refl _) _)
      have GE := Lib.hid (show GoE rb p 3 w ((w1.setCell ⟨rb, 2, none⟩ (.int .i64 3)).alloc (.cells #[.bool false, .bool (idK k), .bool (nameK k), .bool (listK k), .bool (valueK k), .bool (intK k), .int .i64 (leastK k), .int .i64 (mostK k)] 214)) from
        ((G0.out.behind hlt HB.out).then (GoE.store2 (er' := 3) d1 d2)).behind hlt ((Below.refl _ _).alloc (by simp; omega) _))
      obtain ⟨z0, z1, z2, z3, z4, zf, zl⟩ := ZB
      have hsl : rb < w1.heap.size := by omega
      clear kx hb RB x0 x1 x2 x3 x4 kf
      go_wp2_with fail
      refine bodyPost_ret (v := .agg #[.int .u8 0, .int .i64 0, .string ⟨#[]⟩, .slice none 0 0, .int .i64 0]) (by first | (simp [results, Tryz.results72, go_sem]; done) | (simp [results, Tryz.results72, go_sem, *]; done)) rfl (EvPost.bad EV.out (GE.out.behind hlt (by go_grown)))
    · have hf : (decide (1 ≤ byt l p) && decide (byt l p ≤ 12)) = true := by
        rw [decide_eq_true (show 1 ≤ byt l p by omega), decide_eq_true (show byt l p ≤ 12 by omega)]; rfl
      have HK := Lib.hid hk
      unfold fieldsV at HF
      rw [hf] at HF
      clear hf
      have hpl : p < l.length := by rw [HL.out]; exact hp
      have l1 := wI_le hpl
      have l2 := wT_le hpl
      have l3 := wV_le hpl
      have l4 := wN_le hpl
      rw [HL.out] at l1 l2 l3 l4
      have hmin := min_id (wI l p).1
      have HEB := Lib.hid (evt_bad (l := l) (p := p) HP.out hk)
      have HEE := Lib.hid (evt_end (l := l) (p := p) HP.out hk)
      have HCC := Lib.hid (fun he => evC_of (l := l) (p := p) (by rw [HL.out]; omega) hk he)
      have HEX := Lib.hid (fun he => (evX_eq (l := l) (p := p) he).1)
      clear hk hpl
      go_enter Tryz.func72, Tryz.ntmps72
      go_wp2_with fail
      refine (HF.out _).mono ?_
      rintro e w1 ⟨rfl, hb⟩
      have HB := Lib.hid (show Below w.heap.size w w1 from bthen (((Below.refl _ w).alloc (Nat.le_refl _) _).alloc (by simp) _) hb)
      have d1 := (HB.out.cell (p := ⟨rb, 1, none⟩) hlt).trans c1
      have d2 := (HB.out.cell (p := ⟨rb, 2, none⟩) hlt).trans c2
      have d0 := (HB.out.cell (p := ⟨rb, 0, none⟩) hlt).trans c0
      have g1 := (HB.out.frozen (p := ⟨rb, 1, none⟩) hlt).trans f1
      have hsz : w.heap.size + 1 < w1.heap.size := by have := hb.size; simp at this; omega
      have hsl : rb < w1.heap.size := by omega
      have RB : EvB w1 w.heap.size (.int .u8 0) (.int .i64 0) (.string ⟨#[]⟩) (.slice none 0 0) (.int .i64 0) := by
        have kx := fun j => hb.cell (p := ⟨w.heap.size, j, none⟩) (by simp <;> omega)
        have kf := fun j => hb.frozen (p := ⟨w.heap.size, j, none⟩) (by simp <;> omega)
        have x0 := kx 0
        have x1 := kx 1
        have x2 := kx 2
        have x3 := kx 3
        have x4 := kx 4
        simp at x0 x1 x2 x3 x4 kf
        exact ⟨x0, x1, x2, x3, x4, kf, by omega⟩
      have EB : EvB w1 (w.heap.size + 1) (.int .u8 (byt l p : Int)) (.int .i64 0) (.string ⟨#[]⟩) (.slice none 0 0) (.int .i64 0) := by
        have kx := fun j => hb.cell (p := ⟨w.heap.size + 1, j, none⟩) (by simp <;> omega)
        have kf := fun j => hb.frozen (p := ⟨w.heap.size + 1, j, none⟩) (by simp <;> omega)
        have x0 := kx 0
        have x1 := kx 1
        have x2 := kx 2
        have x3 := kx 3
        have x4 := kx 4
        simp at x0 x1 x2 x3 x4 kf
        exact ⟨x0, x1, x2, x3, x4, kf, by omega⟩
      have S0 : EvS w ((w1.setCell ⟨rb, 1, none⟩ (.int .i64 ((p : Int) + 1))).alloc (.cells #[.bool true, .bool (idK (byt l p)), .bool (nameK (byt l p)), .bool (listK (byt l p)), .bool (valueK (byt l p)), .bool (intK (byt l p)), .int .i64 (leastK (byt l p)), .int .i64 (mostK (byt l p))] 214)) rb (p + 1) 0 w1.heap.size (byt l p) (.int .i64 0) (.string ⟨#[]⟩) none 0 [] (.int .i64 0) := {
        go := ((G0.out.behind hlt HB.out).then (GoE.store1 (q := p + 1) d1 d2 ((p : Int) + 1) (by omega))).behind hlt ((Below.refl _ _).alloc (by simp; omega) _)
        r := (RB.other (by omega)).keep ((Below.refl _ _).alloc (Nat.le_refl _) _)
        e := (EB.other (by omega)).keep ((Below.refl _ _).alloc (Nat.le_refl _) _)
        f1 := by rw [cell_new _ _ (by simp)]; rfl
        f2 := by rw [cell_new _ _ (by simp)]; rfl
        f4 := by rw [cell_new _ _ (by simp)]; rfl
        f5 := by rw [cell_new _ _ (by simp)]; rfl
        lt := by simp
        ge := hsz
        nd := NodesIn.nil
        fr := Far.nil }
      have f1' := S0.f1
      have T0 := Lib.hid S0
      clear hb RB EB S0
      go_wp2_with fail
      refine (step_id (T0.out.go.re H.out (by omega))).mono ?_
      rintro e W1 ⟨rfl, g⟩
      have S1 := T0.out.next hlt g
      have f2' := S1.f2
      have T1 := Lib.hid S1
      clear g S1 T0 f1' d0 d1 d2 g1 c0 c1 c2 f1 f2 cb
      go_wp2_with fail
      refine (step_name (T1.out.go.re H.out l1)).mono ?_
      rintro e W2 ⟨rfl, g⟩
      have S2 := T1.out.next hlt g
      have T2 := Lib.hid (S2.set2 (u := .string (strB (wT l p).1)) hlt)
      have e2 := S2.e.c2
      have ez := S2.e.fz
      have f4' := T2.out.f4
      clear g S2 T1 f2'
      go_wp2_with fail
      refine (step_value (T2.out.go.re H.out l2)).mono ?_
      rintro e W3 ⟨A1, cc1, rfl, hn, hf, g⟩
      have S3 := T2.out.next hlt g
      have T3 := Lib.hid (S3.set3 (cc' := cc1) hlt hn (hf.mono (by have := T2.out.lt; omega)))
      have e3 := S3.e.c3
      have ez3 := S3.e.fz
      have f5' := T3.out.f5
      clear g S3 T2 f4' e2 ez hn hf
      go_wp2_with fail
      refine (step_int (T3.out.go.re H.out l3)).mono ?_
      rintro e W4 ⟨rfl, g⟩
      have S4 := T3.out.next hlt g
      have T4 := Lib.hid (S4.set4 (u := .int .i64 (wN l p).1) hlt)
      have T5 := Lib.hid (T4.out.set1 (u := .int .i64 ((Nat.min (wI l p).1 500 : Nat) : Int)) hlt)
      have e4 := S4.e.c4
      have ez4 := S4.e.fz
      have e1 := T4.out.e.c1
      have ez1 := T4.out.e.fz
      have r2 := T5.out.go.c2
      obtain ⟨y0, y1, y2, y3, y4, yf, yl⟩ := T5.out.r
      obtain ⟨x0, x1, x2, x3, x4, xf, xl⟩ := T5.out.e
      clear g S4 T3 f5' e3 ez3
      by_cases he : (wN l p).2.2 = 0
      · have he1 : ((wN l p).2.2 == 0) = true := beq_iff_eq.2 he
        have he2 : ((wN l p).2.2 != 0) = false := by rw [he]; rfl
        have EX := Lib.hid (HEX.out he)
        have CX := Lib.hid (HCC.out he)
        have EE := Lib.hid (HEE.out he)
        clear HEX HCC HEB HEE
        rw [he] at T5
        clear he
        go_wp2_with fail
        refine (chk_at EX.out CX.out T5.out.nd).mono ?_
        rintro e W6 ⟨rfl, hb⟩
        have S6 := T5.out.next hlt ((GoE.refl (T5.out.go.re H.out l4)).behind (Nat.lt_of_lt_of_le hlt T5.out.go.size) hb)
        have T6 := Lib.hid S6
        clear hb T5 y0 y1 y2 y3 y4 yf yl x0 x1 x2 x3 x4 xf xl e4 ez4 e1 ez1 r2
        have r1 := S6.go.c1
        have r2 := S6.go.c2
        have q1 := (S6.go.frozen 1).trans FZ.out.1
        have q2 := (S6.go.frozen 2).trans FZ.out.2
        obtain ⟨y0, y1, y2, y3, y4, yf, yl⟩ := S6.r
        obtain ⟨x0, x1, x2, x3, x4, xf, xl⟩ := S6.e
        have hsl2 : rb < W6.heap.size := Nat.lt_of_lt_of_le hlt S6.go.size
        clear S6
        unfold chkE
        cases hr : rightE (evX l p) with
        | true =>
          rw [hr] at EE
          have EV := Lib.hid (show evtS l p = (evX l p, (wN l p).2.1, 0) from EE.out)
          clear hr EE
          simp only [if_true]
          go_wp2_with fail
          refine bodyPost_ret (v := .agg #[.int .u8 (byt l p : Int), .int .i64 ((Nat.min (wI l p).1 500 : Nat) : Int), .string (strB (wT l p).1), .slice A1 (wV l p).1.length cc1, .int .i64 (wN l p).1]) (by first | (simp [results, Tryz.results72, go_sem]; done) | (simp [results, Tryz.results72, go_sem, *]; done)) rfl (EvPost.good EV.out EX.out ?nd (T6.out.fr.mono (by have := T6.out.ge; omega)) (T6.out.go.behind hlt (by go_grown)))
          case nd =>
            have hk2 := T6.out.ge
            exact ((((T6.out.nd.set T6.out.fr (by omega)).set T6.out.fr (by omega)).set T6.out.fr (by omega)).set T6.out.fr (by omega)).set T6.out.fr (by omega)
        | false =>
          rw [hr] at EE
          have EV := Lib.hid (show evtS l p = (zE, p, 3) from EE.out)
          clear hr EE
          simp only [Bool.false_eq_true, if_false]
          have G7 := Lib.hid (T6.out.go.then (GoE.store (q := p) (er' := 3) r1 r2 (p : Int) rfl))
          have b1 := G7.out.c1
          have b2 := G7.out.c2
          have ZB : EvB ((W6.setCell ⟨rb, 1, none⟩ (.int .i64 (p : Int))).setCell ⟨rb, 2, none⟩ (.int .i64 3)) w.heap.size (.int .u8 0) (.int .i64 0) (.string ⟨#[]⟩) (.slice none 0 0) (.int .i64 0) := (T6.out.r.other (by omega)).other (by omega)
          obtain ⟨z0, z1, z2, z3, z4, zf, zl⟩ := ZB
          clear y0 y1 y2 y3 y4 yf yl
          go_wp2_with fail
          refine bodyPost_ret (v := .agg #[.int .u8 0, .int .i64 0, .string ⟨#[]⟩, .slice none 0 0, .int .i64 0]) (by first | (simp [results, Tryz.results72, go_sem]; done) | (simp [results, Tryz.results72, go_sem, *]; done)) rfl (EvPost.bad EV.out (G7.out.behind hlt (by go_grown)))
      · have he1 : ((wN l p).2.2 == 0) = false := beq_eq_false_iff_ne.2 he
        have he2 : ((wN l p).2.2 != 0) = true := bne_iff_ne.2 he
        have EV := Lib.hid (HEB.out he)
        clear he
        go_wp2_with fail
        refine bodyPost_ret (v := .agg #[.int .u8 0, .int .i64 0, .string ⟨#[]⟩, .slice none 0 0, .int .i64 0]) (by first | (simp [results, Tryz.results72, go_sem]; done) | (simp [results, Tryz.results72, go_sem, *]; done)) rfl (EvPost.bad EV.out (T5.out.go.behind hlt (by go_grown)))
  · obtain rfl : p = n := by omega
    have EV := Lib.hid (ev_short (l := l) (p := p) (by rw [HL.out]; exact Nat.le_refl _))
    rw [HL.out] at EV
    have heq : ((p : Int) == (p : Int)) = true := beq_self_eq_true _
    clear h
    go_enter Tryz.func72, Tryz.ntmps72
    go_wp2_with fail
    refine bodyPost_ret (v := .agg #[.int .u8 0, .int .i64 0, .string ⟨#[]⟩, .slice none 0 0, .int .i64 0]) (by first | (simp [results, Tryz.results72, go_sem]; done) | (simp [results, Tryz.results72, go_sem, *]; done)) rfl (EvPost.bad EV.out ((GoE.store2 (er' := 4) c1 c2).behind hlt (by go_grown)))
end Go.Proofs.YtaeophaecclnbaaGreatDoor

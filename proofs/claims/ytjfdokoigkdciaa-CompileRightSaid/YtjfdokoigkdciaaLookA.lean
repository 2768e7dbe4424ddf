/- Meeting a place, walked. What the heap holds while all code is gone through: the places that are still to be gone through. In plain Lean. Meeting a place, with all that is known of the walk's state. -/
import Derived.Test.YtjfdokoigkdciaaHeapE
import Derived.Test.YtjfdokoigkdciaaInsV
import Derived.Test.YtjfdokoigkdciaaHeapA
import Derived.Test.YtjfdokoigkdciaaLookP
namespace Go.Proofs.Ytjfdokoigkdciaa
open Go.RowKit Go.Maps

/-- Where a walk's things lie. -/
structure Fx where
  A : Option Addr
  n : Nat
  cc : Nat
  wb : Nat
  db : Nat
  dc : Nat
  base : Nat
  sb : Nat
  bm : Nat
/-- A walk in memory. -/
structure WS (w : World) (x : Fx) (sl : Value) (nx : Int) (L : List Thing) (c : Nat) (d : List Int) : Prop where
  k0 : w.cell? ⟨x.wb, 0, none⟩ = some (.slice x.A x.n x.cc)
  k1 : w.cell? ⟨x.wb, 1, none⟩ = some (.slice (some ⟨x.db, 0, none⟩) x.n x.dc)
  k2 : w.cell? ⟨x.wb, 2, none⟩ = some (.pointer (some ⟨x.sb, 0, none⟩))
  dl : d.length = x.n
  dcell : ∀ j, j < x.n → w.cell? ⟨x.db, j, none⟩ = some (.int .i64 (dAt d j))
  dfz : ∀ j, w.frozen? ⟨x.db, j, none⟩ = false
  hp : HP w x.base x.sb x.bm sl nx L c
  wlt : x.wb < w.heap.size
  dlt : x.db < w.heap.size
  n1 : x.wb ≠ x.sb
  n2 : x.wb ≠ x.bm
  n3 : x.db ≠ x.sb
  n4 : x.db ≠ x.bm
  n5 : x.wb ≠ x.db
  n6 : ∀ g, sl.ownBlock = some g → g ≠ x.wb ∧ g ≠ x.db
section
variable {w w' : World} {x : Fx} {sl sl' : Value} {nx nx' : Int} {L L' : List Thing} {c c' : Nat} {d : List Int}
/-- The heap may be turned. -/
theorem WS.turn (h : WS w x sl nx L c d) (t : Turn w w' (fun k => k = x.sb ∨ k = x.bm ∨ sl.ownBlock = some k)) (hp : HP w' x.base x.sb x.bm sl' nx' L' c') (hg : ∀ g, sl'.ownBlock = some g → sl.ownBlock = some g ∨ w.heap.size ≤ g) : WS w' x sl' nx' L' c' d := by
  have pw : ¬ (x.wb = x.sb ∨ x.wb = x.bm ∨ sl.ownBlock = some x.wb) := fun e => e.elim h.n1 fun e => e.elim h.n2 fun e => (h.n6 _ e).1 rfl
  have pd : ¬ (x.db = x.sb ∨ x.db = x.bm ∨ sl.ownBlock = some x.db) := fun e => e.elim h.n3 fun e => e.elim h.n4 fun e => (h.n6 _ e).2 rfl
  exact {
    k0 := (t.cell 0 h.wlt pw).trans h.k0
    k1 := (t.cell 1 h.wlt pw).trans h.k1
    k2 := (t.cell 2 h.wlt pw).trans h.k2
    dl := h.dl
    dcell := fun j hj => (t.cell j h.dlt pd).trans (h.dcell j hj)
    dfz := fun j => (t.frozen j h.dlt pd).trans (h.dfz j)
    hp := hp
    wlt := Nat.lt_of_lt_of_le h.wlt t.size
    dlt := Nat.lt_of_lt_of_le h.dlt t.size
    n1 := h.n1
    n2 := h.n2
    n3 := h.n3
    n4 := h.n4
    n5 := h.n5
    n6 := fun g e => by
      rcases hg g e with e | e
      · exact h.n6 g e
      · have := h.wlt; have := h.dlt; omega }
theorem WS.below (h : WS w x sl nx L c d) (t : Below w.heap.size w w') : WS w' x sl nx L c d :=
  h.turn (Turn.of_below t) (h.hp.below t) (fun _ e => .inl e)
/-- A depth is laid. -/
theorem WS.store (h : WS w x sl nx L c d) (q : Nat) (hq : q < x.n) (v : Int) : WS (w.setCell ⟨x.db, q, none⟩ (.int .i64 v)) x sl nx L c (d.set q v) := by
  have t : Turn w (w.setCell ⟨x.db, q, none⟩ (.int .i64 v)) (fun k => k = x.db) := Turn.of_setCell (a := ⟨x.db, q, none⟩) rfl
  have hh := h.hp.keep t (fun e => h.n3 e.symm) (fun e => h.n4 e.symm) (fun g e => (h.n6 g e).2)
  exact {
    k0 := (t.cell 0 h.wlt h.n5).trans h.k0
    k1 := (t.cell 1 h.wlt h.n5).trans h.k1
    k2 := (t.cell 2 h.wlt h.n5).trans h.k2
    dl := by rw [List.length_set]; exact h.dl
    dcell := fun j hj => by
      rw [dAt_set _ _ _ _ (by rw [h.dl]; exact hq)]
      by_cases e : j = q
      · subst e; rw [if_pos rfl]; exact World.cell?_setCell_same _ _ _ (h.dcell j hj)
      · rw [if_neg e]; exact (World.cell?_setCell_other _ _ _ _ (fun e2 => by injection e2 with _ e3 _; exact e e3.symm)).trans (h.dcell j hj)
    dfz := fun j => (World.frozen?_setCell _ _ _ _).trans (h.dfz j)
    hp := hh
    wlt := by simpa using h.wlt
    dlt := by simpa using h.dlt
    n1 := h.n1
    n2 := h.n2
    n3 := h.n3
    n4 := h.n4
    n5 := h.n5
    n6 := h.n6 }
end

theorem meet_end {w : World} {x : Fx} {sl : Value} {nx : Int} {L : List Thing} {c : Nat} {d : List Int} (h : WS w x sl nx L c d) (depth : Int) (q : Int) (hq : q = (x.n : Int)) :
    Calls Try.prog 36 #[.pointer (some ⟨x.wb, 0, none⟩), .int .i64 q, .int .i64 depth] w (Ret (.bool false) w) := by
  have k0 := h.k0
  clear h
  obtain ⟨A, n, cc, wb, db, dc, base, sb, bm⟩ := x
  simp only at k0 hq
  have he : (q == (n : Int)) = true := beq_iff_eq.2 hq
  clear hq
  go_enter Try.func36, Try.ntmps36
  go_wp2_with fail
  go_ret
  exact ⟨rfl, rfl⟩
theorem meet_old {w : World} {x : Fx} {sl : Value} {nx : Int} {L : List Thing} {c : Nat} {d : List Int} (h : WS w x sl nx L c d) (depth : Int) (q : Nat) (hq : q < x.n) (h0 : 0 ≤ dAt d q) (hn : (x.n : Int) ≤ 8192) :
    Calls Try.prog 36 #[.pointer (some ⟨x.wb, 0, none⟩), .int .i64 q, .int .i64 depth] w (Ret (.bool (dAt d q == depth)) w) := by
  have k0 := h.k0
  have k1 := h.k1
  have dq := h.dcell q hq
  clear h
  obtain ⟨A, n, cc, wb, db, dc, base, sb, bm⟩ := x
  simp only at k0 k1 dq hq hn
  have he : ((q : Int) == (n : Int)) = false := beq_eq_false_iff_ne.2 (by omega)
  generalize dAt d q = v at dq h0
  have hv : decide (v < 0) = false := decide_eq_false (by omega)
  go_enter Try.func36, Try.ntmps36
  go_wp2_with fail
  go_ret
  exact ⟨rfl, rfl⟩
set_option maxHeartbeats 1000000 in
theorem meet_new {w : World} {x : Fx} {sl : Value} {nx : Int} {L : List Thing} {c : Nat} {d : List Int} (h : WS w x sl nx L c d) (hheap : IsHeap L) (hwf : wfL L) (depth : Int) (q : Nat) (hq : q < x.n) (h0 : dAt d q < 0) (hn : (x.n : Int) ≤ 8192)
    (hn0 : 0 ≤ nx) (hn1 : nx ≤ 1000000000) (h64 : (L.length : Int) ≤ 100000000) (hc : c + L.length + 3 < maxLen) :
    Calls Try.prog 36 #[.pointer (some ⟨x.wb, 0, none⟩), .int .i64 q, .int .i64 depth] w fun e w' => e = .returned (.bool true) ∧
      ∃ (L' : List Thing) (sl' : Value), L'.Perm (⟨q, nx, depth⟩ :: L) ∧ IsHeap L' ∧ WS w' x sl' (nx + 1) L' (c + L.length + 2) (d.set q depth) ∧ (∀ g, sl'.ownBlock = some g → sl.ownBlock = some g ∨ w.heap.size ≤ g) ∧
        Turn w w' (fun k => k = x.db ∨ k = x.sb ∨ k = x.bm ∨ sl.ownBlock = some k) := by
  have hS := h.store q hq depth
  have k0 := h.k0
  have k1 := h.k1
  have k2 := h.k2
  have dq := h.dcell q hq
  have df := h.dfz q
  have s0 := hS.k0
  have s1 := hS.k1
  have s2 := hS.k2
  have hww := h.wlt
  have hdd := h.dlt
  have n5 := h.n5
  have hwq : dAt (d.set q depth) q = depth := by rw [dAt_set _ _ _ _ (by rw [h.dl]; exact hq), if_pos rfl]
  have HW := Lib.hid hwq
  have HS := Lib.hid hS
  clear h hS hwq
  obtain ⟨A, n, cc, wb, db, dc, base, sb, bm⟩ := x
  simp only at k0 k1 k2 dq df s0 s1 s2 hww hdd n5 hq hn
  have he : ((q : Int) == (n : Int)) = false := beq_eq_false_iff_ne.2 (by omega)
  generalize dAt d q = v at dq h0
  have hv : decide (v < 0) = true := decide_eq_true (by omega)
  go_enter Try.func36, Try.ntmps36
  go_wp2_with fail
  refine (push_any HS.out.hp hheap hwf q depth hn0 hn1 h64 hc).mono ?_
  rintro e w3 ⟨rfl, L', sl', p', ih', hp', hg', t'⟩
  have hS3 := HS.out.turn t' hp' (fun g e => by simpa using hg' g e)
  have e1 := hS3.k1
  have e2 := hS3.dcell q hq
  rw [HW.out] at e2
  simp only at e1 e2
  have H3 := Lib.hid hS3
  clear hS3
  go_wp2_with fail
  go_ret
  exact ⟨rfl, L', sl', p', ih', H3.out, fun g e => by simpa using hg' g e, (Turn.of_setCell (a := ⟨db, q, none⟩) (u := .int .i64 depth) (.inl rfl)).then t' (fun j _ hj => .inr hj)⟩
end Go.Proofs.Ytjfdokoigkdciaa
namespace Go.Proofs.Ytjfdokoigkdciaa
open Go.RowKit

def cntD (d : List Int) : Nat := d.countP fun z => decide (0 ≤ z)
structure Sync (d : List Int) (g : List Bool) (nx : Int) (L : List Thing) : Prop where
  gl : g.length = d.length
  key : ∀ t ∈ L, ∃ p : Nat, p < d.length ∧ t.key = (p : Int) ∧ pendB d g p = true ∧ t.v = dAt d p
  all : ∀ p : Nat, p < d.length → pendB d g p = true → ∃ t ∈ L, t.key = (p : Int)
  nod : (L.map Thing.key).Nodup
  gone : ∀ p, p < d.length → gAt g p = true → 0 ≤ dAt d p
  num : nx = (cntD d : Int)
  len : (L.length : Int) ≤ nx
theorem cntD_le (d : List Int) : cntD d ≤ d.length := List.countP_le_length
theorem Sync.bound {d : List Int} {g : List Bool} {nx : Int} {L : List Thing} (h : Sync d g nx L) : 0 ≤ nx ∧ nx ≤ d.length ∧ L.length ≤ d.length := by
  have := cntD_le d; have := h.num; have := h.len; omega
theorem dAt_get {d : List Int} {i : Nat} (h : i < d.length) : dAt d i = d[i] := by unfold dAt; rw [List.getD, List.getElem?_eq_getElem h]; rfl
theorem sync_start (n : Nat) : Sync (List.replicate n (-1)) (g0S n) 0 [] where
  gl := by simp [g0S]
  key := fun t h => by cases h
  all := fun p hp h => by
    have := (pend_gone h).2
    rw [dAt_rep n p (by simpa using hp)] at this
    omega
  nod := List.nodup_nil
  gone := fun p hp h => by
    rw [gAt_g0 n p (by simpa using hp)] at h; cases h
  num := by
    have : cntD (List.replicate n (-1)) = 0 := by
      unfold cntD
      rw [List.countP_eq_zero]
      intro a ha
      have := List.eq_of_mem_replicate ha
      subst this
      decide
    rw [this]; rfl
  len := by simp
theorem sync_push {d : List Int} {g : List Bool} {nx : Int} {L L' : List Thing} (h : Sync d g nx L) {q : Nat} (hq : q < d.length) (hneg : dAt d q < 0) {depth : Int} (h0 : 0 ≤ depth) (hp : L'.Perm (⟨q, nx, depth⟩ :: L)) :
    Sync (d.set q depth) g (nx + 1) L' := by
  have hg : gAt g q = false := by
    cases hgq : gAt g q with
    | false => rfl
    | true => have := h.gone q hq hgq; omega
  have hD := fun i => dAt_set d q depth i hq
  have hpend : ∀ i, pendB (d.set q depth) g i = if i = q then true else pendB d g i := fun i => by
    unfold pendB
    rw [hD]
    by_cases e : i = q
    · subst e; rw [if_pos rfl, if_pos rfl, hg, decide_eq_true h0]; rfl
    · rw [if_neg e, if_neg e]
  have hold : ∀ t ∈ L, ∃ p : Nat, p < d.length ∧ t.key = (p : Int) ∧ pendB d g p = true ∧ t.v = dAt d p ∧ p ≠ q := fun t ht => by
    obtain ⟨p, h1, h2, h3, h4⟩ := h.key t ht
    refine ⟨p, h1, h2, h3, h4, fun e => ?_⟩
    subst e
    have := (pend_gone h3).2; omega
  exact {
    gl := by rw [List.length_set]; exact h.gl
    key := fun t ht => by
      rw [List.length_set]
      rcases List.mem_cons.1 (hp.mem_iff.1 ht) with e | e
      · subst e
        exact ⟨q, hq, rfl, by rw [hpend, if_pos rfl], by rw [hD, if_pos rfl]⟩
      · obtain ⟨p, h1, h2, h3, h4, h5⟩ := hold t e
        exact ⟨p, h1, h2, by rw [hpend, if_neg h5]; exact h3, by rw [hD, if_neg h5]; exact h4⟩
    all := fun p hp' hpe => by
      rw [List.length_set] at hp'
      rw [hpend] at hpe
      by_cases e : p = q
      · subst e; exact ⟨_, hp.mem_iff.2 (List.mem_cons_self ..), rfl⟩
      · rw [if_neg e] at hpe
        obtain ⟨t, h1, h2⟩ := h.all p hp' hpe
        exact ⟨t, hp.mem_iff.2 (List.mem_cons_of_mem _ h1), h2⟩
    nod := by
      rw [(hp.map Thing.key).nodup_iff, List.map_cons, List.nodup_cons]
      refine ⟨fun hm => ?_, h.nod⟩
      obtain ⟨t, h1, h2⟩ := List.mem_map.1 hm
      obtain ⟨p, _, h3, _, _, h5⟩ := hold t h1
      have h2' : t.key = (q : Int) := h2
      omega
    gone := fun p hp' hgp => by
      rw [List.length_set] at hp'
      rw [hD]
      split
      · exact h0
      · exact h.gone p hp' hgp
    num := by
      rw [h.num]
      have e : cntD (d.set q depth) = cntD d + 1 := by
        unfold cntD
        rw [List.countP_set hq]
        have hx : d[q] < 0 := by rw [← dAt_get hq]; exact hneg
        rw [decide_eq_true h0, decide_eq_false (by omega : ¬ 0 ≤ d[q])]
        simp
      rw [e]; omega
    len := by rw [hp.length_eq]; simp; exact h.len }
theorem sync_none {d : List Int} {g : List Bool} {nx : Int} (h : Sync d g nx []) : leastB d g = none := by
  rw [least_none]
  intro i hi
  cases he : pendB d g i with
  | false => rfl
  | true => obtain ⟨t, ht, _⟩ := h.all i hi he; cases ht
theorem sync_pop {d : List Int} {g : List Bool} {nx : Int} {L L' : List Thing} (h : Sync d g nx L) (h0 : 0 < L.length) (hh : IsHeap L) (hp : (atL L 0 :: L').Perm L) :
    ∃ p : Nat, leastB d g = some p ∧ (atL L 0).key = (p : Int) ∧ (atL L 0).v = dAt d p ∧ Sync d (g.set p true) nx L' := by
  have hm : atL L 0 ∈ L := by rw [atL_get _ _ h0]; exact List.getElem_mem _
  obtain ⟨p, h1, h2, h3, h4⟩ := h.key _ hm
  have hpg : p < g.length := by rw [h.gl]; exact h1
  have hn : ((atL L 0).key :: L'.map Thing.key).Nodup := by
    have := (hp.map Thing.key).nodup_iff.2 h.nod
    rwa [List.map_cons] at this
  rw [List.nodup_cons] at hn
  have hG := fun i => gAt_set g p i hpg
  have hpend : ∀ i, pendB d (g.set p true) i = if i = p then false else pendB d g i := fun i => by
    unfold pendB
    rw [hG]
    by_cases e : i = p
    · subst e; rw [if_pos rfl, if_pos rfl]; simp
    · rw [if_neg e, if_neg e]
  refine ⟨p, least_some.2 ⟨h1, h3, fun i hi => ?_⟩, h2, h4, ?_⟩
  · cases he : pendB d g i with
    | false => rfl
    | true =>
      obtain ⟨t, ht, hk⟩ := h.all i (by omega) he
      have := head_le hh t ht
      rw [leT_iff] at this
      omega
  · exact {
      gl := by rw [List.length_set]; exact h.gl
      key := fun t ht => by
        have htL : t ∈ L := hp.mem_iff.1 (List.mem_cons_of_mem _ ht)
        obtain ⟨q, a1, a2, a3, a4⟩ := h.key t htL
        have hne : q ≠ p := fun e => hn.1 (by
          rw [h2, ← e, ← a2]; exact List.mem_map.2 ⟨t, ht, rfl⟩)
        exact ⟨q, a1, a2, by rw [hpend, if_neg hne]; exact a3, a4⟩
      all := fun q hq hqe => by
        rw [hpend] at hqe
        by_cases e : q = p
        · rw [if_pos e] at hqe; cases hqe
        · rw [if_neg e] at hqe
          obtain ⟨t, ht, hk⟩ := h.all q hq hqe
          rcases List.mem_cons.1 (hp.mem_iff.2 ht) with e2 | e2
          · subst e2; omega
          · exact ⟨t, e2, hk⟩
      nod := hn.2
      gone := fun q hq hgq => by
        rw [hG] at hgq
        by_cases e : q = p
        · subst e; exact (pend_gone h3).2
        · rw [if_neg e] at hgq; exact h.gone q hq hgq
      num := h.num
      len := by
        have := hp.length_eq
        have := h.len
        simp at *
        omega }
end Go.Proofs.Ytjfdokoigkdciaa
namespace Go.Proofs.Ytjfdokoigkdciaa
open Go.RowKit Go.Maps

/-- A walk's state: the depths d, gone through g, m steps of the heap at most; K: the blocks that may be turned. -/
def St (w0 w : World) (x : Fx) (d : List Int) (g : List Bool) (m : Nat) (K : Nat → Prop) : Prop :=
  ∃ (sl : Value) (nx : Int) (L : List Thing) (c : Nat), WS w x sl nx L c d ∧ IsHeap L ∧ wfL L ∧ Sync d g nx L ∧ c ≤ 30000 * m ∧ Below w0.heap.size w0 w ∧
    (K x.db ∧ K x.sb ∧ K x.bm ∧ ∀ g, sl.ownBlock = some g → K g) ∧ ∀ k, K k → w0.heap.size ≤ k ∧ k < w.heap.size
/-- The blocks that may be turned behind a call. -/
def newK (K : Nat → Prop) (w w' : World) (k : Nat) : Prop := K k ∨ (w.heap.size ≤ k ∧ k < w'.heap.size)
def MPost (b : Bool) (w0 w : World) (x : Fx) (d : List Int) (g : List Bool) (m : Nat) (K : Nat → Prop) (e : Ending) (w' : World) : Prop :=
  e = .returned (.bool b) ∧ Turn w w' K ∧ St w0 w' x d g m (newK K w w')
section
variable {w0 w w' : World} {x : Fx} {d : List Int} {g : List Bool} {m m' : Nat} {K K' : Nat → Prop}
theorem St.base (h : St w0 w x d g m K) : w0.heap.size ≤ w.heap.size := by
  obtain ⟨sl, nx, L, c, _, _, _, _, _, hb, _⟩ := h; exact hb.size
theorem St.low (h : St w0 w x d g m K) : Below w0.heap.size w0 w := by
  obtain ⟨sl, nx, L, c, _, _, _, _, _, hb, _⟩ := h; exact hb
theorem St.lt (h : St w0 w x d g m K) {k : Nat} (hk : K k) : w0.heap.size ≤ k ∧ k < w.heap.size := by
  obtain ⟨sl, nx, L, c, _, _, _, _, _, _, _, hb⟩ := h; exact hb k hk
theorem St.cells (h : St w0 w x d g m K) : w.cell? ⟨x.wb, 0, none⟩ = some (.slice x.A x.n x.cc) ∧ w.cell? ⟨x.wb, 1, none⟩ = some (.slice (some ⟨x.db, 0, none⟩) x.n x.dc) ∧ w.cell? ⟨x.wb, 2, none⟩ = some (.pointer (some ⟨x.sb, 0, none⟩)) ∧
    d.length = x.n ∧ (∀ j, j < x.n → w.cell? ⟨x.db, j, none⟩ = some (.int .i64 (dAt d j))) ∧ x.wb < w.heap.size ∧ x.db < w.heap.size := by
  obtain ⟨sl, nx, L, c, h, _⟩ := h; exact ⟨h.k0, h.k1, h.k2, h.dl, h.dcell, h.wlt, h.dlt⟩
theorem St.below (h : St w0 w x d g m K) (t : Below w.heap.size w w') : St w0 w' x d g m K := by
  obtain ⟨sl, nx, L, c, h1, h2, h3, h4, h5, h6, h7, h8⟩ := h
  exact ⟨sl, nx, L, c, h1.below t, h2, h3, h4, h5, h6.trans (t.mono h6.size), h7, fun k hk => ⟨(h8 k hk).1, Nat.lt_of_lt_of_le (h8 k hk).2 t.size⟩⟩
theorem St.mono (h : St w0 w x d g m K) (hm : m ≤ m') (hK : ∀ k, K k → K' k) (hb : ∀ k, K' k → w0.heap.size ≤ k ∧ k < w.heap.size) : St w0 w x d g m' K' := by
  obtain ⟨sl, nx, L, c, h1, h2, h3, h4, h5, h6, ⟨a1, a2, a3, a4⟩, h8⟩ := h
  exact ⟨sl, nx, L, c, h1, h2, h3, h4, by omega, h6, ⟨hK _ a1, hK _ a2, hK _ a3, fun g e => hK _ (a4 g e)⟩, hb⟩
/-- A world that lies between. -/
theorem MPost.then {b : Bool} {e : Ending} {w1 : World} {m : Nat} (hbz : w0.heap.size ≤ w.heap.size) (h1 : Below w.heap.size w w1) (h : MPost b w0 w1 x d g m K e w') : MPost b w0 w x d g m K e w' := by
  obtain ⟨r1, r2, r3⟩ := h
  refine ⟨r1, (Turn.of_below h1).then r2 (fun _ _ h => h), r3.mono (Nat.le_refl _) (fun k hk => ?_) (fun k hk => ?_)⟩
  · rcases hk with hk | ⟨hk1, hk2⟩
    · exact .inl hk
    · exact .inr ⟨Nat.le_trans h1.size hk1, hk2⟩
  · rcases hk with hk | ⟨hk1, hk2⟩
    · exact r3.lt (.inl hk)
    · exact ⟨Nat.le_trans hbz hk1, hk2⟩
/-- Two such calls, one behind the other. -/
theorem MPost.twice {b b' : Bool} {e e' : Ending} {w1 w2 : World} {d' d'' : List Int} {m1 m2 : Nat} (hbz : w0.heap.size ≤ w.heap.size) (h : MPost b w0 w x d' g m1 K e w1) (h1 : Below w1.heap.size w1 w2) (k : MPost b' w0 w2 x d'' g m2 (newK K w w1) e' w') : MPost b' w0 w x d'' g m2 K e' w' := by
  obtain ⟨_, t1, s1⟩ := h
  obtain ⟨r1, r2, r3⟩ := k
  have h01 := t1.size
  have h12 := h1.size
  refine ⟨r1, (t1.then (q := newK K w w1) (Turn.of_below h1) (fun j hj hq => ?_)).then r2 (fun j hj hq => ?_), r3.mono (Nat.le_refl _) (fun k hk => ?_) (fun k hk => ?_)⟩
  · rcases hq with hq | hq
    · exact hq
    · omega
  · rcases hq with hq | hq
    · exact hq
    · omega
  · rcases hk with (hk | hk) | hk
    · exact .inl hk
    · exact .inr ⟨hk.1, by have := r2.size; omega⟩
    · exact .inr ⟨by omega, hk.2⟩
  · rcases hk with hk | ⟨hk1, hk2⟩
    · exact r3.lt (.inl (.inl hk))
    · exact ⟨Nat.le_trans hbz hk1, hk2⟩
theorem MPost.still {b : Bool} (h : St w0 w x d g m K) (h1 : Below w.heap.size w w') : MPost b w0 w x d g m K (.returned (.bool b)) w' := by
  have h2 := h.below h1
  refine ⟨rfl, Turn.of_below h1, h2.mono (Nat.le_refl _) (fun k hk => .inl hk) (fun k hk => ?_)⟩
  rcases hk with hk | ⟨hk1, hk2⟩
  · exact h2.lt hk
  · exact ⟨Nat.le_trans h.base hk1, hk2⟩
theorem MPost.more {b : Bool} {e : Ending} (h : MPost b w0 w x d g m K e w') (hm : m ≤ m') : MPost b w0 w x d g m' K e w' :=
  ⟨h.1, h.2.1, h.2.2.mono hm (fun _ h => h) (fun _ hk => h.2.2.lt hk)⟩
/-- A block of one's own is as it was behind such a call. -/
theorem MPost.cell {b : Bool} {e : Ending} (h : MPost b w0 w x d g m K e w') {k : Nat} (o : Nat) (hk : k < w.heap.size) (hK : ¬ K k) : w'.cell? ⟨k, o, none⟩ = w.cell? ⟨k, o, none⟩ := h.2.1.cell o hk hK
end

theorem meetS_new {d : List Int} {q : Nat} {depth : Int} (hq : q < d.length) (h : dAt d q < 0) : meetS d q depth = (d.set q depth, true) := by
  unfold meetS; rw [if_neg (by omega)]; exact if_pos h
theorem meetS_old {d : List Int} {q : Nat} {depth : Int} (hq : q < d.length) (h : ¬ dAt d q < 0) : meetS d q depth = (d, dAt d q == depth) := by
  unfold meetS; rw [if_neg (by omega)]; exact if_neg h
theorem meetS_end {d : List Int} {q : Nat} {depth : Int} (hq : d.length ≤ q) : meetS d q depth = (d, false) := by
  unfold meetS; rw [if_pos hq]
theorem meet_st {w0 w : World} {x : Fx} {d : List Int} {g : List Bool} {m : Nat} {K : Nat → Prop} (h : St w0 w x d g m K) (hn : (x.n : Int) ≤ 8192) (hm : m ≤ 1000000) (qi : Int) (q : Nat) (hqi : qi = (q : Int)) (hq : q ≤ x.n) (depth : Int) (h0 : 0 ≤ depth) :
    Calls Try.prog 36 #[.pointer (some ⟨x.wb, 0, none⟩), .int .i64 qi, .int .i64 depth] w (MPost (meetS d q depth).2 w0 w x (meetS d q depth).1 g (m + 1) K) := by
  subst hqi
  have hS := h
  obtain ⟨sl, nx, L, c, h1, h2, h3, h4, h5, h6, ⟨a1, a2, a3, a4⟩, h8⟩ := h
  have hdl := h1.dl
  have hbd := h4.bound
  by_cases hq2 : q = x.n
  · rw [meetS_end (by omega)]
    refine (meet_end h1 depth (q : Int) (by omega)).mono ?_
    rintro e w' ⟨rfl, rfl⟩
    exact MPost.still (hS.mono (by omega) (fun _ h => h) h8) (Below.refl _ _)
  · by_cases hneg : dAt d q < 0
    · rw [meetS_new (by omega) hneg]
      refine (meet_new h1 h2 h3 depth q (by omega) hneg hn (by omega) (by omega) (by omega) (by unfold maxLen; omega)).mono ?_
      rintro e w' ⟨rfl, L', sl', p', ih', hW, hg', t'⟩
      have hsz := t'.size
      have tK : Turn w w' K := t'.weaken (fun j hj => by
        rcases hj with rfl | rfl | rfl | hj
        · exact a1
        · exact a2
        · exact a3
        · exact a4 _ hj)
      refine ⟨rfl, tK, sl', nx + 1, L', _, hW, ih', ?_, sync_push h4 (by omega) hneg h0 p', by omega, ?_, ⟨.inl a1, .inl a2, .inl a3, fun g e => ?_⟩, fun k hk => ?_⟩
      · intro t ht
        rcases List.mem_cons.1 (p'.mem_iff.1 ht) with e | e
        · subst e
          exact WalkArith.wf_i64 ⟨by show _ ≤ nx; omega, by show nx ≤ _; omega⟩
        · exact h3 t e
      · exact h6.trans ⟨tK.1, tK.2.1, tK.2.2.1, hsz, fun k hk => tK.block (Nat.lt_of_lt_of_le hk h6.size) (fun hKk => by have := (h8 k hKk).1; omega)⟩
      · rcases hg' g e with e2 | e2
        · exact .inl (a4 g e2)
        · refine .inr ⟨e2, ?_⟩
          exact (hW.hp.row.lt g e).2
      · rcases hk with hk | ⟨k1, k2⟩
        · have := h8 k hk; omega
        · have := h6.size; omega
    · rw [meetS_old (by omega) hneg]
      refine (meet_old h1 depth q (by omega) (by omega) hn).mono ?_
      rintro e w' ⟨rfl, rfl⟩
      exact MPost.still (hS.mono (by omega) (fun _ h => h) h8) (Below.refl _ _)
end Go.Proofs.Ytjfdokoigkdciaa

/- Meeting a place, with all that is known of the walk's state. -/
import Derived.Test.YtefijgdbnjmifaaLookA
import Derived.Test.YtefijgdbnjmifaaSyncP
namespace Go.Proofs.Ytefijgdbnjmifaa
open Go.RowKit Go.Maps

/-- A walk's state: the depths d, gone through g, m steps of the heap at most; K: the blocks that may be turned. -/
def St (w0 w : World) (x : Fx) (d : List Int) (g : List Bool) (m : Nat) (K : Nat → Prop) : Prop :=
  ∃ (sl : Value) (nx : Int) (L : List Thing) (c : Nat), WS w x sl nx L c d ∧ IsHeap L ∧ wfL L ∧ Sync d g nx L ∧ c ≤ 30000 * m ∧ Below w0.heap.size w0 w ∧
    (K x.db ∧ K x.sb ∧ K x.bm ∧ ∀ g, sl.ownBlock = some g → K g) ∧ ∀ k, K k → w0.heap.size ≤ k ∧ k < w.heap.size
/-- The blocks that may be turned behind a call. -/
def newK (K : Nat → Prop) (w w' : World) (k : Nat) : Prop := K k ∨ (w.heap.size ≤ k ∧ k < w'.heap.size)
def MPost (b : Bool) (w0 w : World) (x : Fx) (d : List Int) (g : List Bool) (m : Nat) (K : Nat → Prop) (e : Ending) (w' : World) : Prop :=
  e = .returned (.bool b) ∧ Turn w w' K ∧ St w0 w' x d g m (newK K w w')
section
variable {w0 w w' : World} {x : Fx} {d : List Int} {g : List Bool} {m m' : Nat} {K K' : Nat → Prop}
theorem St.base (h : St w0 w x d g m K) : w0.heap.size ≤ w.heap.size := by
  obtain ⟨sl, nx, L, c, _, _, _, _, _, hb, _⟩ := h; exact hb.size
theorem St.low (h : St w0 w x d g m K) : Below w0.heap.size w0 w := by
  obtain ⟨sl, nx, L, c, _, _, _, _, _, hb, _⟩ := h; exact hb
theorem St.lt (h : St w0 w x d g m K) {k : Nat} (hk : K k) : w0.heap.size ≤ k ∧ k < w.heap.size := by
  obtain ⟨sl, nx, L, c, _, _, _, _, _, _, _, hb⟩ := h; exact hb k hk
theorem St.cells (h : St w0 w x d g m K) : w.cell? ⟨x.wb, 0, none⟩ = some (.slice x.A x.n x.cc) ∧ w.cell? ⟨x.wb, 1, none⟩ = some (.slice (some ⟨x.db, 0, none⟩) x.n x.dc) ∧ w.cell? ⟨x.wb, 2, none⟩ = some (.pointer (some ⟨x.sb, 0, none⟩)) ∧
    d.length = x.n ∧ (∀ j, j < x.n → w.cell? ⟨x.db, j, none⟩ = some (.int .i64 (dAt d j))) ∧ x.wb < w.heap.size ∧ x.db < w.heap.size := by
  obtain ⟨sl, nx, L, c, h, _⟩ := h; exact ⟨h.k0, h.k1, h.k2, h.dl, h.dcell, h.wlt, h.dlt⟩
theorem St.below (h : St w0 w x d g m K) (t : Below w.heap.size w w') : St w0 w' x d g m K := by
  obtain ⟨sl, nx, L, c, h1, h2, h3, h4, h5, h6, h7, h8⟩ := h
  exact ⟨sl, nx, L, c, h1.below t, h2, h3, h4, h5, h6.trans (t.mono h6.size), h7, fun k hk => ⟨(h8 k hk).1, Nat.lt_of_lt_of_le (h8 k hk).2 t.size⟩⟩
theorem St.mono (h : St w0 w x d g m K) (hm : m ≤ m') (hK : ∀ k, K k → K' k) (hb : ∀ k, K' k → w0.heap.size ≤ k ∧ k < w.heap.size) : St w0 w x d g m' K' := by
  obtain ⟨sl, nx, L, c, h1, h2, h3, h4, h5, h6, ⟨a1, a2, a3, a4⟩, h8⟩ := h
  exact ⟨sl, nx, L, c, h1, h2, h3, h4, by omega, h6, ⟨hK _ a1, hK _ a2, hK _ a3, fun g e => hK _ (a4 g e)⟩, hb⟩
/-- A world that lies between. -/
theorem MPost.then {b : Bool} {e : Ending} {w1 : World} {m : Nat} (hbz : w0.heap.size ≤ w.heap.size) (h1 : Below w.heap.size w w1) (h : MPost b w0 w1 x d g m K e w') : MPost b w0 w x d g m K e w' := by
  obtain ⟨r1, r2, r3⟩ := h
  refine ⟨r1, (Turn.of_below h1).then r2 (fun _ _ h => h), r3.mono (Nat.le_refl _) (fun k hk => ?_) (fun k hk => ?_)⟩
  · rcases hk with hk | ⟨hk1, hk2⟩
    · exact .inl hk
    · exact .inr ⟨Nat.le_trans h1.size hk1, hk2⟩
  · rcases hk with hk | ⟨hk1, hk2⟩
    · exact r3.lt (.inl hk)
    · exact ⟨Nat.le_trans hbz hk1, hk2⟩
/-- Two such calls, one behind the other. -/
theorem MPost.twice {b b' : Bool} {e e' : Ending} {w1 w2 : World} {d' d'' : List Int} {m1 m2 : Nat} (hbz : w0.heap.size ≤ w.heap.size) (h : MPost b w0 w x d' g m1 K e w1) (h1 : Below w1.heap.size w1 w2) (k : MPost b' w0 w2 x d'' g m2 (newK K w w1) e' w') : MPost b' w0 w x d'' g m2 K e' w' := by
  obtain ⟨_, t1, s1⟩ := h
  obtain ⟨r1, r2, r3⟩ := k
  have h01 := t1.size
  have h12 := h1.size
  refine ⟨r1, (t1.then (q := newK K w w1) (Turn.of_below h1) (fun j hj hq => ?_)).then r2 (fun j hj hq => ?_), r3.mono (Nat.le_refl _) (fun k hk => ?_) (fun k hk => ?_)⟩
  · rcases hq with hq | hq
    · exact hq
    · omega
  · rcases hq with hq | hq
    · exact hq
    · omega
  · rcases hk with (hk | hk) | hk
    · exact .inl hk
    · exact .inr ⟨hk.1, by have := r2.size; omega⟩
    · exact .inr ⟨by omega, hk.2⟩
  · rcases hk with hk | ⟨hk1, hk2⟩
    · exact r3.lt (.inl (.inl hk))
    · exact ⟨Nat.le_trans hbz hk1, hk2⟩
theorem MPost.still {b : Bool} (h : St w0 w x d g m K) (h1 : Below w.heap.size w w') : MPost b w0 w x d g m K (.returned (.bool b)) w' := by
  have h2 := h.below h1
  refine ⟨rfl, Turn.of_below h1, h2.mono (Nat.le_refl _) (fun k hk => .inl hk) (fun k hk => ?_)⟩
  rcases hk with hk | ⟨hk1, hk2⟩
  · exact h2.lt hk
  · exact ⟨Nat.le_trans h.base hk1, hk2⟩
theorem MPost.more {b : Bool} {e : Ending} (h : MPost b w0 w x d g m K e w') (hm : m ≤ m') : MPost b w0 w x d g m' K e w' :=
  ⟨h.1, h.2.1, h.2.2.mono hm (fun _ h => h) (fun _ hk => h.2.2.lt hk)⟩
/-- A block of one's own is as it was behind such a call. -/
theorem MPost.cell {b : Bool} {e : Ending} (h : MPost b w0 w x d g m K e w') {k : Nat} (o : Nat) (hk : k < w.heap.size) (hK : ¬ K k) : w'.cell? ⟨k, o, none⟩ = w.cell? ⟨k, o, none⟩ := h.2.1.cell o hk hK
end

theorem meetS_new {d : List Int} {q : Nat} {depth : Int} (hq : q < d.length) (h : dAt d q < 0) : meetS d q depth = (d.set q depth, true) := by
  unfold meetS; rw [if_neg (by omega)]; exact if_pos h
theorem meetS_old {d : List Int} {q : Nat} {depth : Int} (hq : q < d.length) (h : ¬ dAt d q < 0) : meetS d q depth = (d, dAt d q == depth) := by
  unfold meetS; rw [if_neg (by omega)]; exact if_neg h
theorem meetS_end {d : List Int} {q : Nat} {depth : Int} (hq : d.length ≤ q) : meetS d q depth = (d, false) := by
  unfold meetS; rw [if_pos hq]
theorem meet_st {w0 w : World} {x : Fx} {d : List Int} {g : List Bool} {m : Nat} {K : Nat → Prop} (h : St w0 w x d g m K) (hn : (x.n : Int) ≤ 8192) (hm : m ≤ 1000000) (qi : Int) (q : Nat) (hqi : qi = (q : Int)) (hq : q ≤ x.n) (depth : Int) (h0 : 0 ≤ depth) :
    Calls Try.prog 46 #[.pointer (some ⟨x.wb, 0, none⟩), .int .i64 qi, .int .i64 depth] w (MPost (meetS d q depth).2 w0 w x (meetS d q depth).1 g (m + 1) K) := by
  subst hqi
  have hS := h
  obtain ⟨sl, nx, L, c, h1, h2, h3, h4, h5, h6, ⟨a1, a2, a3, a4⟩, h8⟩ := h
  have hdl := h1.dl
  have hbd := h4.bound
  by_cases hq2 : q = x.n
  · rw [meetS_end (by omega)]
    refine (meet_end h1 depth (q : Int) (by omega)).mono ?_
    rintro e w' ⟨rfl, rfl⟩
    exact MPost.still (hS.mono (by omega) (fun _ h => h) h8) (Below.refl _ _)
  · by_cases hneg : dAt d q < 0
    · rw [meetS_new (by omega) hneg]
      refine (meet_new h1 h2 h3 depth q (by omega) hneg hn (by omega) (by omega) (by omega) (by unfold maxLen; omega)).mono ?_
      rintro e w' ⟨rfl, L', sl', p', ih', hW, hg', t'⟩
      have hsz := t'.size
      have tK : Turn w w' K := t'.weaken (fun j hj => by
        rcases hj with rfl | rfl | rfl | hj
        · exact a1
        · exact a2
        · exact a3
        · exact a4 _ hj)
      refine ⟨rfl, tK, sl', nx + 1, L', _, hW, ih', ?_, sync_push h4 (by omega) hneg h0 p', by omega, ?_, ⟨.inl a1, .inl a2, .inl a3, fun g e => ?_⟩, fun k hk => ?_⟩
      · intro t ht
        rcases List.mem_cons.1 (p'.mem_iff.1 ht) with e | e
        · subst e
          exact WalkArith.wf_i64 ⟨by show _ ≤ nx; omega, by show nx ≤ _; omega⟩
        · exact h3 t e
      · exact h6.trans ⟨tK.1, tK.2.1, tK.2.2.1, hsz, fun k hk => tK.block (Nat.lt_of_lt_of_le hk h6.size) (fun hKk => by have := (h8 k hKk).1; omega)⟩
      · rcases hg' g e with e2 | e2
        · exact .inl (a4 g e2)
        · refine .inr ⟨e2, ?_⟩
          exact (hW.hp.row.lt g e).2
      · rcases hk with hk | ⟨k1, k2⟩
        · have := h8 k hk; omega
        · have := h6.size; omega
    · rw [meetS_old (by omega) hneg]
      refine (meet_old h1 depth q (by omega) (by omega) hn).mono ?_
      rintro e w' ⟨rfl, rfl⟩
      exact MPost.still (hS.mono (by omega) (fun _ h => h) h8) (Below.refl _ _)
end Go.Proofs.Ytefijgdbnjmifaa

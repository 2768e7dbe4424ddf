/- The heap: pushing, walked. -/
import Derived.Test.YtefijgdbnjmifaaHeapG
namespace Go.Proofs.Ytefijgdbnjmifaa
open Go.RowKit Go.Maps

theorem infoT : (Try.prog.info? 115).map (fun i => (i.zero, i.size, i.bytes)) = some (some (.agg #[.int .i64 0, .int .i64 0, .int .i64 0]), 3, 24) := by kernel_rfl

theorem push_keep {w w1 : World} {sb : Nat} {u : Value} {o : Obj} {row : Option Nat} (hsb : sb < w.heap.size) (hg : ((w.setCell ⟨sb, 3, none⟩ u).alloc o).grownBy w1 row) (hne : some sb ≠ row) :
    (∀ j, j ≠ 3 → w1.cell? ⟨sb, j, none⟩ = w.cell? ⟨sb, j, none⟩) ∧ w1.cell? ⟨sb, 3, none⟩ = (w.setCell ⟨sb, 3, none⟩ u).cell? ⟨sb, 3, none⟩ ∧ (∀ j, w1.frozen? ⟨sb, j, none⟩ = w.frozen? ⟨sb, j, none⟩) ∧ sb < w1.heap.size := by
  have hs1 : sb < (w.setCell ⟨sb, 3, none⟩ u).heap.size := by simpa using hsb
  have hs2 : sb < ((w.setCell ⟨sb, 3, none⟩ u).alloc o).heap.size := by simp; omega
  have b1 := hg.block sb hs2 hne
  have b2 : ((w.setCell ⟨sb, 3, none⟩ u).alloc o).heap[sb]? = (w.setCell ⟨sb, 3, none⟩ u).heap[sb]? := heap_alloc_old _ _ hs1
  have b3 := b1.trans b2
  refine ⟨fun j hj => ?_, World.cell?_of_block (a := ⟨sb, 3, none⟩) b3, fun j => ?_, Nat.lt_of_lt_of_le hs2 hg.size⟩
  · exact (World.cell?_of_block (a := ⟨sb, j, none⟩) b3).trans (World.cell?_setCell_other _ _ _ _ (fun e => by injection e with _ e2 _; exact hj e2.symm))
  · exact (World.frozen?_of_block (a := ⟨sb, j, none⟩) b3).trans (World.frozen?_setCell _ _ _ _)
set_option maxRecDepth 100000 in
set_option maxHeartbeats 2000000 in
theorem push_any {w : World} {base sb bm : Nat} {sl : Value} {nx : Int} {L : List Thing} {c : Nat} (h : HP w base sb bm sl nx L c) (hheap : IsHeap L) (hwf : wfL L) (key v : Int) (hn0 : 0 ≤ nx) (hn1 : nx ≤ 1000000000) (h64 : (L.length : Int) ≤ 100000000) (hc : c + L.length + 3 < maxLen) :
    Calls Try.prog 57 #[.pointer (some ⟨sb, 0, none⟩), .int .i64 key, .int .i64 v] w fun e w' => e = .returned (.int .i64 nx) ∧
      ∃ (L' : List Thing) (sl' : Value), L'.Perm (⟨key, nx, v⟩ :: L) ∧ IsHeap L' ∧ HP w' base sb bm sl' (nx + 1) L' (c + L.length + 2) ∧ (∀ g, sl'.ownBlock = some g → sl.ownBlock = some g ∨ w.heap.size ≤ g) ∧ Turn w w' (fun k => k = sb ∨ k = bm ∨ sl.ownBlock = some k) := by
  obtain ⟨i0, hi, hz0, hz1, hz2⟩ := info_parts infoT
  have c0 := h.c0
  have c1 := h.c1
  have c3 := h.c3
  have f1 := h.fz 1
  have f3 := h.fz 3
  have hsb := h.lt_sb
  have hw1 : IntKind.i64.wrap (nx + 1) = nx + 1 := IntWalk.i64_in _ (by omega)
  have hw2 : IntKind.i64.wrap ((L.length : Int) + 1 - 1) = (L.length : Int) := by rw [IntWalk.i64_in _ (by omega)]; omega
  have hrow := h.row
  have hbs := h.hb
  have hss := h.hs
  have hrow2 : (w.setCell ⟨sb, 3, none⟩ (.int .i64 (nx + 1))).ownsRow base kT 3 sl L.length (cellsL L) := ownsRow_setCell_below hrow h.hs _
  have hown := fun g hg => h.own_ne (g := g) hg
  have hnew : ∀ o : Obj, ((w.setCell ⟨sb, 3, none⟩ (.int .i64 (nx + 1))).alloc o).heap[w.heap.size]? = some o := fun o => by have := heap_alloc_new (w.setCell ⟨sb, 3, none⟩ (.int .i64 (nx + 1))) o; simpa using this
  have hnes : some sb ≠ sl.ownBlock := fun e => (h.own_ne e.symm).2.2.1 rfl
  have H := Lib.hid h
  clear h
  go_enter Try.func57, Try.ntmps57
  go_wp2_with (at_builtin; refine wpList_append_lies _ (by rfl) _ _ _ (by rfl) base kT i0 (.agg #[.int .i64 0, .int .i64 0, .int .i64 0]) 3 24 Try.underlying92 hi hz0 hz1 hz2 rfl (by omega) _ L.length _ (by rfl) (hrow2.alloc _) ⟨w.heap.size, 0, none⟩ 1 1 [.int .i64 key, .int .i64 nx, .int .i64 v] (by rfl) (by rfl) (World.news_of_block (cs := #[.int .i64 key, .int .i64 nx, .int .i64 v]) (t := 115) (fr := (0, 0)) (hnew _)) (by simp [Value.oneCell']) (by omega) (by simp only [maxLen]; omega) (by omega) (by simp; omega) (w.heap.size + 1) (by simp) ?_; intro g cap w1 hown1 hgrow hat hlt1; obtain ⟨z1, z3, zf, zl⟩ := push_keep hsb hgrow hnes; have q1 := (z1 1 (by omega)).trans c1; have qf := (zf 1).trans f1)
  have hgne : g ≠ sb ∧ g ≠ bm := by
    have := (hown1.lt g rfl).1
    have := H.out.hm
    omega
  have hD0 := H.out.map
  have hbmne : some bm ≠ sl.ownBlock := fun e => (H.out.own_ne e.symm).2.2.2 rfl
  have bb : (w1.setCell ⟨sb, 1, none⟩ (.slice (some ⟨g, 0, none⟩) (L.length + 1) cap)).heap[bm]? = w.heap[bm]? := by
    rw [heap_setCell_other _ _ bm _ (fun e => H.out.ne e.symm)]
    rw [hgrow.block bm (by simp; have := H.out.lt_bm; omega) hbmne, heap_alloc_old _ _ (by simpa using H.out.lt_bm), heap_setCell_other _ _ bm _ (fun e => H.out.ne e.symm)]
  have hlen : (L ++ [(⟨key, nx, v⟩ : Thing)]).length = L.length + 1 := by simp
  have hp1 : HP (w1.setCell ⟨sb, 1, none⟩ (.slice (some ⟨g, 0, none⟩) (L.length + 1) cap)) base sb bm (.slice (some ⟨g, 0, none⟩) (L ++ [(⟨key, nx, v⟩ : Thing)]).length cap) (nx + 1) (L ++ [(⟨key, nx, v⟩ : Thing)]) c := {
    c0 := (World.cell?_setCell_other _ _ _ _ (by simp)).trans ((z1 0 (by omega)).trans H.out.c0)
    c1 := by rw [hlen]; exact World.cell?_setCell_same _ _ _ q1
    c2 := (World.cell?_setCell_other _ _ _ _ (by simp)).trans ((z1 2 (by omega)).trans H.out.c2)
    c3 := (World.cell?_setCell_other _ _ _ _ (by simp)).trans (z3.trans (World.cell?_setCell_same _ _ _ H.out.c3))
    fz := fun o => (World.frozen?_setCell _ _ _ _).trans ((zf o).trans (H.out.fz o))
    row := by
      rw [hlen, cellsL_append]
      exact ownsRow_setCell_below hown1 H.out.hs _
    map := by obtain ⟨D, hD⟩ := hD0; exact ⟨D, map_block hD bb⟩
    hs := H.out.hs
    hm := H.out.hm
    ne := H.out.ne
    hb := by simp; have := hgrow.size; simp at this; omega }
  have T1 : Turn w (w1.setCell ⟨sb, 1, none⟩ (.slice (some ⟨g, 0, none⟩) (L.length + 1) cap)) (fun k => k = sb ∨ k = bm ∨ sl.ownBlock = some k) :=
    (((Turn.of_setCell (a := ⟨sb, 3, none⟩) (u := .int .i64 (nx + 1)) (.inl rfl)).then (q := fun _ => False) (Turn.of_below ((Below.refl _ _).alloc (Nat.le_refl _) _)) (fun _ _ h => h.elim)).then (q := fun k => k = sb ∨ k = bm ∨ sl.ownBlock = some k)
      ⟨hgrow.os, hgrow.tape, hgrow.output, hgrow.size, fun k hk hn => hgrow.block k hk (fun e => hn (.inr (.inr e.symm)))⟩ (fun _ _ h => h)).then (q := fun k => k = sb) (Turn.of_setCell (a := ⟨sb, 1, none⟩) rfl) (fun _ _ h => .inl h)
  have hwf1 : wfL (L ++ [(⟨key, nx, v⟩ : Thing)]) := by
    intro t ht
    rcases List.mem_append.1 ht with h1 | h1
    · exact hwf t h1
    · have e := List.mem_singleton.1 h1
      subst e
      exact WalkArith.wf_i64 ⟨by show _ ≤ nx; omega, by show nx ≤ _; omega⟩
  refine (rise_any hp1 L.length (by omega) (up_push hheap _) hwf1 (by omega) (by omega)).mono ?_
  rintro e w3 ⟨rfl, L', p', ih', hp', t'⟩
  go_wp2_with fail
  go_ret
  rw [hlen] at hp'
  refine ⟨rfl, L', _, p'.trans (List.perm_append_singleton _ _), ih', hp'.mono (by omega), ?_, ?_⟩
  · intro g' hg'
    have e : g = g' := by simpa [Value.ownBlock] using hg'
    subst e
    rcases hat with h1 | h1
    · exact .inl h1
    · right; omega
  · refine T1.then t' (fun j hj hjg => ?_)
    rcases hjg with rfl | rfl
    · exact .inr (.inl rfl)
    · rcases hat with h1 | h1
      · exact .inr (.inr h1)
      · omega
end Go.Proofs.Ytefijgdbnjmifaa

/- The memory of telling code as bytes. -/
import Derived.Test.YtefijgdbnjmifaaDoorBytB
import Derived.Test.YtefijgdbnjmifaaDoorBytC
import Derived.Test.YtefijgdbnjmifaaDoorInstrK
namespace Go.Proofs.YtefijgdbnjmifaaDoor
open Go.RowKit

theorem cells_of {W : World} {b : Nat} {cs : Array Value} {t : TypeId} (h : W.heap[b]? = some (.cells cs t (0, 0))) (j : Nat) : W.cell? ⟨b, j, none⟩ = cs[j]? := by
  simp [World.cell?, h]
theorem alloc_new (W : World) (o : Obj) : (W.alloc o).heap[W.heap.size]? = some o := by
  show (W.heap.push o)[W.heap.size]? = some o
  simp
theorem own_base_le {w : World} {base base' : Nat} {v : Value} {bs : List UInt8} (h : OwnBy w base v bs) (hb : base' ≤ base) : OwnBy w base' v bs := by
  obtain ⟨h1, h2 | ⟨g, cap, cur, a, b, c, d⟩⟩ := h
  · exact ⟨h1, .inl h2⟩
  · exact ⟨h1, .inr ⟨g, cap, cur, a, Nat.le_trans hb b, c, d⟩⟩
/-- In the midst of a round: what has been told (v: bs), the instruction's block, its kind's block. -/
structure Rd (w W : World) (xb kb : Nat) (x : InsV) (kc : Array Value) (kt : TypeId) (v : Value) (bs : List UInt8) : Prop where
  low : Below w.heap.size w W
  own : OwnBy W w.heap.size v bs
  hx : W.heap[xb]? = some (.cells #[.int .u8 (x.op : Int), .int .i64 x.a, .int .i64 x.int, .string x.text] 36 (0, 0))
  hk : W.heap[kb]? = some (.cells kc kt (0, 0))
section
variable {w W W' : World} {xb kb : Nat} {x : InsV} {kc : Array Value} {kt : TypeId} {v v' : Value} {bs bs' : List UInt8}
theorem Rd.xlt (h : Rd w W xb kb x kc kt v bs) : xb < W.heap.size := (Array.getElem?_eq_some_iff.1 h.hx).1
theorem Rd.klt (h : Rd w W xb kb x kc kt v bs) : kb < W.heap.size := (Array.getElem?_eq_some_iff.1 h.hk).1
theorem Rd.below (h : Rd w W xb kb x kc kt v bs) (b : Below W.heap.size W W') : Rd w W' xb kb x kc kt v bs :=
  ⟨bthen h.low b, h.own.keep b, (b.block xb h.xlt).trans h.hx, (b.block kb h.klt).trans h.hk⟩
/-- Something has been put behind. -/
theorem Rd.put (h : Rd w W xb kb x kc kt v bs) (hkt : kt ≠ 5) {W1 : World} (b : Below W.heap.size W W1) (g : W1.grownBy W' v.ownBlock) (o : OwnBy W' w.heap.size v' bs') : Rd w W' xb kb x kc kt v' bs' := by
  have h1 := h.below b
  have ne : ∀ (q : Nat) (cs : Array Value) (t : TypeId), t ≠ 5 → W1.heap[q]? = some (.cells cs t (0, 0)) → v.ownBlock ≠ some q := fun q cs t ht hq e => by
    rcases h1.own.2 with ⟨rfl, _⟩ | ⟨g0, cap, cur, rfl, _, hc, _⟩
    · simp [Value.ownBlock] at e
    · simp [Value.ownBlock] at e
      subst e
      rw [hc] at hq
      injection hq with hq
      injection hq with _ h2 _
      exact ht h2.symm
  exact ⟨Below.grown h1.low g h1.low.size (fun q e => own_base h1.own e), o, (g.block xb h1.xlt (fun e => ne _ _ _ (by decide) h1.hx e.symm)).trans h1.hx, (g.block kb h1.klt (fun e => ne _ _ _ hkt h1.hk e.symm)).trans h1.hk⟩
end
/-- Bytes that are not none, as what is put behind. -/
theorem OwnBy.src {w : World} {base : Nat} {v : Value} {bs : List UInt8} (h : OwnBy w base v bs) (hn : 0 < bs.length) :
    ∃ g cap, v = .slice (some ⟨g, 0, none⟩) bs.length cap ∧ ∀ j u, (bs.map byteV)[j]? = some u → w.cell? ((⟨g, 0, none⟩ : Addr).add j) = some u := by
  obtain ⟨g, cap, hv, _, _⟩ := World.ownsRow.form h hn
  exact ⟨g, cap, hv, World.ownsRow.cells h (g := g) (by rw [hv]; rfl)⟩
theorem OwnBy.more {w : World} {base : Nat} {v : Value} {bs cs : List UInt8} (h : w.ownsRow base 5 1 v (bs.length + cs.length) (bs.map byteV ++ cs.map byteV)) : OwnBy w base v (bs ++ cs) := by
  unfold OwnBy
  rw [List.length_append, List.map_append]
  exact h
theorem OwnBy.of {w : World} {base n : Nat} {v : Value} {bs : List UInt8} {xs : List Value} (h : w.ownsRow base 5 1 v n xs) (e1 : n = bs.length) (e2 : xs = bs.map byteV) : OwnBy w base v bs := by
  subst e1 e2; exact h
theorem one_cells (bs : List UInt8) : ∀ u ∈ bs.map byteV, u.oneCell' = true := fun u hu => by
  obtain ⟨b, _, rfl⟩ := List.mem_map.1 hu
  rfl
theorem op_byte {op : Nat} (h : op < 256) : (.int .u8 (op : Int) : Value) = byteV (UInt8.ofNat op) := by
  have : (UInt8.ofNat op).toNat = op := by rw [UInt8.toNat_ofNat']; omega
  unfold byteV; rw [this]
end Go.Proofs.YtefijgdbnjmifaaDoor

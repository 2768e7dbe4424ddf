/- check.Slots: memory; a name that is entered, walked. -/
import Derived.Test.YtjfdokoigkdciaaKee
import Derived.Test.YtjfdokoigkdciaaSltP
import Derived.Maps.OwnSet
import Derived.Maps.OwnOps
import Derived.Maps.AppendAt
import Derived.StringKeys
namespace Go.Proofs.Ytjfdokoigkdciaa
open Go.RowKit Go.Maps

/-- The row g has one value more. -/
def RowNew (w' : World) (g : Nat) (e : TypeId) (cur : Array Value) (n : Nat) (u : Value) : Prop := ∃ cur' : Array Value, w'.heap[g]? = some (.cells cur' e (0, 0)) ∧ cur'.size = cur.size ∧ cur'.toList.take (n + 1) = cur.toList.take n ++ [u]
/-- An append of one value to a row with room. -/
theorem wpList_append_room1 {P : Program} (w : World) {ops : Array Oper} {rest : List Oper} {o : Oper} {a : Act} {Q : Exit → Act → World → Prop} (hgd : o.guard = none) (s x : Operand) (t : TypeId)
    (ho : o.op = .call { callee := .builtin .append, args := #[s, x], argTypes := #[t, t] })
    (e : TypeId) (i : TypeInfo) (ht : P.underlying t = some (.slice e)) (hi : P.info? e = some i) (hsize : i.size = 1)
    (g n cap : Nat) (cur : Array Value) (hs : a.eval s = .slice (some ⟨g, 0, none⟩) n cap) (hg : w.heap[g]? = some (.cells cur e (0, 0)))
    (ad : Addr) (c : Nat) (u : Value) (hx : a.eval x = .slice (some ad) 1 c) (hnew : ∀ j v, [u][j]? = some v → w.cell? (ad.add j) = some v) (h1 : u.oneCell' = true)
    (hroom : n + 1 ≤ cap) (hfit : n + 1 ≤ cur.size)
    (h : ∀ w', w.grownBy w' (some g) → RowNew w' g e cur n u → wpList P ops Q rest (a.put o.dst (.slice (some ⟨g, 0, none⟩) (n + 1) cap)) w') :
    wpList P ops Q (o :: rest) a w := by
  refine wpList_plain hgd fun K hK => ?_
  have hr := run_append_room (P := P) w t o.type e i ht hi g n cap cur hg ad 1 c [u] (by simp [hsize]) hnew (by simpa using h1) hroom (by simp [hsize]; omega)
  rw [hsize, Nat.mul_one] at hr
  have hk := h (w.setRow g (cur.toList.take n ++ [u] ++ cur.toList.drop (n + 1)).toArray) ⟨rfl, rfl, rfl, by simp, fun k _ hk => setRow_other w g k _ (fun e => hk (by rw [e]))⟩ ⟨_, setRow_heap w g cur _ e _ hg, by simp; omega, by
    have hl : (List.take n cur.toList).length = n := by simp; omega
    have hl2 : (List.take n cur.toList ++ [u]).length = n + 1 := by rw [List.length_append, hl]; rfl
    show List.take (n + 1) (List.take n cur.toList ++ [u] ++ List.drop (n + 1) cur.toList) = _
    rw [← hl2]
    exact List.take_left⟩
  unfold Oper.wp execOp
  simp only [ho, resolve, invoke, builtin, Sem.run_bind, Sem.run_pure, Result.andThen_ok, List.map_toArray, List.map_cons, List.map_nil, hs, hx, hr]
  exact hK _ _ hk

def kS : TypeId := 9
def kN : TypeId := 3
theorem keyedS : Keyed Try.prog kS := string_keyed Try.underlying9
theorem zeroN (w : World) : (zeroValue kN).run Try.prog w = .ok (.int .i64 0) w := by kernel_rfl
theorem key_of {s : ByteArray} (hs : s.size ≤ 1000) : keyOf Try.prog kS (.string s) = some (litS s) := Go.WideMaps.keyOf_string_mk Try.underlying9 (by unfold maxLen; omega)
theorem map_is : Try.prog.underlying 58 = some (.map kS kN) := Try.underlying58
abbrev MapS (w : World) (b n : Nat) (D : SeenD) : Prop := w.ownsMap Try.prog kS (plainElem Try.prog kN) b n D
theorem maps_block {w w' : World} {b n : Nat} {D : SeenD} (h : MapS w b n D) (hk : w'.heap[b]? = w.heap[b]?) : MapS w' b n D := by
  obtain ⟨es, cl, hb, hr⟩ := h
  exact ⟨es, cl, hk.trans hb, hr⟩
theorem maps_lt {w : World} {b n : Nat} {D : SeenD} (h : MapS w b n D) : b < w.heap.size := by
  obtain ⟨es, cl, hb, _⟩ := h
  exact (Array.getElem?_eq_some_iff.1 hb).1
/-- The value that the walk reads of the names that are seen. -/
def ansS (D : SeenD) (s : ByteArray) : Value := .tuple #[.int .i64 (intD (D.atKey (litS s) (.lit (.int .i64 0)))), .bool (Maps.has D (litS s))]
theorem maps_look {w : World} {b n : Nat} {D : SeenD} (h : MapS w b n D) {s : ByteArray} (hs : s.size ≤ 1000) :
    (Instr.lookup 58 (.map (some b)) (.string s) true).run Try.prog w = .ok (ansS D s) w := by
  obtain ⟨v, ps, hrun, hv⟩ := h.look_ok keyedS map_is (zeroN w) (plainElem_int Try.underlying3 (by decide)) (key_of hs)
  obtain ⟨c, rfl, hc, _⟩ := plainElem_int_inv Try.underlying3 hv
  simp only [Prod.mk.injEq] at hc
  rw [hrun, ansS, hc.1]
  rfl
/-- A row of whole numbers at a block. -/
def RowI (w : World) (rb cap : Nat) (l : List Int) : Prop := ∃ cur : Array Value, w.heap[rb]? = some (.cells cur 3 (0, 0)) ∧ cur.size = cap ∧ cur.toList.take l.length = l.map (fun i => Value.int .i64 i)
theorem RowI.block {w w' : World} {rb cap : Nat} {l : List Int} (h : RowI w rb cap l) (hk : w'.heap[rb]? = w.heap[rb]?) : RowI w' rb cap l := by
  obtain ⟨cur, h1, h2⟩ := h
  exact ⟨cur, hk.trans h1, h2⟩
theorem RowI.lt {w : World} {rb cap : Nat} {l : List Int} (h : RowI w rb cap l) : rb < w.heap.size := by
  obtain ⟨cur, h1, _⟩ := h
  exact (Array.getElem?_eq_some_iff.1 h1).1
/-- Where the variables of check.Slots lie. -/
structure SB where
  tp : Nat
  nb : Nat
  mb : Nat
  eb : Nat
  sb : Nat
  fb : Nat
  ob : Nat
  wb : Nat
  rb : Nat
  b : Nat
  A : Option Addr
  c : Nat
  cs : List InsV
def SB.ecaps (x : SB) : Array Value := #[.pointer (some ⟨x.sb, 0, none⟩), .pointer (some ⟨x.fb, 0, none⟩), .pointer (some ⟨x.mb, 0, none⟩), .pointer (some ⟨x.ob, 0, none⟩)]
def SB.caps (x : SB) : Array Value := #[.pointer (some ⟨x.tp, 0, none⟩), .pointer (some ⟨x.nb, 0, none⟩), .pointer (some ⟨x.mb, 0, none⟩), .pointer (some ⟨x.eb, 0, none⟩), .pointer (some ⟨x.sb, 0, none⟩), .pointer (some ⟨x.fb, 0, none⟩), .pointer (some ⟨x.ob, 0, none⟩), .pointer (some ⟨x.wb, 0, none⟩)]
def noS (x : SB) (k : Nat) : Prop := k = x.nb ∨ k = x.mb ∨ k = x.fb ∨ k = x.ob ∨ k = x.b ∨ k = x.rb
structure SW (x : SB) (s : SSt) (d : Nat) (w : World) : Prop where
  t : w.cell? ⟨x.tp, 0, none⟩ = some (.slice x.A x.cs.length x.c)
  nx : w.cell? ⟨x.nb, 0, none⟩ = some (.int .i64 (s.next : Int))
  md : w.cell? ⟨x.mb, 0, none⟩ = some (.int .i64 s.made)
  en : w.cell? ⟨x.eb, 0, none⟩ = some (.func (.func 17) #[] x.ecaps)
  sn : w.cell? ⟨x.sb, 0, none⟩ = some (.map (some x.b))
  ft : w.cell? ⟨x.fb, 0, none⟩ = some (.int .i64 s.fault)
  ou : w.cell? ⟨x.ob, 0, none⟩ = some (.slice (some ⟨x.rb, 0, none⟩) s.out.length x.cs.length)
  wk : w.cell? ⟨x.wb, 0, none⟩ = some (.func (.func 18) #[] x.caps)
  mp : ∃ n, n + d ≤ s.out.length ∧ MapS w x.b n s.seen
  ro : RowI w x.rb x.cs.length s.out
  code : CodeIn w x.A x.cs
  zn : w.frozen? ⟨x.nb, 0, none⟩ = false
  zm : w.frozen? ⟨x.mb, 0, none⟩ = false
  zf : w.frozen? ⟨x.fb, 0, none⟩ = false
  zo : w.frozen? ⟨x.ob, 0, none⟩ = false
structure SD (x : SB) : Prop where
  nm : x.nb ≠ x.mb
  nf : x.nb ≠ x.fb
  no : x.nb ≠ x.ob
  mf : x.mb ≠ x.fb
  mo : x.mb ≠ x.ob
  fo : x.fb ≠ x.ob
  bb : x.b ≠ x.nb ∧ x.b ≠ x.mb ∧ x.b ≠ x.fb ∧ x.b ≠ x.ob ∧ x.b ≠ x.rb
  rr : x.rb ≠ x.nb ∧ x.rb ≠ x.mb ∧ x.rb ≠ x.fb ∧ x.rb ≠ x.ob
  dt : ¬ noS x x.tp
  de : ¬ noS x x.eb
  ds : ¬ noS x x.sb
  dw : ¬ noS x x.wb
  dc : 0 < x.cs.length → ∀ b off, x.A = some ⟨b, off, none⟩ → ¬ noS x b
  ok : OkC x.cs
  len : x.cs.length ≤ 2048
/-- The variables behind a change of some of them. -/
theorem SW.move {x : SB} {s s' : SSt} {d d' : Nat} {w w' : World} (hd : SD x) (h : SW x s d w) (hk : Keep (noS x) w w') (h1 : w'.cell? ⟨x.nb, 0, none⟩ = some (.int .i64 (s'.next : Int))) (h2 : w'.cell? ⟨x.mb, 0, none⟩ = some (.int .i64 s'.made))
    (h3 : w'.cell? ⟨x.fb, 0, none⟩ = some (.int .i64 s'.fault)) (h4 : w'.cell? ⟨x.ob, 0, none⟩ = some (.slice (some ⟨x.rb, 0, none⟩) s'.out.length x.cs.length)) (h5 : ∃ n, n + d' ≤ s'.out.length ∧ MapS w' x.b n s'.seen) (h6 : RowI w' x.rb x.cs.length s'.out)
    (z1 : w'.frozen? ⟨x.nb, 0, none⟩ = false) (z2 : w'.frozen? ⟨x.mb, 0, none⟩ = false) (z3 : w'.frozen? ⟨x.fb, 0, none⟩ = false) (z4 : w'.frozen? ⟨x.ob, 0, none⟩ = false) : SW x s' d' w' :=
  ⟨(hk.cell (p := ⟨x.tp, 0, none⟩) (World.block_lt_of_cell? w _ h.t) hd.dt).trans h.t, h1, h2, (hk.cell (p := ⟨x.eb, 0, none⟩) (World.block_lt_of_cell? w _ h.en) hd.de).trans h.en,
    (hk.cell (p := ⟨x.sb, 0, none⟩) (World.block_lt_of_cell? w _ h.sn) hd.ds).trans h.sn, h3, h4, (hk.cell (p := ⟨x.wb, 0, none⟩) (World.block_lt_of_cell? w _ h.wk) hd.dw).trans h.wk, h5, h6, hk.code h.code hd.dc, z1, z2, z3, z4⟩
theorem SW.low {x : SB} {s : SSt} {d : Nat} {w w' : World} (hd : SD x) (h : SW x s d w) (hb : Below w.heap.size w w') : SW x s d w' := by
  have c := fun {k : Nat} {v : Value} (e : w.cell? ⟨k, 0, none⟩ = some v) => (hb.cell (p := ⟨k, 0, none⟩) (World.block_lt_of_cell? w _ e)).trans e
  have f := fun {k : Nat} {v : Value} (e : w.cell? ⟨k, 0, none⟩ = some v) (z : w.frozen? ⟨k, 0, none⟩ = false) => (hb.frozen (p := ⟨k, 0, none⟩) (World.block_lt_of_cell? w _ e)).trans z
  obtain ⟨n, hn, hm⟩ := h.mp
  exact h.move hd (Keep.of_below hb) (c h.nx) (c h.md) (c h.ft) (c h.ou) ⟨n, hn, maps_block hm (hb.block _ (maps_lt hm))⟩ (h.ro.block (hb.block _ h.ro.lt)) (f h.nx h.zn) (f h.md h.zm) (f h.ft h.zf) (f h.ou h.zo)
theorem SW.less {x : SB} {s : SSt} {d d' : Nat} {w : World} (h : SW x s d w) (hd : d' ≤ d) : SW x s d' w := by
  obtain ⟨a1, a2, a3, a4, a5, a6, a7, a8, ⟨n, hn, hm⟩, b1, b2, b3, b4, b5, b6⟩ := h
  exact ⟨a1, a2, a3, a4, a5, a6, a7, a8, ⟨n, by omega, hm⟩, b1, b2, b3, b4, b5, b6⟩
theorem addr_ne {k k' : Nat} (h : k ≠ k') : (⟨k, 0, none⟩ : Addr) ≠ ⟨k', 0, none⟩ := fun e => h (congrArg Addr.block e)
theorem block_set {w : World} {a : Addr} {u : Value} {k : Nat} (h : k ≠ a.block) : (w.setCell a u).heap[k]? = w.heap[k]? := Below.heap_setCell _ _ _ _ h
theorem SW.setN {x : SB} {s : SSt} {d : Nat} {w : World} (hd : SD x) (h : SW x s d w) (v : Nat) : SW x { s with next := v } d (w.setCell ⟨x.nb, 0, none⟩ (.int .i64 (v : Int))) := by
  obtain ⟨n, hn, hm⟩ := h.mp
  exact h.move hd ((Keep.refl _ w).setCell (.inl rfl) _) (World.cell?_setCell_same _ _ _ h.nx) ((World.cell?_setCell_other _ _ _ _ (addr_ne hd.nm)).trans h.md) ((World.cell?_setCell_other _ _ _ _ (addr_ne hd.nf)).trans h.ft) ((World.cell?_setCell_other _ _ _ _ (addr_ne hd.no)).trans h.ou)
    ⟨n, hn, maps_block hm (block_set hd.bb.1)⟩ (h.ro.block (block_set hd.rr.1)) (by rw [World.frozen?_setCell]; exact h.zn) (by rw [World.frozen?_setCell]; exact h.zm) (by rw [World.frozen?_setCell]; exact h.zf) (by rw [World.frozen?_setCell]; exact h.zo)
theorem SW.setM {x : SB} {s : SSt} {d : Nat} {w : World} (hd : SD x) (h : SW x s d w) (v : Int) : SW x { s with made := v } d (w.setCell ⟨x.mb, 0, none⟩ (.int .i64 v)) := by
  obtain ⟨n, hn, hm⟩ := h.mp
  exact h.move hd ((Keep.refl _ w).setCell (.inr (.inl rfl)) _) ((World.cell?_setCell_other _ _ _ _ (addr_ne hd.nm.symm)).trans h.nx) (World.cell?_setCell_same _ _ _ h.md) ((World.cell?_setCell_other _ _ _ _ (addr_ne hd.mf)).trans h.ft) ((World.cell?_setCell_other _ _ _ _ (addr_ne hd.mo)).trans h.ou)
    ⟨n, hn, maps_block hm (block_set hd.bb.2.1)⟩ (h.ro.block (block_set hd.rr.2.1)) (by rw [World.frozen?_setCell]; exact h.zn) (by rw [World.frozen?_setCell]; exact h.zm) (by rw [World.frozen?_setCell]; exact h.zf) (by rw [World.frozen?_setCell]; exact h.zo)
theorem SW.setF {x : SB} {s : SSt} {d : Nat} {w : World} (hd : SD x) (h : SW x s d w) (v : Int) : SW x { s with fault := v } d (w.setCell ⟨x.fb, 0, none⟩ (.int .i64 v)) := by
  obtain ⟨n, hn, hm⟩ := h.mp
  exact h.move hd ((Keep.refl _ w).setCell (.inr (.inr (.inl rfl))) _) ((World.cell?_setCell_other _ _ _ _ (addr_ne hd.nf.symm)).trans h.nx) ((World.cell?_setCell_other _ _ _ _ (addr_ne hd.mf.symm)).trans h.md) (World.cell?_setCell_same _ _ _ h.ft) ((World.cell?_setCell_other _ _ _ _ (addr_ne hd.fo)).trans h.ou)
    ⟨n, hn, maps_block hm (block_set hd.bb.2.2.1)⟩ (h.ro.block (block_set hd.rr.2.2.1)) (by rw [World.frozen?_setCell]; exact h.zn) (by rw [World.frozen?_setCell]; exact h.zm) (by rw [World.frozen?_setCell]; exact h.zf) (by rw [World.frozen?_setCell]; exact h.zo)
theorem Keep.grown {no : Nat → Prop} {w w' : World} {g : Nat} (h : w.grownBy w' (some g)) (hg : no g) : Keep no w w' := ⟨h.os, h.tape, h.output, h.size, fun k hk hn => h.block k hk (fun e => hn (by injection e with e; subst e; exact hg))⟩
/-- A slot laid down: the append, and the store of the slice. -/
theorem SW.app {x : SB} {s : SSt} {d : Nat} {w w1 : World} (hd : SD x) (h : SW x s d w) (v : Int) {cur : Array Value} (hct : cur.toList.take s.out.length = s.out.map (fun i => Value.int .i64 i)) (hcs : cur.size = x.cs.length)
    (hg : w.grownBy w1 (some x.rb)) (hr : RowNew w1 x.rb 3 cur s.out.length (.int .i64 v)) :
    SW x { s with out := s.out ++ [v] } (d + 1) (w1.setCell ⟨x.ob, 0, none⟩ (.slice (some ⟨x.rb, 0, none⟩) (s.out.length + 1) x.cs.length)) := by
  obtain ⟨n, hn, hm⟩ := h.mp
  have hk : Keep (noS x) w w1 := Keep.grown hg (.inr (.inr (.inr (.inr (.inr rfl)))))
  have bk : ∀ k, k < w.heap.size → k ≠ x.rb → w1.heap[k]? = w.heap[k]? := fun k hk hn => hg.block k hk (fun e => hn (by injection e))
  have c := fun {k : Nat} {v : Value} (hne : k ≠ x.rb) (e : w.cell? ⟨k, 0, none⟩ = some v) => (World.cell?_of_block (w := w) (a := ⟨k, 0, none⟩) (bk k (World.block_lt_of_cell? w _ e) hne)).trans e
  have f := fun {k : Nat} {v : Value} (hne : k ≠ x.rb) (e : w.cell? ⟨k, 0, none⟩ = some v) (z : w.frozen? ⟨k, 0, none⟩ = false) => (World.frozen?_of_block (w := w) (a := ⟨k, 0, none⟩) (bk k (World.block_lt_of_cell? w _ e) hne)).trans z
  obtain ⟨r1, r2, r3, r4⟩ := hd.rr
  obtain ⟨cur', g1, g2, g3⟩ := hr
  refine h.move hd (hk.setCell (.inr (.inr (.inr (.inl rfl)))) _) ((World.cell?_setCell_other _ _ _ _ (addr_ne hd.no.symm)).trans (c r1.symm h.nx)) ((World.cell?_setCell_other _ _ _ _ (addr_ne hd.mo.symm)).trans (c r2.symm h.md)) ((World.cell?_setCell_other _ _ _ _ (addr_ne hd.fo.symm)).trans (c r3.symm h.ft)) ?_
    ⟨n, by simp only [List.length_append, List.length_cons, List.length_nil]; omega, maps_block hm ((block_set hd.bb.2.2.2.1).trans (bk _ (maps_lt hm) hd.bb.2.2.2.2))⟩ ⟨cur', (block_set hd.rr.2.2.2).trans g1, g2.trans hcs, ?_⟩ ?_ ?_ ?_ ?_
  · simp only [List.length_append, List.length_cons, List.length_nil]
    exact World.cell?_setCell_same _ _ _ (c r4.symm h.ou)
  · simp only [List.length_append, List.length_cons, List.length_nil, List.map_append, List.map_cons, List.map_nil]
    rw [g3, hct]
  all_goals rw [World.frozen?_setCell]
  · exact f r1.symm h.nx h.zn
  · exact f r2.symm h.md h.zm
  · exact f r3.symm h.ft h.zf
  · exact f r4.symm h.ou h.zo
/-- All variables lie below a block. -/
structure SX (x : SB) (B : Nat) : Prop where
  tp : x.tp < B
  nb : x.nb < B
  mb : x.mb < B
  eb : x.eb < B
  sb : x.sb < B
  fb : x.fb < B
  ob : x.ob < B
  wb : x.wb < B
  rb : x.rb < B
  b : x.b < B
  c : 0 < x.cs.length → ∀ b off, x.A = some ⟨b, off, none⟩ → b < B
theorem SW.sx {x : SB} {s : SSt} {d : Nat} {w : World} (h : SW x s d w) : SX x w.heap.size :=
  ⟨World.block_lt_of_cell? w _ h.t, World.block_lt_of_cell? w _ h.nx, World.block_lt_of_cell? w _ h.md, World.block_lt_of_cell? w _ h.en, World.block_lt_of_cell? w _ h.sn, World.block_lt_of_cell? w _ h.ft, World.block_lt_of_cell? w _ h.ou, World.block_lt_of_cell? w _ h.wk, h.ro.lt,
    by obtain ⟨n, _, hm⟩ := h.mp; exact maps_lt hm, fun hl b off e => by
      obtain ⟨b', off', e', hlt, _⟩ := h.code hl
      rw [e] at e'
      cases e'
      exact hlt⟩
theorem SX.mono {x : SB} {B C : Nat} (h : SX x B) (hc : B ≤ C) : SX x C := by
  obtain ⟨a1, a2, a3, a4, a5, a6, a7, a8, a9, a10, a11⟩ := h
  exact ⟨by omega, by omega, by omega, by omega, by omega, by omega, by omega, by omega, by omega, by omega, fun hl b off e => Nat.lt_of_lt_of_le (a11 hl b off e) hc⟩
theorem SX.no {x : SB} {B k : Nat} (h : SX x B) (hk : B ≤ k) : ¬ noS x k := by
  have := h.nb
  have := h.mb
  have := h.fb
  have := h.ob
  have := h.b
  have := h.rb
  unfold noS
  omega
/-- The variables behind a change above them. -/
theorem SW.lowB {x : SB} {s : SSt} {d B : Nat} {w w' : World} (h : SW x s d w) (hB : SX x B) (hb : Below B w w') : SW x s d w' := by
  have c := fun {k : Nat} {v : Value} (hk : k < B) (e : w.cell? ⟨k, 0, none⟩ = some v) => (hb.cell (p := ⟨k, 0, none⟩) hk).trans e
  have f := fun {k : Nat} (hk : k < B) (z : w.frozen? ⟨k, 0, none⟩ = false) => (hb.frozen (p := ⟨k, 0, none⟩) hk).trans z
  obtain ⟨n, hn, hm⟩ := h.mp
  refine ⟨c hB.tp h.t, c hB.nb h.nx, c hB.mb h.md, c hB.eb h.en, c hB.sb h.sn, c hB.fb h.ft, c hB.ob h.ou, c hB.wb h.wk, ⟨n, hn, maps_block hm (hb.block _ hB.b)⟩, h.ro.block (hb.block _ hB.rb), fun hl => ?_, f hB.nb h.zn, f hB.mb h.zm, f hB.fb h.zf, f hB.ob h.zo⟩
  obtain ⟨b, off, e, hlt, hc⟩ := h.code hl
  have hbB := hB.c hl b off e
  have hk := fun o => hb.cell (p := ⟨b, o, none⟩) hbB
  exact ⟨b, off, e, Nat.lt_of_lt_of_le hlt hb.size, fun k hkk => by
    obtain ⟨h1, h2, h3, h4⟩ := hc k hkk
    exact ⟨(hk _).trans h1, (hk _).trans h2, (hk _).trans h3, (hk _).trans h4⟩⟩
/-- The variables behind a change of the map. -/
theorem SW.turned {x : SB} {s : SSt} {d d' n' : Nat} {w w' : World} {D : SeenD} (hd : SD x) (h : SW x s d w) (ht : w.mapTurned w' x.b) (hm : MapS w' x.b n' D) (hn : n' + d' ≤ s.out.length) : SW x { s with seen := D } d' w' ∧ Keep (noS x) w w' := by
  have hg := ht.grown
  have hk : Keep (noS x) w w' := Keep.grown hg (.inr (.inr (.inr (.inr (.inl rfl)))))
  have bk : ∀ k, k < w.heap.size → k ≠ x.b → w'.heap[k]? = w.heap[k]? := fun k hk hn => hg.block k hk (fun e => hn (by injection e))
  have c := fun {k : Nat} {v : Value} (hne : k ≠ x.b) (e : w.cell? ⟨k, 0, none⟩ = some v) => (World.cell?_of_block (w := w) (a := ⟨k, 0, none⟩) (bk k (World.block_lt_of_cell? w _ e) hne)).trans e
  obtain ⟨b1, b2, b3, b4, b5⟩ := hd.bb
  exact ⟨h.move hd hk (c b1.symm h.nx) (c b2.symm h.md) (c b3.symm h.ft) (c b4.symm h.ou) ⟨n', hn, hm⟩ (h.ro.block (bk _ h.ro.lt b5.symm)) (by rw [ht.frozen]; exact h.zn) (by rw [ht.frozen]; exact h.zm) (by rw [ht.frozen]; exact h.zf) (by rw [ht.frozen]; exact h.zo), hk⟩
end Go.Proofs.Ytjfdokoigkdciaa

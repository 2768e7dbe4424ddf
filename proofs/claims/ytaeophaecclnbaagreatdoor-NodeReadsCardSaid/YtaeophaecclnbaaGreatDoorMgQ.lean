/- A question's bytes read: node.Unpack, walked. The regions that hand a question back: ten cells are loaded and stored, in whatever order: each a lemma over any frame. Printed by gen_reg.py. node.Unpack, walked. Its end printed by gen_nfu2.py. -/
import Derived.Test.YtaeophaecclnbaaGreatDoorNxEQ
import Derived.Test.YtaeophaecclnbaaGreatDoorMgF
import Derived.Lib.ConvBytes
import Derived.Deep.RegionHeld3
import Derived.RegionTactic
import Derived.Lib.AtoiErrMem
import Derived.Deep.DeepCutAuto
namespace Go.Proofs.YtaeophaecclnbaaGreatDoor
open Go.RowKit

/-- A block of known cells. -/
structure Cs (W : World) (k : Nat) (cs : List Value) : Prop where
  c : ∀ j u, cs[j]? = some u → W.cell? ⟨k, j, none⟩ = some u
  f : ∀ j, W.frozen? ⟨k, j, none⟩ = false
  lt : k < W.heap.size
section
variable {W W' : World} {k rb q : Nat} {er : Int} {cs : List Value}
theorem Cs.keep (h : Cs W k cs) (g : Below W.heap.size W W') : Cs W' k cs := ⟨fun j u hj => (g.cell (p := ⟨k, j, none⟩) h.lt).trans (h.c j u hj), fun j => (g.frozen (p := ⟨k, j, none⟩) h.lt).trans (h.f j), Nat.lt_of_lt_of_le h.lt g.size⟩
theorem Cs.go (h : Cs W k cs) (hr : k ≠ rb) (g : GoE rb q er W W') : Cs W' k cs := by
  have hb := g.block k h.lt hr
  exact ⟨fun j u hj => (World.cell?_of_block (a := ⟨k, j, none⟩) hb).trans (h.c j u hj), fun j => (World.frozen?_of_block (a := ⟨k, j, none⟩) hb).trans (h.f j), Nat.lt_of_lt_of_le h.lt g.size⟩
theorem Cs.set (h : Cs W k cs) (i : Nat) (v : Value) : Cs (W.setCell ⟨k, i, none⟩ v) k (cs.set i v) := by
  refine ⟨fun j u hj => ?_, fun j => (World.frozen?_setCell _ _ _ _).trans (h.f j), by simpa using h.lt⟩
  by_cases e : i = j
  · subst e
    rw [List.getElem?_set] at hj
    simp only [if_true] at hj
    split at hj
    · rename_i hl
      have hc := h.c i _ (List.getElem?_eq_getElem hl)
      injection hj with hj
      subst hj
      exact World.cell?_setCell_same _ _ _ hc
    · cases hj
  · rw [List.getElem?_set_ne e] at hj
    exact (World.cell?_setCell_other _ _ _ _ (adne k e)).trans (h.c j u hj)
theorem Cs.new (W : World) {k : Nat} (hk : W.heap.size = k) (cs : List Value) (t : TypeId) : Cs (W.alloc (.cells cs.toArray t)) k cs :=
  ⟨fun j u hj => by rw [cell_new _ _ hk]; simpa using hj, fun j => frozen_new _ _ hk _ _ _, by rw [← hk]; simp⟩
end
/-- The bytes of a text, as the conversion lays them. -/
theorem bs_text (w : World) (t : TypeId) (s : ByteArray) (hs : s.size ≤ 140737488351232) : BS (Lib.bytesWorld w t s) (some ⟨w.heap.size, 0, none⟩) s.size (grownCap w s.size 0 t) s.data.toList where
  len := by
    show s.data.toList.length = s.data.size
    rw [Array.length_toList]
  bytes := fun _ => ⟨w.heap.size, 0, rfl, by rw [Lib.bytesWorld_size]; omega, fun j hj => by
    rw [Nat.zero_add]
    exact Lib.bytesWorld_cell w t s j (by omega)⟩
  cap := grownCap_ge w _ _ _
  capb := by
    have := grownCap_le_maxLen w s.size 0 t (by unfold maxLen; omega)
    unfold maxLen at this
    omega
  nil := fun e => by cases e
  small := by omega
theorem RE.oth {W : World} {rb k o : Nat} {A : Option Addr} {n cc : Nat} {l : List UInt8} {p : Nat} {er : Int} {u : Value} (h : RE W rb A n cc l p er) (hk : rb ≠ k) (hb : ∀ b off, A = some ⟨b, off, none⟩ → b ≠ k) : RE (W.setCell ⟨k, o, none⟩ u) rb A n cc l p er := by
  have hr : (W.setCell ⟨k, o, none⟩ u).heap[rb]? = W.heap[rb]? := heap_setCell_other _ _ rb _ hk
  exact ⟨(World.cell?_of_block hr).trans h.c0, (World.cell?_of_block hr).trans h.c1, (World.cell?_of_block hr).trans h.c2, (World.frozen?_of_block (a := ⟨rb, 1, none⟩) hr).trans h.f1, (World.frozen?_of_block (a := ⟨rb, 2, none⟩) hr).trans h.f2,
    ⟨h.bs.len, fun hn => let ⟨b, off, e, hlt, hc⟩ := h.bs.bytes hn; ⟨b, off, e, by simpa using hlt, fun j hj => (World.cell?_of_block (a := ⟨b, off + j, none⟩) (heap_setCell_other _ _ b _ (hb b off e))).trans (hc j hj)⟩, h.bs.cap, h.bs.capb, h.bs.nil, h.bs.small⟩,
    h.le, h.ne, by simpa using h.lt, h.adr⟩
/-- While a question is read: it lies in block w.heap.size, its bytes in the next one, the reader in block rb behind. -/
structure UnS (w W : World) (rb n cc : Nat) (l : List UInt8) (s : Rs) (cs : List Value) : Prop where
  bel : Below w.heap.size w W
  re : RE W rb (some ⟨w.heap.size + 1, 0, none⟩) n cc l s.at_ s.e
  ask : Cs W w.heap.size cs
  gt : w.heap.size + 1 < rb
section
variable {w W W' : World} {rb n cc q : Nat} {l : List UInt8} {s : Rs} {er : Int} {cs : List Value}
theorem UnS.next (h : UnS w W rb n cc l s cs) (g : GoE rb q er W W') (hq : q ≤ n) : UnS w W' rb n cc l ⟨q, er⟩ cs := by
  have hg := h.gt
  have hs := h.bel.size
  exact ⟨h.bel.trans (g.below (by omega) hs), g.re h.re hq, h.ask.go (by omega) g, h.gt⟩
theorem UnS.keep (h : UnS w W rb n cc l s cs) (g : Below W.heap.size W W') : UnS w W' rb n cc l s cs := ⟨bthen h.bel g, h.re.keep g, h.ask.keep g, h.gt⟩
theorem UnS.set (h : UnS w W rb n cc l s cs) (i : Nat) (v : Value) : UnS w (W.setCell ⟨w.heap.size, i, none⟩ v) rb n cc l s (cs.set i v) := by
  have hg := h.gt
  exact ⟨h.bel.setCell (p := ⟨w.heap.size, i, none⟩) (Nat.le_refl _) _, h.re.oth (by omega) (fun b off e => by injection e with e; injection e with e _ _; omega), h.ask.set i v, h.gt⟩
end
theorem EvsR.set {w : World} {B cap k o : Nat} {A : Option Addr} {v : List Ev} {u : Value} (h : EvsR w B A cap v) (hk : k < B) : EvsR (w.setCell ⟨k, o, none⟩ u) B A cap v := by
  obtain ⟨c, h1, h2⟩ := h
  exact ⟨c, ⟨own_kept h1.own fun j hj hl => heap_setCell_other _ _ j _ (by show j ≠ k; omega), fun e he => ⟨(h1.val e he).1.set (h1.val e he).2 hk, (h1.val e he).2⟩, h1.ne⟩, h2⟩

theorem u11_le {l : List UInt8} (hl : l.length ≤ 140737488351232) : (u11 l).at_ ≤ l.length := by
  have h10 := @u10_le l
  unfold u11
  by_cases he : (u10 l).e = 0
  · rw [nxS_is he]
    have := hist_pos (l := l.drop (u10 l).at_) (by rw [List.length_drop]; omega)
    rw [List.length_drop] at this
    show (u10 l).at_ + _ ≤ _
    omega
  · rw [nxS_no he]
    exact h10
theorem EvsR.mono' {w : World} {B B' cap : Nat} {A : Option Addr} {v : List Ev} (h : EvsR w B A cap v) (hB : B' ≤ B) : EvsR w B' A cap v := by
  obtain ⟨c, h1, h2⟩ := h
  exact ⟨c, h1.mono hB hB, h2⟩
theorem cell_drew {W : World} {a : Addr} {v : Value} (h : W.cell? a = some v) : W.drew.cell? a = some v := h
/-- A store of ten cells elsewhere. -/
theorem far10 {W : World} {k b o : Nat} {v0 v1 v2 v3 v4 v5 v6 v7 v8 v9 u : Value} (h : W.cell? ⟨b, o, none⟩ = some u) (hb : b ≠ k) : World.cell? ((((((((((W.setCell ⟨k, 0, none⟩ v0).setCell ⟨k, 1, none⟩ v1).setCell ⟨k, 2, none⟩ v2).setCell ⟨k, 3, none⟩ v3).setCell ⟨k, 4, none⟩ v4).setCell ⟨k, 5, none⟩ v5).setCell ⟨k, 6, none⟩ v6).setCell ⟨k, 7, none⟩ v7).setCell ⟨k, 8, none⟩ v8).setCell ⟨k, 9, none⟩ v9) ⟨b, o, none⟩ = some u := by
  have e : ∀ (W : World) (i : Nat) (v : Value), (W.setCell ⟨k, i, none⟩ v).cell? ⟨b, o, none⟩ = W.cell? ⟨b, o, none⟩ := fun W i v => World.cell?_of_block (heap_setCell_other _ _ b _ hb)
  rw [e, e, e, e, e, e, e, e, e, e]
  exact h
/-- A store of the ten cells that lie there. -/
theorem near10 {W : World} {k : Nat} {v0 v1 v2 v3 v4 v5 v6 v7 v8 v9 : Value} (h : Cs W k [v0, v1, v2, v3, v4, v5, v6, v7, v8, v9]) : Cs ((((((((((W.setCell ⟨k, 0, none⟩ v0).setCell ⟨k, 1, none⟩ v1).setCell ⟨k, 2, none⟩ v2).setCell ⟨k, 3, none⟩ v3).setCell ⟨k, 4, none⟩ v4).setCell ⟨k, 5, none⟩ v5).setCell ⟨k, 6, none⟩ v6).setCell ⟨k, 7, none⟩ v7).setCell ⟨k, 8, none⟩ v8).setCell ⟨k, 9, none⟩ v9) k [v0, v1, v2, v3, v4, v5, v6, v7, v8, v9] := by
  have h10 := ((((((((((h).set 0 v0).set 1 v1).set 2 v2).set 3 v3).set 4 v4).set 5 v5).set 6 v6).set 7 v7).set 8 v8).set 9 v9
  exact h10
end Go.Proofs.YtaeophaecclnbaaGreatDoor
namespace Go.Proofs.YtaeophaecclnbaaGreatDoor
open Go.RowKit

/-- A region of a code, by its number. -/
def regOf (n : Nat) : Code → Option Code
  | .region m ops b => if m = n then some (.region m ops b) else none
  | .seq a b => (regOf n a).or (regOf n b)
  | .cond _ a b => (regOf n a).or (regOf n b)
  | _ => none
theorem full10 {W : World} {k : Nat} {cs : List Value} {v0 v1 v2 v3 v4 v5 v6 v7 v8 v9 : Value} (h : Cs W k cs) (hl : cs.length = 10) : Cs (World.drew (World.setCell (World.setCell (World.setCell (World.setCell (World.setCell (World.setCell (World.setCell (World.setCell (World.setCell (World.setCell W ⟨k, 0, none⟩ v0) ⟨k, 1, none⟩ v1) ⟨k, 2, none⟩ v2) ⟨k, 3, none⟩ v3) ⟨k, 4, none⟩ v4) ⟨k, 5, none⟩ v5) ⟨k, 6, none⟩ v6) ⟨k, 7, none⟩ v7) ⟨k, 8, none⟩ v8) ⟨k, 9, none⟩ v9)) k [v0, v1, v2, v3, v4, v5, v6, v7, v8, v9] := by
  match cs, hl with
  | [u0, u1, u2, u3, u4, u5, u6, u7, u8, u9], _ =>
    have h10 := ((((((((((h).set 0 v0).set 1 v1).set 2 v2).set 3 v3).set 4 v4).set 5 v5).set 6 v6).set 7 v7).set 8 v8).set 9 v9
    exact Cs.keep h10 ((Below.refl _ _).drew)
set_option maxRecDepth 100000 in
set_option maxHeartbeats 4000000 in
theorem region_node {K : Act → World → Prop} {Post : Ending → World → Prop} {x0 x1 x3 x4 x6 x7 x8 x9 x10 x11 x12 x13 x14 x15 x16 x17 x18 x19 x20 x21 x22 x23 x24 x25 x26 x27 x28 x29 x30 x31 x32 x33 x34 x35 x36 x37 x38 x39 x40 x41 x42 x43 x44 x45 x46 x47 x48 x49 x50 x51 x52 x53 x54 x55 x56 x57 x58 x59 x60 x61 x62 x63 x64 x65 x66 x67 : Value} {ds : List Deferred} {W : World} {k rb : Nat} {s0 s3 s4 s5 : ByteArray} {z1 z2 z7 z8 at_ : Int} {A6 A9 : Option Addr} {n6 c6 n9 c9 : Nat} {cs : List Value} {code : Code} (hcode : (Tryz.f4.body).bind (regOf 17) = some code)
    (hq : Cs W k [.string s0, .int .i64 z1, .int .u8 z2, .string s3, .string s4, .string s5, .slice A6 n6 c6, .int .i64 z7, .int .i64 z8, .slice A9 n9 c9]) (hk : Cs W k cs) (hlen : cs.length = 10) (q1 : W.cell? ⟨rb, 1, none⟩ = some (.int .i64 at_)) (hrb : rb ≠ k)
    (h : K { tmps := #[x0, x1, .pointer (some ⟨k, 0, none⟩), .int .i64 at_, .int .i64 0, .pointer (some ⟨rb, 0, none⟩), x6, x7, x8, x9, x10, x11, x12, x13, x14, x15, x16, x17, x18, x19, x20, x21, x22, x23, x24, x25, x26, x27, x28, x29, x30, x31, x32, x33, x34, x35, x36, x37, x38, x39, x40, x41, x42, x43, x44, x45, x46, x47, x48, x49, x50, x51, x52, x53, x54, x55, x56, x57, x58, x59, x60, x61, x62, .agg #[.string s0, .int .i64 z1, .int .u8 z2, .string s3, .string s4, .string s5, .slice A6 n6 c6, .int .i64 z7, .int .i64 z8, .slice A9 n9 c9], .pointer (some ⟨rb, 0, none⟩), .pointer (some ⟨rb, 0, none⟩), .pointer (some ⟨rb, 1, none⟩), .int .i64 at_], defers := ds } (World.drew (World.setCell (World.setCell (World.setCell (World.setCell (World.setCell (World.setCell (World.setCell (World.setCell (World.setCell (World.setCell W ⟨k, 0, none⟩ (.string s0)) ⟨k, 1, none⟩ (.int .i64 z1)) ⟨k, 2, none⟩ (.int .u8 z2)) ⟨k, 3, none⟩ (.string s3)) ⟨k, 4, none⟩ (.string s4)) ⟨k, 5, none⟩ (.string s5)) ⟨k, 6, none⟩ (.slice A6 n6 c6)) ⟨k, 7, none⟩ (.int .i64 z7)) ⟨k, 8, none⟩ (.int .i64 z8)) ⟨k, 9, none⟩ (.slice A9 n9 c9)))) : code.wp Tryz.prog (Exit.then K (bodyPost Tryz.prog Tryz.f4 Post)) { tmps := #[x0, x1, .pointer (some ⟨k, 0, none⟩), x3, x4, .pointer (some ⟨rb, 0, none⟩), x6, x7, x8, x9, x10, x11, x12, x13, x14, x15, x16, x17, x18, x19, x20, x21, x22, x23, x24, x25, x26, x27, x28, x29, x30, x31, x32, x33, x34, x35, x36, x37, x38, x39, x40, x41, x42, x43, x44, x45, x46, x47, x48, x49, x50, x51, x52, x53, x54, x55, x56, x57, x58, x59, x60, x61, x62, x63, x64, x65, x66, x67], defers := ds } W := by
  obtain ⟨u0, u1, u2, u3, u4, u5, u6, u7, u8, u9, rfl⟩ : ∃ u0 u1 u2 u3 u4 u5 u6 u7 u8 u9, cs = [u0, u1, u2, u3, u4, u5, u6, u7, u8, u9] := by
    match cs, hlen with
    | [u0, u1, u2, u3, u4, u5, u6, u7, u8, u9], _ => exact ⟨_, _, _, _, _, _, _, _, _, _, rfl⟩
  have y0 := hq.c 0 _ rfl
  have y1 := hq.c 1 _ rfl
  have y2 := hq.c 2 _ rfl
  have y3 := hq.c 3 _ rfl
  have y4 := hq.c 4 _ rfl
  have y5 := hq.c 5 _ rfl
  have y6 := hq.c 6 _ rfl
  have y7 := hq.c 7 _ rfl
  have y8 := hq.c 8 _ rfl
  have y9 := hq.c 9 _ rfl
  have rf := hk.f
  have hkl := hk.lt
  clear hq hk
  cases Option.some.inj (show some _ = some code from hcode)
  go_region
  all_goals exact h
set_option maxRecDepth 100000 in
set_option maxHeartbeats 4000000 in
theorem region_ref {K : Act → World → Prop} {Post : Ending → World → Prop} {x0 x1 x3 x4 x7 x8 x9 x10 x11 x12 x13 x14 x15 x16 x17 x18 x19 x20 x21 x22 x23 x24 x25 x26 x27 x28 x29 x30 x31 x32 x33 x34 x35 x36 x37 x38 x39 x40 x41 x42 x43 x44 x45 x46 x47 x48 x49 x50 x51 x52 x53 x54 x55 x56 x57 x58 x59 x60 x61 x62 x63 x64 x65 x66 x67 x68 x69 x70 x71 x72 x73 x74 x75 x76 x77 x78 x79 x80 x81 x82 x83 x84 x85 x86 x87 x88 x89 x90 x91 x92 x93 x94 x95 x96 x97 x98 x99 x100 x101 x102 x103 x104 x105 x106 x107 x108 x109 x110 x111 x112 x113 x114 x115 x116 x117 x118 x119 x120 x121 x122 x123 x124 x125 x126 x127 x128 x129 x130 x131 x132 x133 x134 x135 x136 x137 x138 x139 x140 : Value} {ds : List Deferred} {W : World} {k rb qb : Nat} {s0 s3 s4 s5 : ByteArray} {z1 z2 z7 z8 at_ : Int} {A6 A9 : Option Addr} {n6 c6 n9 c9 : Nat} {cs : List Value} {code : Code} (hcode : (Tryz.f5.body).bind (regOf 27) = some code)
    (hq : Cs W qb [.string s0, .int .i64 z1, .int .u8 z2, .string s3, .string s4, .string s5, .slice A6 n6 c6, .int .i64 z7, .int .i64 z8, .slice A9 n9 c9]) (hk : Cs W k cs) (hlen : cs.length = 10) (q1 : W.cell? ⟨rb, 1, none⟩ = some (.int .i64 at_)) (hrb : rb ≠ k) (hqk : qb ≠ k)
    (h : K { tmps := #[x0, x1, .pointer (some ⟨k, 0, none⟩), .int .i64 at_, .int .i64 0, .pointer (some ⟨rb, 0, none⟩), .pointer (some ⟨qb, 0, none⟩), x7, x8, x9, x10, x11, x12, x13, x14, x15, x16, x17, x18, x19, x20, x21, x22, x23, x24, x25, x26, x27, x28, x29, x30, x31, x32, x33, x34, x35, x36, x37, x38, x39, x40, x41, x42, x43, x44, x45, x46, x47, x48, x49, x50, x51, x52, x53, x54, x55, x56, x57, x58, x59, x60, x61, x62, x63, x64, x65, x66, x67, x68, x69, x70, x71, x72, x73, x74, x75, x76, x77, x78, x79, x80, x81, x82, x83, x84, x85, x86, x87, x88, x89, x90, x91, x92, x93, x94, x95, x96, x97, x98, x99, x100, x101, x102, x103, x104, x105, x106, x107, x108, x109, x110, x111, x112, x113, x114, x115, x116, x117, x118, x119, x120, x121, x122, x123, x124, x125, x126, x127, x128, x129, x130, x131, x132, x133, x134, x135, .agg #[.string s0, .int .i64 z1, .int .u8 z2, .string s3, .string s4, .string s5, .slice A6 n6 c6, .int .i64 z7, .int .i64 z8, .slice A9 n9 c9], .pointer (some ⟨rb, 0, none⟩), .pointer (some ⟨rb, 0, none⟩), .pointer (some ⟨rb, 1, none⟩), .int .i64 at_], defers := ds } (World.drew (World.setCell (World.setCell (World.setCell (World.setCell (World.setCell (World.setCell (World.setCell (World.setCell (World.setCell (World.setCell W ⟨k, 0, none⟩ (.string s0)) ⟨k, 1, none⟩ (.int .i64 z1)) ⟨k, 2, none⟩ (.int .u8 z2)) ⟨k, 3, none⟩ (.string s3)) ⟨k, 4, none⟩ (.string s4)) ⟨k, 5, none⟩ (.string s5)) ⟨k, 6, none⟩ (.slice A6 n6 c6)) ⟨k, 7, none⟩ (.int .i64 z7)) ⟨k, 8, none⟩ (.int .i64 z8)) ⟨k, 9, none⟩ (.slice A9 n9 c9)))) : code.wp Tryz.prog (Exit.then K (bodyPost Tryz.prog Tryz.f5 Post)) { tmps := #[x0, x1, .pointer (some ⟨k, 0, none⟩), x3, x4, .pointer (some ⟨rb, 0, none⟩), .pointer (some ⟨qb, 0, none⟩), x7, x8, x9, x10, x11, x12, x13, x14, x15, x16, x17, x18, x19, x20, x21, x22, x23, x24, x25, x26, x27, x28, x29, x30, x31, x32, x33, x34, x35, x36, x37, x38, x39, x40, x41, x42, x43, x44, x45, x46, x47, x48, x49, x50, x51, x52, x53, x54, x55, x56, x57, x58, x59, x60, x61, x62, x63, x64, x65, x66, x67, x68, x69, x70, x71, x72, x73, x74, x75, x76, x77, x78, x79, x80, x81, x82, x83, x84, x85, x86, x87, x88, x89, x90, x91, x92, x93, x94, x95, x96, x97, x98, x99, x100, x101, x102, x103, x104, x105, x106, x107, x108, x109, x110, x111, x112, x113, x114, x115, x116, x117, x118, x119, x120, x121, x122, x123, x124, x125, x126, x127, x128, x129, x130, x131, x132, x133, x134, x135, x136, x137, x138, x139, x140], defers := ds } W := by
  obtain ⟨u0, u1, u2, u3, u4, u5, u6, u7, u8, u9, rfl⟩ : ∃ u0 u1 u2 u3 u4 u5 u6 u7 u8 u9, cs = [u0, u1, u2, u3, u4, u5, u6, u7, u8, u9] := by
    match cs, hlen with
    | [u0, u1, u2, u3, u4, u5, u6, u7, u8, u9], _ => exact ⟨_, _, _, _, _, _, _, _, _, _, rfl⟩
  have y0 := hq.c 0 _ rfl
  have y1 := hq.c 1 _ rfl
  have y2 := hq.c 2 _ rfl
  have y3 := hq.c 3 _ rfl
  have y4 := hq.c 4 _ rfl
  have y5 := hq.c 5 _ rfl
  have y6 := hq.c 6 _ rfl
  have y7 := hq.c 7 _ rfl
  have y8 := hq.c 8 _ rfl
  have y9 := hq.c 9 _ rfl
  have r0 := hk.c 0 _ rfl
  have r1 := hk.c 1 _ rfl
  have r2 := hk.c 2 _ rfl
  have r3 := hk.c 3 _ rfl
  have r4 := hk.c 4 _ rfl
  have r5 := hk.c 5 _ rfl
  have r6 := hk.c 6 _ rfl
  have r7 := hk.c 7 _ rfl
  have r8 := hk.c 8 _ rfl
  have r9 := hk.c 9 _ rfl
  have rf := hk.f
  have hkl := hk.lt
  clear hq hk
  cases Option.some.inj (show some _ = some code from hcode)
  go_region
  all_goals exact h
set_option maxRecDepth 100000 in
set_option maxHeartbeats 4000000 in
theorem ret_node {Post : Ending → World → Prop} {x0 x1 x5 x6 x7 x8 x9 x10 x11 x12 x13 x14 x15 x16 x17 x18 x19 x20 x21 x22 x23 x24 x25 x26 x27 x28 x29 x30 x31 x32 x33 x34 x35 x36 x37 x38 x39 x40 x41 x42 x43 x44 x45 x46 x47 x48 x49 x50 x51 x52 x53 x54 x55 x56 x57 x58 x59 x60 x61 x62 x63 x64 x65 x66 x67 : Value} {W : World} {k : Nat} {s0 s3 s4 s5 : ByteArray} {z1 z2 z7 z8 at_ er : Int} {A6 A9 : Option Addr} {n6 c6 n9 c9 : Nat} (h : Cs W k [.string s0, .int .i64 z1, .int .u8 z2, .string s3, .string s4, .string s5, .slice A6 n6 c6, .int .i64 z7, .int .i64 z8, .slice A9 n9 c9])
    (hp : Post (.returned (.tuple #[.agg #[.string s0, .int .i64 z1, .int .u8 z2, .string s3, .string s4, .string s5, .slice A6 n6 c6, .int .i64 z7, .int .i64 z8, .slice A9 n9 c9], .int .i64 at_, .int .i64 er])) W) : bodyPost Tryz.prog Tryz.f4 Post .ret { tmps := #[x0, x1, .pointer (some ⟨k, 0, none⟩), .int .i64 at_, .int .i64 er, x5, x6, x7, x8, x9, x10, x11, x12, x13, x14, x15, x16, x17, x18, x19, x20, x21, x22, x23, x24, x25, x26, x27, x28, x29, x30, x31, x32, x33, x34, x35, x36, x37, x38, x39, x40, x41, x42, x43, x44, x45, x46, x47, x48, x49, x50, x51, x52, x53, x54, x55, x56, x57, x58, x59, x60, x61, x62, x63, x64, x65, x66, x67], defers := [] } W := by
  have y0 := h.c 0 _ rfl
  have y1 := h.c 1 _ rfl
  have y2 := h.c 2 _ rfl
  have y3 := h.c 3 _ rfl
  have y4 := h.c 4 _ rfl
  have y5 := h.c 5 _ rfl
  have y6 := h.c 6 _ rfl
  have y7 := h.c 7 _ rfl
  have y8 := h.c 8 _ rfl
  have y9 := h.c 9 _ rfl
  clear h
  exact bodyPost_ret (v := .tuple #[.agg #[.string s0, .int .i64 z1, .int .u8 z2, .string s3, .string s4, .string s5, .slice A6 n6 c6, .int .i64 z7, .int .i64 z8, .slice A9 n9 c9], .int .i64 at_, .int .i64 er]) (by simp [results, Tryz.results4, go_sem, *]) rfl hp
set_option maxRecDepth 100000 in
set_option maxHeartbeats 4000000 in
theorem ret_ref {Post : Ending → World → Prop} {x0 x1 x5 x6 x7 x8 x9 x10 x11 x12 x13 x14 x15 x16 x17 x18 x19 x20 x21 x22 x23 x24 x25 x26 x27 x28 x29 x30 x31 x32 x33 x34 x35 x36 x37 x38 x39 x40 x41 x42 x43 x44 x45 x46 x47 x48 x49 x50 x51 x52 x53 x54 x55 x56 x57 x58 x59 x60 x61 x62 x63 x64 x65 x66 x67 x68 x69 x70 x71 x72 x73 x74 x75 x76 x77 x78 x79 x80 x81 x82 x83 x84 x85 x86 x87 x88 x89 x90 x91 x92 x93 x94 x95 x96 x97 x98 x99 x100 x101 x102 x103 x104 x105 x106 x107 x108 x109 x110 x111 x112 x113 x114 x115 x116 x117 x118 x119 x120 x121 x122 x123 x124 x125 x126 x127 x128 x129 x130 x131 x132 x133 x134 x135 x136 x137 x138 x139 x140 : Value} {W : World} {k : Nat} {s0 s3 s4 s5 : ByteArray} {z1 z2 z7 z8 at_ er : Int} {A6 A9 : Option Addr} {n6 c6 n9 c9 : Nat} (h : Cs W k [.string s0, .int .i64 z1, .int .u8 z2, .string s3, .string s4, .string s5, .slice A6 n6 c6, .int .i64 z7, .int .i64 z8, .slice A9 n9 c9])
    (hp : Post (.returned (.tuple #[.agg #[.string s0, .int .i64 z1, .int .u8 z2, .string s3, .string s4, .string s5, .slice A6 n6 c6, .int .i64 z7, .int .i64 z8, .slice A9 n9 c9], .int .i64 at_, .int .i64 er])) W) : bodyPost Tryz.prog Tryz.f5 Post .ret { tmps := #[x0, x1, .pointer (some ⟨k, 0, none⟩), .int .i64 at_, .int .i64 er, x5, x6, x7, x8, x9, x10, x11, x12, x13, x14, x15, x16, x17, x18, x19, x20, x21, x22, x23, x24, x25, x26, x27, x28, x29, x30, x31, x32, x33, x34, x35, x36, x37, x38, x39, x40, x41, x42, x43, x44, x45, x46, x47, x48, x49, x50, x51, x52, x53, x54, x55, x56, x57, x58, x59, x60, x61, x62, x63, x64, x65, x66, x67, x68, x69, x70, x71, x72, x73, x74, x75, x76, x77, x78, x79, x80, x81, x82, x83, x84, x85, x86, x87, x88, x89, x90, x91, x92, x93, x94, x95, x96, x97, x98, x99, x100, x101, x102, x103, x104, x105, x106, x107, x108, x109, x110, x111, x112, x113, x114, x115, x116, x117, x118, x119, x120, x121, x122, x123, x124, x125, x126, x127, x128, x129, x130, x131, x132, x133, x134, x135, x136, x137, x138, x139, x140], defers := [] } W := by
  have y0 := h.c 0 _ rfl
  have y1 := h.c 1 _ rfl
  have y2 := h.c 2 _ rfl
  have y3 := h.c 3 _ rfl
  have y4 := h.c 4 _ rfl
  have y5 := h.c 5 _ rfl
  have y6 := h.c 6 _ rfl
  have y7 := h.c 7 _ rfl
  have y8 := h.c 8 _ rfl
  have y9 := h.c 9 _ rfl
  clear h
  exact bodyPost_ret (v := .tuple #[.agg #[.string s0, .int .i64 z1, .int .u8 z2, .string s3, .string s4, .string s5, .slice A6 n6 c6, .int .i64 z7, .int .i64 z8, .slice A9 n9 c9], .int .i64 at_, .int .i64 er]) (by simp [results, Tryz.results5, go_sem, *]) rfl hp
end Go.Proofs.YtaeophaecclnbaaGreatDoor
namespace Go.Proofs.YtaeophaecclnbaaGreatDoor
open Go.RowKit

/-- Behind the value. -/
def CutN (w : World) (rb n cc : Nat) (l : List UInt8) (wx : World) : Prop := ∃ A1 c1, UnS w wx rb n cc l (u8 l) [.string (strB (nxV [] textS l (u1 l))), .int .i64 (nxV 0 intS l (u2 l)), .int .u8 ((nxV 0 (flagS 255) l u0 : Nat) : Int), .string (strB (nxV [] textS l (u3 l))), .string (strB (nxV [] textS l (u4 l))), .string (strB (nxV [] textS l (u5 l))), .slice A1 (askX l).value.length c1, .int .i64 0, .int .i64 0, .slice none 0 0] ∧ NodesIn wx A1 (askX l).value ∧ Far (w.heap.size + 1 + 1 + 1) A1 (askX l).value.length
set_option maxRecDepth 100000 in
set_option maxHeartbeats 40000000 in
theorem nunpack_any (s : ByteArray) (hs : s.size ≤ 140737488351232) (w : World) : Calls Tryz.prog 4 #[.string s] w (UPost s.data.toList w) := by
  have hl : s.data.toList.length = s.size := by
    rw [Array.length_toList]; rfl
  by_cases hb : 65536 < s.size
  · have EV := Lib.hid (unp_long (l := s.data.toList) (by rw [hl]; exact hb))
    have hd : decide ((65536 : Int) < (s.size : Int)) = true := decide_eq_true (by omega)
    go_enter Tryz.func4, Tryz.ntmps4
    go_wp2_with fail
    refine bodyPost_ret (v := .tuple #[.agg #[.string ⟨#[]⟩, .int .i64 0, .int .u8 0, .string ⟨#[]⟩, .string ⟨#[]⟩, .string ⟨#[]⟩, .slice none 0 0, .int .i64 0, .int .i64 0, .slice none 0 0], .int .i64 0, .int .i64 2]) (by first | (simp [results, Tryz.results4, go_sem]; done) | (simp [results, Tryz.results4, go_sem, *]; done)) rfl (UPost.bad EV.out (by go_grown))
  · have hd : decide ((65536 : Int) < (s.size : Int)) = false := decide_eq_false (by omega)
    have hcv := fun w => Lib.run_convert_string_bytes (P := Tryz.prog) w 9 34 5 s (u := .string) Tryz.underlying9 Tryz.underlying34 Tryz.underlying5
    go_enter Tryz.func4, Tryz.ntmps4
    go_wp2_with fail
    have A0s : (w.alloc (.cells #[.string ⟨#[]⟩, .int .i64 0, .int .u8 0, .string ⟨#[]⟩, .string ⟨#[]⟩, .string ⟨#[]⟩, .slice none 0 0, .int .i64 0, .int .i64 0, .slice none 0 0] 26)).heap.size = w.heap.size + 1 := by simp
    have C0 : Cs (w.alloc (.cells #[.string ⟨#[]⟩, .int .i64 0, .int .u8 0, .string ⟨#[]⟩, .string ⟨#[]⟩, .string ⟨#[]⟩, .slice none 0 0, .int .i64 0, .int .i64 0, .slice none 0 0] 26)) w.heap.size [.string ⟨#[]⟩, .int .i64 0, .int .u8 0, .string ⟨#[]⟩, .string ⟨#[]⟩, .string ⟨#[]⟩, .slice none 0 0, .int .i64 0, .int .i64 0, .slice none 0 0] := Cs.new w rfl _ _
    have B0 : Below w.heap.size w (w.alloc (.cells #[.string ⟨#[]⟩, .int .i64 0, .int .u8 0, .string ⟨#[]⟩, .string ⟨#[]⟩, .string ⟨#[]⟩, .slice none 0 0, .int .i64 0, .int .i64 0, .slice none 0 0] 26)) := (Below.refl _ w).alloc (Nat.le_refl _) _
    clear hcv hb
    generalize w.alloc (.cells #[.string ⟨#[]⟩, .int .i64 0, .int .u8 0, .string ⟨#[]⟩, .string ⟨#[]⟩, .string ⟨#[]⟩, .slice none 0 0, .int .i64 0, .int .i64 0, .slice none 0 0] 26) = WA at *
    have BW := bs_text WA 5 s hs
    have BB := Lib.bytesWorld_below WA 5 s
    have BZ := Lib.bytesWorld_size WA 5 s
    have S0 : ∀ W9, W9 = (Lib.bytesWorld WA 5 s).alloc (.cells #[.slice (some ⟨w.heap.size + 1, 0, none⟩) s.size (grownCap WA s.size 0 5), .int .i64 0, .int .i64 0] 36) → UnS w W9 (w.heap.size + 1 + 1) s.size (grownCap WA s.size 0 5) s.data.toList u0 [.string ⟨#[]⟩, .int .i64 0, .int .u8 0, .string ⟨#[]⟩, .string ⟨#[]⟩, .string ⟨#[]⟩, .slice none 0 0, .int .i64 0, .int .i64 0, .slice none 0 0] := by
      rintro W9 rfl
      have hz : (Lib.bytesWorld WA 5 s).heap.size = w.heap.size + 1 + 1 := by omega
      rw [A0s] at BW
      refine ⟨(bthen B0 BB).alloc (by omega) _, ⟨by rw [cell_new _ _ hz]; rfl, by rw [cell_new _ _ hz]; rfl, by rw [cell_new _ _ hz]; rfl, frozen_new _ _ hz _ _ _, frozen_new _ _ hz _ _ _, BW.below ((Below.refl _ _).alloc (Nat.le_refl _) _), Nat.zero_le _, fun _ b off e => by injection e with e; injection e with e _ _; omega, by simp; omega, ⟨_, rfl⟩⟩, (C0.keep BB).keep ((Below.refl _ _).alloc (Nat.le_refl _) _), by omega⟩
    rw [BZ, A0s]
    have T0 := Lib.hid (S0 _ rfl)
    have hlz : s.data.toList.length = s.size := hl
    clear S0 BW BB BZ B0 C0
    generalize (Lib.bytesWorld WA 5 s).alloc (.cells #[.slice (some ⟨w.heap.size + 1, 0, none⟩) s.size (grownCap WA s.size 0 5), .int .i64 0, .int .i64 0] 36) = WR at *
    generalize s.data.toList = l at *
    generalize grownCap WA s.size 0 5 = cap at *
    refine (flagmk_any 255 _).mono ?_
    rintro e wf ⟨rfl, rfl⟩
    have TF := Lib.hid (T0.out.keep ((Below.refl _ _).alloc (Nat.le_refl _) (.cells #[.int .u8 ((255 : Nat) : Int)] 5)))
    go_wp2_with fail
    refine (nnext_flag TF.out.re (m := 255) (by rw [cell_new _ _ rfl]; rfl)).mono ?_
    rintro e W1 ⟨rfl, g⟩
    have S : UnS w W1 _ _ _ l (u1 l) _ := TF.out.next g (by have h := @u1_le l; rw [hlz] at h; exact h)
    have a1 := S.ask.c 2 _ rfl
    have af := S.ask.f
    have T1 := Lib.hid (S.set 2 (.int .u8 ((nxV 0 (flagS 255) l u0 : Nat) : Int)))
    clear g S
    go_wp2_with fail
    clear a1 af
    refine (nnext_text T1.out.re).mono ?_
    rintro e W2 ⟨rfl, g⟩
    have S : UnS w W2 _ _ _ l (u2 l) _ := T1.out.next g (by have h := @u2_le l; rw [hlz] at h; exact h)
    have a1 := S.ask.c 0 _ rfl
    have af := S.ask.f
    have T2 := Lib.hid (S.set 0 (.string (strB (nxV [] textS l (u1 l)))))
    clear g S
    go_wp2_with fail
    clear a1 af
    refine (nnext_int T2.out.re).mono ?_
    rintro e W3 ⟨rfl, g⟩
    have S : UnS w W3 _ _ _ l (u3 l) _ := T2.out.next g (by have h := @u3_le l; rw [hlz] at h; exact h)
    have a1 := S.ask.c 1 _ rfl
    have af := S.ask.f
    have T3 := Lib.hid (S.set 1 (.int .i64 (nxV 0 intS l (u2 l))))
    clear g S
    go_wp2_with fail
    clear a1 af
    refine (nnext_text T3.out.re).mono ?_
    rintro e W4 ⟨rfl, g⟩
    have S : UnS w W4 _ _ _ l (u4 l) _ := T3.out.next g (by have h := @u4_le l; rw [hlz] at h; exact h)
    have a1 := S.ask.c 3 _ rfl
    have af := S.ask.f
    have T4 := Lib.hid (S.set 3 (.string (strB (nxV [] textS l (u3 l)))))
    clear g S
    go_wp2_with fail
    clear a1 af
    refine (nnext_text T4.out.re).mono ?_
    rintro e W5 ⟨rfl, g⟩
    have S : UnS w W5 _ _ _ l (u5 l) _ := T4.out.next g (by have h := @u5_le l; rw [hlz] at h; exact h)
    have a1 := S.ask.c 4 _ rfl
    have af := S.ask.f
    have T5 := Lib.hid (S.set 4 (.string (strB (nxV [] textS l (u4 l)))))
    clear g S
    go_wp2_with fail
    clear a1 af
    refine (nnext_text T5.out.re).mono ?_
    rintro e W6 ⟨rfl, g⟩
    have S : UnS w W6 _ _ _ l (u6 l) _ := T5.out.next g (by have h := @u6_le l; rw [hlz] at h; exact h)
    have a1 := S.ask.c 5 _ rfl
    have af := S.ask.f
    have T6 := Lib.hid (S.set 5 (.string (strB (nxV [] textS l (u5 l)))))
    clear g S
    go_wp2_with fail
    clear a1 af
    refine (flagmk_any 1 _).mono ?_
    rintro e wf ⟨rfl, rfl⟩
    have TG := Lib.hid (T6.out.keep ((Below.refl _ _).alloc (Nat.le_refl _) (.cells #[.int .u8 ((1 : Nat) : Int)] 5)))
    go_wp2_with fail
    refine (nnext_flag TG.out.re (m := 1) ((cell_new _ _ (by simp) _ _ _).trans rfl)).mono ?_
    rintro e W7 ⟨rfl, g⟩
    have T7 := Lib.hid (show UnS w W7 _ _ _ l (u7 l) _ from TG.out.next g (by have h := @u7_le l; rw [hlz] at h; exact h))
    clear g
    have eV : nxV 0 (flagS 1) l ⟨(u6 l).at_, (u6 l).e⟩ = isV l := rfl
    go_upto_if 36 with fail
    go_cut [] (fun wx => CutN w (w.heap.size + 1 + 1) s.size cap l wx)
    case first =>
      by_cases hv : isV l = 1
      · have hd7 : ((isV l : Int) == 1) = true := by rw [hv]; rfl
        have e8 : u8 l = nxS vlS l (u7 l) := if_pos hv
        have eX : (askX l).value = nxV [] vlS l (u7 l) := if_pos hv
        have lt8 := T7.out.re.lt
        clear hv
        go_wp2_with fail
        refine (nnext_value T7.out.re).mono ?_
        rintro e W8 ⟨A1, c1, rfl, n8, f8, g⟩
        rw [show nxV [] vlS l ⟨(u7 l).at_, (u7 l).e⟩ = (askX l).value from eX.symm]
        rw [show nxV [] vlS l ⟨(u7 l).at_, (u7 l).e⟩ = (askX l).value from eX.symm] at n8 f8
        have S : UnS w W8 _ _ _ l (nxS vlS l (u7 l)) _ := T7.out.next g (by have h := @u8_le l; rw [e8, hlz] at h; exact h)
        rw [← e8] at S
        have a1 := S.ask.c 6 _ rfl
        have af := S.ask.f
        have T8 := Lib.hid (show UnS w (W8.setCell ⟨w.heap.size, 6, none⟩ (.slice A1 (askX l).value.length c1)) _ _ _ l (u8 l) _ from S.set 6 (.slice A1 (askX l).value.length c1))
        have N8 := Lib.hid (show NodesIn (W8.setCell ⟨w.heap.size, 6, none⟩ (.slice A1 (askX l).value.length c1)) A1 (askX l).value ∧ Far (w.heap.size + 1 + 1 + 1) A1 (askX l).value.length from by
          exact ⟨n8.set f8 (by omega), f8.mono (by omega)⟩)
        clear g S n8 f8 eX e8 lt8
        go_wp2_with fail
        go_meet
        exact ⟨A1, c1, T8.out, N8.out⟩
      · have hd7 : ((isV l : Int) == 1) = false := by
          have : ¬ ((isV l : Int) = 1) := by omega
          simpa using this
        have e8 : u8 l = u7 l := if_neg hv
        have eX : (askX l).value = [] := if_neg hv
        have U8 := Lib.hid (show CutN w (w.heap.size + 1 + 1) s.size cap l W7 from ⟨none, 0, by rw [e8, eX]; exact T7.out, by rw [eX]; exact NodesIn.nil, by rw [eX]; exact Far.nil⟩)
        clear hv e8 eX
        go_wp2_with fail
        go_meet
        exact U8.out
    obtain ⟨A1, c1, S8, n8, f8⟩ := hcut
    have T8 := Lib.hid S8
    have N8 := Lib.hid (And.intro n8 f8)
    clear S8 n8 f8 T7 eV
    go_wp2_with fail
    have lt9 := T8.out.re.lt
    refine (nnext_int T8.out.re).mono ?_
    rintro e W9 ⟨rfl, g⟩
    have S : UnS w W9 _ _ _ l (Go.Proofs.YtaeophaecclnbaaGreatDoor.u9 l) _ := T8.out.next g (by have h := @u9_le l; rw [hlz] at h; exact h)
    have n9 := N8.out.1.go N8.out.2 (by omega) g
    have a1 := S.ask.c 7 _ rfl
    have af := S.ask.f
    have T9 := Lib.hid (S.set 7 (.int .i64 (nxV 0 intS l (Go.Proofs.YtaeophaecclnbaaGreatDoor.u8 l))))
    have N9 := Lib.hid (show NodesIn (W9.setCell ⟨w.heap.size, 7, none⟩ (.int .i64 (nxV 0 intS l (Go.Proofs.YtaeophaecclnbaaGreatDoor.u8 l)))) _ (askX l).value ∧ Far (w.heap.size + 1 + 1 + 1) _ (askX l).value.length from ⟨n9.set N8.out.2 (by omega), N8.out.2⟩)
    clear g S n9
    go_wp2_with fail
    clear a1 af
    have lt10 := T9.out.re.lt
    refine (nnext_int T9.out.re).mono ?_
    rintro e W10 ⟨rfl, g⟩
    have S : UnS w W10 _ _ _ l (Go.Proofs.YtaeophaecclnbaaGreatDoor.u10 l) _ := T9.out.next g (by have h := @u10_le l; rw [hlz] at h; exact h)
    have n9 := N9.out.1.go N9.out.2 (by omega) g
    have a1 := S.ask.c 8 _ rfl
    have af := S.ask.f
    have T10 := Lib.hid (S.set 8 (.int .i64 (nxV 0 intS l (Go.Proofs.YtaeophaecclnbaaGreatDoor.u9 l))))
    have N10 := Lib.hid (show NodesIn (W10.setCell ⟨w.heap.size, 8, none⟩ (.int .i64 (nxV 0 intS l (Go.Proofs.YtaeophaecclnbaaGreatDoor.u9 l)))) _ (askX l).value ∧ Far (w.heap.size + 1 + 1 + 1) _ (askX l).value.length from ⟨n9.set N9.out.2 (by omega), N9.out.2⟩)
    clear g S n9
    go_wp2_with fail
    clear a1 af
    have lt11 := T10.out.re.lt
    refine (nnext_events T10.out.re).mono ?_
    rintro e W11 ⟨A2, c2, rfl, ev, g⟩
    rw [show nxV [] histS l ⟨(Go.Proofs.YtaeophaecclnbaaGreatDoor.u10 l).at_, (Go.Proofs.YtaeophaecclnbaaGreatDoor.u10 l).e⟩ = (askX l).events from rfl]
    have S : UnS w W11 _ _ _ l (Go.Proofs.YtaeophaecclnbaaGreatDoor.u11 l) _ := T10.out.next g (by have h := u11_le (l := l) (by rw [hlz]; exact hs); rw [hlz] at h; exact h)
    have n9 := N10.out.1.go N10.out.2 (by omega) g
    have a1 := S.ask.c 9 _ rfl
    have af := S.ask.f
    have TT := Lib.hid (show UnS w (W11.setCell ⟨w.heap.size, 9, none⟩ (.slice A2 (askX l).events.length c2)) _ _ _ l (Go.Proofs.YtaeophaecclnbaaGreatDoor.u11 l) _ from S.set 9 (.slice A2 (askX l).events.length c2))
    have NN := Lib.hid (show NodesIn (W11.setCell ⟨w.heap.size, 9, none⟩ (.slice A2 (askX l).events.length c2)) _ (askX l).value ∧ Far (w.heap.size + 1 + 1 + 1) _ (askX l).value.length from ⟨n9.set N10.out.2 (by omega), N10.out.2⟩)
    have EE := Lib.hid (show ∃ B, w.heap.size < B ∧ EvsR (W11.setCell ⟨w.heap.size, 9, none⟩ (.slice A2 (askX l).events.length c2)) B A2 c2 (askX l).events from ⟨_, by simp at lt11 ⊢; omega, EvsR.set ev (by simp at lt11 ⊢; omega)⟩)
    have p2 := (World.cell?_of_block (a := ⟨w.heap.size + 1 + 1, 2, none⟩) (heap_setCell_other W11 ⟨w.heap.size, 9, none⟩ (w.heap.size + 1 + 1) (.slice A2 (askX l).events.length c2) (by show w.heap.size + 1 + 1 ≠ w.heap.size; omega))).trans S.re.c2
    clear g S n9 lt9 lt10 lt11 T10 N10 T8 N8 T9 N9 ev
    go_upto_if 53 with fail
    clear a1 af p2
    have T11 := TT
    have N11 := NN
    have E11 := EE
    clear TT NN EE
    generalize W11.setCell ⟨w.heap.size, 9, none⟩ (.slice A2 (askX l).events.length c2) = WX at *
    have q1 := T11.out.re.c1
    have q2 := T11.out.re.c2
    have qf1 := T11.out.re.f1
    have qf2 := T11.out.re.f2
    have hne : w.heap.size + 1 + 1 ≠ w.heap.size := by omega
    have rf := T11.out.ask.f
    have r0 := T11.out.ask.c 0 _ rfl
    have r1 := T11.out.ask.c 1 _ rfl
    have r2 := T11.out.ask.c 2 _ rfl
    have r3 := T11.out.ask.c 3 _ rfl
    have r4 := T11.out.ask.c 4 _ rfl
    have r5 := T11.out.ask.c 5 _ rfl
    have r6 := T11.out.ask.c 6 _ rfl
    have r7 := T11.out.ask.c 7 _ rfl
    have r8 := T11.out.ask.c 8 _ rfl
    have r9 := T11.out.ask.c 9 _ rfl
    have hlw := T11.out.ask.lt
    by_cases he : (Go.Proofs.YtaeophaecclnbaaGreatDoor.u11 l).e = 0
    · have hd11 : ((Go.Proofs.YtaeophaecclnbaaGreatDoor.u11 l).e != 0) = false := by rw [he]; rfl
      have HE := Lib.hid he
      clear he
      go_upto_region 17 with fail
      refine region_node (hcode := rfl) (show Cs WX w.heap.size [.string (strB (nxV [] textS l (Go.Proofs.YtaeophaecclnbaaGreatDoor.u1 l))), .int .i64 (nxV 0 intS l (Go.Proofs.YtaeophaecclnbaaGreatDoor.u2 l)), .int .u8 ((nxV 0 (flagS 255) l u0 : Nat) : Int), .string (strB (nxV [] textS l (Go.Proofs.YtaeophaecclnbaaGreatDoor.u3 l))), .string (strB (nxV [] textS l (Go.Proofs.YtaeophaecclnbaaGreatDoor.u4 l))), .string (strB (nxV [] textS l (Go.Proofs.YtaeophaecclnbaaGreatDoor.u5 l))), .slice A1 (askX l).value.length c1, .int .i64 (nxV 0 intS l (Go.Proofs.YtaeophaecclnbaaGreatDoor.u8 l)), .int .i64 (nxV 0 intS l (Go.Proofs.YtaeophaecclnbaaGreatDoor.u9 l)), .slice A2 (askX l).events.length c2] from T11.out.ask) (show Cs WX w.heap.size [.string (strB (nxV [] textS l (Go.Proofs.YtaeophaecclnbaaGreatDoor.u1 l))), .int .i64 (nxV 0 intS l (Go.Proofs.YtaeophaecclnbaaGreatDoor.u2 l)), .int .u8 ((nxV 0 (flagS 255) l u0 : Nat) : Int), .string (strB (nxV [] textS l (Go.Proofs.YtaeophaecclnbaaGreatDoor.u3 l))), .string (strB (nxV [] textS l (Go.Proofs.YtaeophaecclnbaaGreatDoor.u4 l))), .string (strB (nxV [] textS l (Go.Proofs.YtaeophaecclnbaaGreatDoor.u5 l))), .slice A1 (askX l).value.length c1, .int .i64 (nxV 0 intS l (Go.Proofs.YtaeophaecclnbaaGreatDoor.u8 l)), .int .i64 (nxV 0 intS l (Go.Proofs.YtaeophaecclnbaaGreatDoor.u9 l)), .slice A2 (askX l).events.length c2] from T11.out.ask) rfl q1 hne ?_
      go_wp2_with fail
      refine ret_node (show Cs _ w.heap.size [.string (strB (nxV [] textS l (Go.Proofs.YtaeophaecclnbaaGreatDoor.u1 l))), .int .i64 (nxV 0 intS l (Go.Proofs.YtaeophaecclnbaaGreatDoor.u2 l)), .int .u8 ((nxV 0 (flagS 255) l u0 : Nat) : Int), .string (strB (nxV [] textS l (Go.Proofs.YtaeophaecclnbaaGreatDoor.u3 l))), .string (strB (nxV [] textS l (Go.Proofs.YtaeophaecclnbaaGreatDoor.u4 l))), .string (strB (nxV [] textS l (Go.Proofs.YtaeophaecclnbaaGreatDoor.u5 l))), .slice A1 (askX l).value.length c1, .int .i64 (nxV 0 intS l (Go.Proofs.YtaeophaecclnbaaGreatDoor.u8 l)), .int .i64 (nxV 0 intS l (Go.Proofs.YtaeophaecclnbaaGreatDoor.u9 l)), .slice A2 (askX l).events.length c2] from full10 T11.out.ask rfl) ?_
      have hu := unp_ok (l := l) (by rw [hlz]; have := of_decide_eq_false hd; omega) HE.out
      obtain ⟨B, hB, hE⟩ := E11.out
      have hb0 := T11.out.bel
      refine ⟨A1, c1, A2, c2, ?_, ?_, ?_, by go_grown⟩
      · rw [hu]; rfl
      · rw [hu]
        have hlt3 : w.heap.size < w.heap.size + 1 + 1 + 1 := by omega
        refine NodesIn.keep ?_ ((Below.refl _ _).drew)
        repeat (with_reducible refine NodesIn.set (B := w.heap.size + 1 + 1 + 1) ?_ N11.out.2 hlt3)
        exact N11.out.1
      · rw [hu]
        refine EvsR.evs (B := B) (cap := c2) ?_
        refine EvsR.below ?_ ((Below.refl _ _).drew)
        repeat (with_reducible refine EvsR.set ?_ hB)
        exact hE
    · have hd11 : ((Go.Proofs.YtaeophaecclnbaaGreatDoor.u11 l).e != 0) = true := bne_iff_ne.2 he
      have HE := Lib.hid he
      clear he
      go_wp2_with fail
      have KA := Lib.hid (show (fun w' : World => w'.cell? ⟨w.heap.size + 1 + 1, 1, none⟩ = some (.int .i64 (Go.Proofs.YtaeophaecclnbaaGreatDoor.u11 l).at_) ∧ w'.cell? ⟨w.heap.size + 1 + 1, 2, none⟩ = some (.int .i64 (Go.Proofs.YtaeophaecclnbaaGreatDoor.u11 l).e)) WX.drew from ⟨cell_drew q1, cell_drew q2⟩)
      have KB := Lib.hid (show (fun w' : World => w'.cell? ⟨w.heap.size + 1 + 1, 1, none⟩ = some (.int .i64 (Go.Proofs.YtaeophaecclnbaaGreatDoor.u11 l).at_) ∧ w'.cell? ⟨w.heap.size + 1 + 1, 2, none⟩ = some (.int .i64 (Go.Proofs.YtaeophaecclnbaaGreatDoor.u11 l).e)) (World.drew (World.setCell (World.setCell (World.setCell (World.setCell (World.setCell (World.setCell (World.setCell (World.setCell (World.setCell (World.setCell WX ⟨w.heap.size, 0, none⟩ (.string ⟨#[]⟩)) ⟨w.heap.size, 1, none⟩ (.int .i64 0)) ⟨w.heap.size, 2, none⟩ (.int .u8 0)) ⟨w.heap.size, 3, none⟩ (.string ⟨#[]⟩)) ⟨w.heap.size, 4, none⟩ (.string ⟨#[]⟩)) ⟨w.heap.size, 5, none⟩ (.string ⟨#[]⟩)) ⟨w.heap.size, 6, none⟩ (.slice none 0 0)) ⟨w.heap.size, 7, none⟩ (.int .i64 0)) ⟨w.heap.size, 8, none⟩ (.int .i64 0)) ⟨w.heap.size, 9, none⟩ (.slice none 0 0))) from ⟨cell_drew (far10 q1 hne), cell_drew (far10 q2 hne)⟩)
      have KC := Lib.hid (show (fun w' : World => w'.cell? ⟨w.heap.size + 1 + 1, 1, none⟩ = some (.int .i64 (Go.Proofs.YtaeophaecclnbaaGreatDoor.u11 l).at_) ∧ w'.cell? ⟨w.heap.size + 1 + 1, 2, none⟩ = some (.int .i64 (Go.Proofs.YtaeophaecclnbaaGreatDoor.u11 l).e)) (World.setCell (World.setCell (World.setCell (World.setCell (World.setCell (World.setCell (World.setCell (World.setCell (World.setCell (World.setCell WX.drew ⟨w.heap.size, 0, none⟩ (.string ⟨#[]⟩)) ⟨w.heap.size, 1, none⟩ (.int .i64 0)) ⟨w.heap.size, 2, none⟩ (.int .u8 0)) ⟨w.heap.size, 3, none⟩ (.string ⟨#[]⟩)) ⟨w.heap.size, 4, none⟩ (.string ⟨#[]⟩)) ⟨w.heap.size, 5, none⟩ (.string ⟨#[]⟩)) ⟨w.heap.size, 6, none⟩ (.slice none 0 0)) ⟨w.heap.size, 7, none⟩ (.int .i64 0)) ⟨w.heap.size, 8, none⟩ (.int .i64 0)) ⟨w.heap.size, 9, none⟩ (.slice none 0 0)) from ⟨far10 (cell_drew q1) hne, far10 (cell_drew q2) hne⟩)
      go_region_held3 (fun w' => w'.cell? ⟨w.heap.size + 1 + 1, 1, none⟩ = some (.int .i64 (Go.Proofs.YtaeophaecclnbaaGreatDoor.u11 l).at_) ∧ w'.cell? ⟨w.heap.size + 1 + 1, 2, none⟩ = some (.int .i64 (Go.Proofs.YtaeophaecclnbaaGreatDoor.u11 l).e)) (first | with_reducible exact KA.out | with_reducible exact KB.out | with_reducible exact KC.out) (fail)
      go_wp2_with fail
      refine bodyPost_ret (v := .tuple #[.agg #[.string ⟨#[]⟩, .int .i64 0, .int .u8 0, .string ⟨#[]⟩, .string ⟨#[]⟩, .string ⟨#[]⟩, .slice none 0 0, .int .i64 0, .int .i64 0, .slice none 0 0], .int .i64 ((Go.Proofs.YtaeophaecclnbaaGreatDoor.u11 l).at_ : Nat), .int .i64 (Go.Proofs.YtaeophaecclnbaaGreatDoor.u11 l).e]) (by first | (simp [results, Tryz.results4, go_sem]; done) | (simp [results, Tryz.results4, go_sem, *]; done)) rfl (UPost.bad (unp_bad (by rw [hlz]; have := of_decide_eq_false hd; omega) HE.out) (by have hb0 := T11.out.bel; go_grown))
end Go.Proofs.YtaeophaecclnbaaGreatDoor

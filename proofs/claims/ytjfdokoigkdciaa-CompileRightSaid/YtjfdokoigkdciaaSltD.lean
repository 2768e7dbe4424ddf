/- check.Slots, walked. -/
import Derived.Test.YtjfdokoigkdciaaSltC
import Derived.Test.YtjfdokoigkdciaaTreY
import Derived.OwnWalk
namespace Go.Proofs.Ytjfdokoigkdciaa
open Go.RowKit Go.Maps

/-- The slots that check.Slots answers, in memory. -/
def SlotV (w : World) (v : Value) (r : List Int × Int × Int) : Prop := if r.2.2 = 0 then ∃ rb cap : Nat, v = .slice (some ⟨rb, 0, none⟩) r.1.length cap ∧ RowI w rb cap r.1 else v = .slice none 0 0
def SlotP (r : List Int × Int × Int) (w : World) (e : Ending) (w' : World) : Prop := ∃ v, e = .returned (.tuple #[v, .int .i64 r.2.1, .int .i64 r.2.2]) ∧ SlotV w' v r ∧ Below w.heap.size w w'
theorem slotV_no {w : World} {r : List Int × Int × Int} (h : r.2.2 ≠ 0) : SlotV w (.slice none 0 0) r := by unfold SlotV; rw [if_neg h]
set_option maxRecDepth 100000 in
set_option maxHeartbeats 4000000 in
theorem slots_any {A : Option Addr} {c : Nat} {cs : List InsV} {w : World} (hc : CodeIn w A cs) (hok : OkC cs) (hl : cs.length ≤ 9223372036854775807) :
    Calls Try.prog 12 #[.slice A cs.length c] w (SlotP (slotS cs) w) := by
  have hsf : ∀ (a : Addr) (f : Fn) (c1 c2 : Array Value) (m : Mode) (w : World), (store a (.func f c1 c2) m).run Try.prog w = stored Try.prog w a (.func f c1 c2) m := fun a f c1 c2 m w => run_store _ w a _ m rfl
  have hsm : ∀ (a : Addr) (b : Option Nat) (m : Mode) (w : World), (store a (.map b) m).run Try.prog w = stored Try.prog w a (.map b) m := fun a b m w => run_store _ w a _ m rfl
  have hmm := @run_makeMap Try.prog
  have TC := Lib.hid (fun W (h : CodeIn W A cs) => tcheck_any (c := c) h hok hl)
  have TR := Lib.hid (@treeS_right cs)
  have HC := Lib.hid hc
  have E := Lib.hid (show slotS cs = if (treeS cs).2 ≠ 0 then ([], (treeS cs).1, (treeS cs).2) else if (atV cs 0).op ≠ 1 then ([], 0, 3) else
    if (swalkS cs (cs.length + 1) ⟨0, .map [], 0, [], 0⟩).1.fault ≠ 0 then ([], (swalkS cs (cs.length + 1) ⟨0, .map [], 0, [], 0⟩).1.next, (swalkS cs (cs.length + 1) ⟨0, .map [], 0, [], 0⟩).1.fault) else ((swalkS cs (cs.length + 1) ⟨0, .map [], 0, [], 0⟩).1.out, 0, 0) from rfl)
  clear hc
  generalize slotS cs = rr at *
  generalize treeS cs = tr at *
  obtain ⟨ta, te⟩ := tr
  simp only at E TR
  go_enter Try.func12, Try.ntmps12
  go_wp2_with fail
  refine (TC.out _ (HC.out.below ((Below.refl _ w).alloc (Nat.le_refl _) _) (Nat.le_refl _))).mono ?_
  rintro e w1 ⟨rfl, h1⟩
  have HB1 := Lib.hid (bthen ((Below.refl _ w).alloc (Nat.le_refl _) _) h1)
  have t1 : w1.cell? ⟨w.heap.size, 0, none⟩ = some (.slice A cs.length c) := (h1.cell (p := ⟨w.heap.size, 0, none⟩) (by simp)).trans (by simp)
  have b1 := World.block_lt_of_cell? w1 _ t1
  simp only at b1
  clear h1 TC
  by_cases hte : te = 0
  · have o1 : (te == 0) = true := by simp [hte]
    have o2 : (te != 0) = false := by simp [hte]
    obtain ⟨hlen, hrt⟩ := TR.out hte
    have E1 := E.out
    rw [if_neg (fun h => h hte)] at E1
    have hlt : 0 < cs.length := hrt.lt.1
    obtain ⟨cb, co, hA, hcb, hck⟩ := HC.out hlt
    obtain ⟨k0, _⟩ := hck 0 hlt
    have k0 := (HB1.out.cell (p := ⟨cb, co + 0 * 4, none⟩) hcb).trans k0
    simp only [Nat.zero_mul, Nat.add_zero] at k0
    have hop := (hok 0 hlt).1
    have HRT := Lib.hid hrt
    subst hA
    clear hck hte E hrt TR
    by_cases hfl : (atV cs 0).op = 1
    · have o3 : (((atV cs 0).op : Int) == 1) = true := by simp [hfl]
      have o4 : (((atV cs 0).op : Int) != 1) = false := by simp [hfl]
      rw [if_neg (fun h => h hfl)] at E1
      have E2 := Lib.hid E1
      clear E1 hfl
      obtain ⟨i0, hi0, hi1, hi2, hi3⟩ := info_of infoN
      have HI0 := Lib.hid hi0
      have HI1 := Lib.hid hi1
      have HI2 := Lib.hid hi2
      have HI3 := Lib.hid hi3
      clear hi0 hi1 hi2 hi3
      go_upto_region 8 with fail
      obtain ⟨x3, hx3⟩ : ∃ x3, x3 = ((w1.alloc (.map #[] 0)).alloc (.cells #[.map (some w1.heap.size)] 58)).alloc (.cells #[.int .i64 0] 3) := ⟨_, rfl⟩
      have m0 : MapS x3 w1.heap.size 0 (.map []) := by
        rw [hx3]
        exact maps_block (w := (w1.alloc (.map #[] 0)).alloc (.cells #[.map (some w1.heap.size)] 58)) (ownsMap_at rfl _) (Below.heap_alloc _ _ _ (by simp; omega))
      have B3 : Below w1.heap.size w1 x3 := by rw [hx3]; exact (((Below.refl _ w1).alloc (Nat.le_refl _) _).alloc (by simp) _).alloc (by simp; omega) _
      have s3 : x3.heap.size = w1.heap.size + 3 := by rw [hx3]; simp
      obtain ⟨x2, hx2⟩ : ∃ x2, x2 = (w1.alloc (.map #[] 0)).alloc (.cells #[.map (some w1.heap.size)] 58) := ⟨_, rfl⟩
      have s2 : x2.heap.size = w1.heap.size + 1 + 1 := by rw [hx2]; simp
      have c3 : x3.cell? ⟨w1.heap.size + 1 + 1, 0, none⟩ = some (.int .i64 0) := by rw [hx3, ← hx2, ← s2]; simp
      have z3 : x3.frozen? ⟨w1.heap.size + 1 + 1, 0, none⟩ = false := by rw [hx3, ← hx2, ← s2]; simp
      obtain ⟨x1, hx1⟩ : ∃ x1, x1 = w1.alloc (.map #[] 0) := ⟨_, rfl⟩
      have s1 : x1.heap.size = w1.heap.size + 1 := by rw [hx1]; simp
      have c2 : x3.cell? ⟨w1.heap.size + 1, 0, none⟩ = some (.map (some w1.heap.size)) := by
        rw [hx3, ← hx2, World.cell?_alloc_lt _ _ _ (by simp only; omega), hx2, ← hx1, ← s1]; simp
      rw [← hx3]
      have M0 := Lib.hid m0
      have HB3 := Lib.hid (bthen HB1.out B3)
      have HB3' := Lib.hid B3
      have S3 := Lib.hid s3
      have C2 := Lib.hid c2
      have C3 := Lib.hid c3
      have Z3 := Lib.hid z3
      have t3 : x3.cell? ⟨w.heap.size, 0, none⟩ = some (.slice (some ⟨cb, co, none⟩) cs.length c) := (B3.cell (p := ⟨w.heap.size, 0, none⟩) b1).trans t1
      have b3 : w.heap.size < x3.heap.size := by omega
      clear hx1 hx2 hx3 s1 s2 s3 m0 B3 c2 c3 z3 t1 k0 o1 o2 o3 o4
      go_wp2_with (at_make; refine wpList_make_own _ rfl _ _ 41 rfl x3.heap.size 3 i0 (.int .i64 0) 1 Try.underlying41 HI0.out HI1.out HI2.out .i64 .i64 cs.length cs.length rfl rfl rfl (by rw [HI3.out]; omega) (by unfold maxLen; omega) (Nat.le_refl _) ?_)
      intro w2 hown hgrow
      have HB2' := Lib.hid (show Below x3.heap.size x3 w2 from Below.grown (Below.refl _ x3) hgrow (Nat.le_refl _) (fun k e => by cases e))
      obtain ⟨cur, hr1, hr2, hr3⟩ : ∃ cur : Array Value, w2.heap[x3.heap.size]? = some (.cells cur 3 (0, 0)) ∧ cur.size = cs.length ∧ cur.toList.take 0 = [] := by
        rcases hown.2 with ⟨e, _⟩ | ⟨g, cap, cur, e, _, hg, _, _, hs, _⟩
        · cases e
        · cases e
          exact ⟨cur, hg, by omega, by simp⟩
      have HR := Lib.hid (show RowI w2 x3.heap.size cs.length [] from ⟨cur, hr1, hr2, by simp⟩)
      have R2 := Lib.hid (show x3.heap.size < w2.heap.size from HR.out.lt)
      clear hr1 hr2 hr3 hown hgrow
      have t2 : w2.cell? ⟨w.heap.size, 0, none⟩ = some (.slice (some ⟨cb, co, none⟩) cs.length c) := (HB2'.out.cell (p := ⟨w.heap.size, 0, none⟩) b3).trans t3
      have T2 := Lib.hid t2
      have b2 : w.heap.size < w2.heap.size := Nat.lt_trans b3 R2.out
      clear t3 t2
      go_wp2_with fail
      obtain ⟨x4, hx4⟩ : ∃ x4, x4 = w2.alloc (.cells #[.slice (some ⟨x3.heap.size, 0, none⟩) 0 cs.length] 41) := ⟨_, rfl⟩
      obtain ⟨x5, hx5⟩ : ∃ x5, x5 = x4.alloc (.cells #[.int .i64 0] 3) := ⟨_, rfl⟩
      obtain ⟨x6, hx6⟩ : ∃ x6, x6 = x5.alloc (.cells #[.int .i64 0] 26) := ⟨_, rfl⟩
      obtain ⟨x7, hx7⟩ : ∃ x7, x7 = x6.alloc (.cells #[.func (.func 17) #[] #[.pointer (some ⟨w1.heap.size + 1, 0, none⟩), .pointer (some ⟨w2.heap.size + 1 + 1, 0, none⟩), .pointer (some ⟨w1.heap.size + 1 + 1, 0, none⟩), .pointer (some ⟨w2.heap.size, 0, none⟩)]] 60) := ⟨_, rfl⟩
      obtain ⟨wx, hwx⟩ : ∃ wx, wx = x7.alloc (.cells #[.func (.func 18) #[] #[.pointer (some ⟨w.heap.size, 0, none⟩), .pointer (some ⟨w2.heap.size + 1, 0, none⟩), .pointer (some ⟨w1.heap.size + 1 + 1, 0, none⟩), .pointer (some ⟨w2.heap.size + 1 + 1 + 1, 0, none⟩), .pointer (some ⟨w1.heap.size + 1, 0, none⟩), .pointer (some ⟨w2.heap.size + 1 + 1, 0, none⟩), .pointer (some ⟨w2.heap.size, 0, none⟩), .pointer (some ⟨w2.heap.size + 1 + 1 + 1 + 1, 0, none⟩)]] 61) := ⟨_, rfl⟩
      rw [← hx4, ← hx5, ← hx6, ← hx7, ← hwx]
      have s3 := S3.out
      have r2 := R2.out
      have s4 : x4.heap.size = w2.heap.size + 1 := by rw [hx4]; simp
      have s5 : x5.heap.size = w2.heap.size + 1 + 1 := by rw [hx5]; simp [s4]
      have s6 : x6.heap.size = w2.heap.size + 1 + 1 + 1 := by rw [hx6]; simp [s5]
      have s7 : x7.heap.size = w2.heap.size + 1 + 1 + 1 + 1 := by rw [hx7]; simp [s6]
      have y4 : Below w2.heap.size w2 x4 := by rw [hx4]; exact (Below.refl _ w2).alloc (Nat.le_refl _) _
      have y5 : Below x4.heap.size x4 x5 := by rw [hx5]; exact (Below.refl _ x4).alloc (Nat.le_refl _) _
      have y6 : Below x5.heap.size x5 x6 := by rw [hx6]; exact (Below.refl _ x5).alloc (Nat.le_refl _) _
      have y7 : Below x6.heap.size x6 x7 := by rw [hx7]; exact (Below.refl _ x6).alloc (Nat.le_refl _) _
      have y8 : Below x7.heap.size x7 wx := by rw [hwx]; exact (Below.refl _ x7).alloc (Nat.le_refl _) _
      have Y7 := bthen y7 y8
      have Y6 := bthen y6 Y7
      have Y5 := bthen y5 Y6
      have Y4 := bthen y4 Y5
      have Y3 := bthen HB2'.out Y4
      have c4 : x4.cell? ⟨w2.heap.size, 0, none⟩ = some (.slice (some ⟨x3.heap.size, 0, none⟩) 0 cs.length) := by rw [hx4]; simp
      have f4 : x4.frozen? ⟨w2.heap.size, 0, none⟩ = false := by rw [hx4]; simp
      have c5 : x5.cell? ⟨w2.heap.size + 1, 0, none⟩ = some (.int .i64 0) := by rw [hx5, ← s4]; simp
      have f5 : x5.frozen? ⟨w2.heap.size + 1, 0, none⟩ = false := by rw [hx5, ← s4]; simp
      have c6 : x6.cell? ⟨w2.heap.size + 1 + 1, 0, none⟩ = some (.int .i64 0) := by rw [hx6, ← s5]; simp
      have f6 : x6.frozen? ⟨w2.heap.size + 1 + 1, 0, none⟩ = false := by rw [hx6, ← s5]; simp
      have c7 : x7.cell? ⟨w2.heap.size + 1 + 1 + 1, 0, none⟩ = some (.func (.func 17) #[] #[.pointer (some ⟨w1.heap.size + 1, 0, none⟩), .pointer (some ⟨w2.heap.size + 1 + 1, 0, none⟩), .pointer (some ⟨w1.heap.size + 1 + 1, 0, none⟩), .pointer (some ⟨w2.heap.size, 0, none⟩)]) := by rw [hx7, ← s6]; simp
      have c8 : wx.cell? ⟨w2.heap.size + 1 + 1 + 1 + 1, 0, none⟩ = some (.func (.func 18) #[] #[.pointer (some ⟨w.heap.size, 0, none⟩), .pointer (some ⟨w2.heap.size + 1, 0, none⟩), .pointer (some ⟨w1.heap.size + 1 + 1, 0, none⟩), .pointer (some ⟨w2.heap.size + 1 + 1 + 1, 0, none⟩), .pointer (some ⟨w1.heap.size + 1, 0, none⟩), .pointer (some ⟨w2.heap.size + 1 + 1, 0, none⟩), .pointer (some ⟨w2.heap.size, 0, none⟩), .pointer (some ⟨w2.heap.size + 1 + 1 + 1 + 1, 0, none⟩)]) := by rw [hwx, ← s7]; simp
      have HWX := Lib.hid (show Below w.heap.size w wx from bthen HB3.out Y3)
      obtain ⟨x, hx⟩ : ∃ x : SB, x = ⟨w.heap.size, w2.heap.size + 1, w1.heap.size + 1 + 1, w2.heap.size + 1 + 1 + 1, w1.heap.size + 1, w2.heap.size + 1 + 1, w2.heap.size, w2.heap.size + 1 + 1 + 1 + 1, x3.heap.size, w1.heap.size, some ⟨cb, co, none⟩, c, cs⟩ := ⟨_, rfl⟩
      have HSW := Lib.hid (show SW x ⟨0, .map [], 0, [], 0⟩ 0 wx by
        subst hx
        exact ⟨(Y4.cell (p := ⟨w.heap.size, 0, none⟩) b2).trans T2.out, (Y6.cell (p := ⟨w2.heap.size + 1, 0, none⟩) (by simp only; omega)).trans c5, (Y3.cell (p := ⟨w1.heap.size + 1 + 1, 0, none⟩) (by simp only; omega)).trans C3.out,
          (y8.cell (p := ⟨w2.heap.size + 1 + 1 + 1, 0, none⟩) (by simp only; omega)).trans c7, (Y3.cell (p := ⟨w1.heap.size + 1, 0, none⟩) (by simp only; omega)).trans C2.out, (Y7.cell (p := ⟨w2.heap.size + 1 + 1, 0, none⟩) (by simp only; omega)).trans c6,
          (Y5.cell (p := ⟨w2.heap.size, 0, none⟩) (by simp only; omega)).trans c4, c8, ⟨0, Nat.le_refl _, maps_block M0.out (Y3.block _ (by simp only; omega))⟩, HR.out.block (Y4.block _ r2), HC.out.below HWX.out (Nat.le_refl _),
          (Y6.frozen (p := ⟨w2.heap.size + 1, 0, none⟩) (by simp only; omega)).trans f5, (Y3.frozen (p := ⟨w1.heap.size + 1 + 1, 0, none⟩) (by simp only; omega)).trans Z3.out, (Y7.frozen (p := ⟨w2.heap.size + 1 + 1, 0, none⟩) (by simp only; omega)).trans f6, (Y5.frozen (p := ⟨w2.heap.size, 0, none⟩) (by simp only; omega)).trans f4⟩)
      have HSD := Lib.hid (show SD x by
        subst hx
        exact ⟨by simp only; omega, by simp only; omega, by simp only; omega, by simp only; omega, by simp only; omega, by simp only; omega, by simp only; omega, by simp only; omega, by simp only [noS]; omega, by simp only [noS]; omega, by simp only [noS]; omega, by simp only [noS]; omega,
          fun _ b off e => by cases e; simp only [noS]; omega, hok, hlen⟩)
      have HNO := Lib.hid (show ∀ k, k < w.heap.size → ¬ noS x k by
        intro k hk
        subst hx
        simp only [noS]; omega)
      have hcaps : x.caps = #[.pointer (some ⟨w.heap.size, 0, none⟩), .pointer (some ⟨w2.heap.size + 1, 0, none⟩), .pointer (some ⟨w1.heap.size + 1 + 1, 0, none⟩), .pointer (some ⟨w2.heap.size + 1 + 1 + 1, 0, none⟩), .pointer (some ⟨w1.heap.size + 1, 0, none⟩), .pointer (some ⟨w2.heap.size + 1 + 1, 0, none⟩), .pointer (some ⟨w2.heap.size, 0, none⟩), .pointer (some ⟨w2.heap.size + 1 + 1 + 1 + 1, 0, none⟩)] := by rw [hx]; rfl
      have hxcs : x.cs = cs := by rw [hx]
      have hxf : x.fb = w2.heap.size + 1 + 1 ∧ x.nb = w2.heap.size + 1 ∧ x.ob = w2.heap.size ∧ x.rb = x3.heap.size := by rw [hx]; exact ⟨rfl, rfl, rfl, rfl⟩
      have HCA := Lib.hid (swalk_any x HSD.out (cs.length + 1) _ cs.length (fun _ => true) 0 wx HSW.out (slots_start x.cs) rfl (by rw [hxcs]; exact HRT.out))
      rw [hcaps, hxcs] at HCA
      have HXF := Lib.hid hxf
      have HXC := Lib.hid hxcs
      clear hx hcaps hxcs hxf hx4 hx5 hx6 hx7 hwx s3 s4 s5 s6 s7 y4 y5 y6 y7 y8 Y3 Y4 Y5 Y6 Y7 c4 c5 c6 c7 c8 f4 f5 f6
      refine HCA.out.mono ?_
      rintro e w5 ⟨rfl, g1, g2⟩
      obtain ⟨q, hq⟩ : ∃ q, q = (swalkS cs (cs.length + 1) ⟨0, .map [], 0, [], 0⟩) := ⟨_, rfl⟩
      rw [← hq] at E2 g1 ⊢
      obtain ⟨x1, x2, x4, x5⟩ := HXF.out
      have n1 := g1.ft
      have n2 := g1.nx
      have n3 := g1.ou
      rw [x1] at n1
      rw [x2] at n2
      rw [x4, x5, HXC.out] at n3
      have p1 := World.block_lt_of_cell? w5 _ n1
      have p2 := World.block_lt_of_cell? w5 _ n2
      have p3 := World.block_lt_of_cell? w5 _ n3
      simp only at p1 p2 p3
      have HRO := Lib.hid g1.ro
      rw [x5, HXC.out] at HRO
      have HBW := Lib.hid (show Below w.heap.size w w5 from HWX.out.trans (g2.below (B := w.heap.size) HWX.out.size (fun k hk => HNO.out k hk)))
      clear g1 g2 hq x1 x2 x4 x5 HCA HSW HSD HNO
      by_cases hqf : q.1.fault = 0
      · have o1 : (q.1.fault == 0) = true := by simp [hqf]
        have o2 : (q.1.fault != 0) = false := by simp [hqf]
        have E3 := Lib.hid (show rr = (q.1.out, 0, 0) by have := E2.out; rwa [if_neg (fun h => h hqf)] at this)
        clear E2 hqf
        go_wp2_with fail
        go_ret3
        refine ⟨_, by rw [E3.out]; rfl, ?_, HBW.out⟩
        rw [E3.out]
        unfold SlotV
        rw [if_pos rfl]
        exact ⟨_, _, rfl, HRO.out⟩
      · have o1 : (q.1.fault == 0) = false := by simp [hqf]
        have o2 : (q.1.fault != 0) = true := by simp [hqf]
        have E3 := Lib.hid (show rr = ([], (q.1.next : Int), q.1.fault) by have := E2.out; rwa [if_pos hqf] at this)
        have HQF := Lib.hid hqf
        clear E2 hqf
        go_wp2_with go_quiet (fail)
        go_ret3
        exact ⟨_, by rw [E3.out]; rfl, slotV_no (by rw [E3.out]; exact HQF.out), below_drewN HBW.out _⟩
    · have o3 : (((atV cs 0).op : Int) == 1) = false := by simp; omega
      have o4 : (((atV cs 0).op : Int) != 1) = true := by simp; omega
      rw [if_pos hfl] at E1
      have E2 := Lib.hid E1
      clear E1 hfl
      go_wp2_with fail
      go_ret3
      exact ⟨_, by rw [E2.out]; rfl, slotV_no (by rw [E2.out]; decide), HB1.out⟩
  · have o1 : (te == 0) = false := by simp [hte]
    have o2 : (te != 0) = true := by simp [hte]
    have E1 := Lib.hid (show rr = ([], ta, te) by have := E.out; rwa [if_pos hte] at this)
    have HTE := Lib.hid hte
    clear hte E
    go_wp2_with fail
    go_ret3
    exact ⟨_, by rw [E1.out]; rfl, slotV_no (by rw [E1.out]; exact HTE.out), HB1.out⟩
end Go.Proofs.Ytjfdokoigkdciaa

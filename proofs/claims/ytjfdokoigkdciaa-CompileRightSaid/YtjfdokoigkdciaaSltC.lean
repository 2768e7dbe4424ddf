/- check.Slots: the tree gone through, walked. -/
import Derived.Test.YtjfdokoigkdciaaSltB
import Derived.WalkSmall
namespace Go.Proofs.Ytjfdokoigkdciaa
open Go.RowKit Go.Maps

theorem own_size {s : ByteArray} (h : ownS s = true) : s.size ≤ 24 := by
  unfold ownS nameS at h
  rcases Nat.lt_or_ge 24 s.size with hh | hh
  · rw [name_big hh] at h; cases h
  · exact hh
/-- A variable's name is short. -/
theorem tw_size {x : InsV} {may : Nat → Bool} (h : okTw x may = true) (ho : x.op = 2 ∨ x.op = 4 ∨ x.op = 5 ∨ x.op = 26) : x.text.size ≤ 24 := by
  unfold okTw at h
  simp only [Bool.and_eq_true] at h
  obtain ⟨⟨⟨⟨⟨_, h2⟩, _⟩, _⟩, _⟩, _⟩ := h
  rw [show (formS x.op).tk = 0 by rcases ho with e | e | e | e <;> rw [e] <;> rfl] at h2
  exact own_size h2
theorem tw_kids {x : InsV} {may : Nat → Bool} (h : okTw x may = true) : 0 ≤ x.a ∧ x.a ≤ 2048 := by
  unfold okTw at h
  simp only [Bool.and_eq_true, decide_eq_true_eq] at h
  have : 0 ≤ (formS x.op).lo ∧ (formS x.op).hi ≤ 2048 := by
    unfold formS
    generalize formN x.op = n
    unfold formR
    split <;> decide
  omega
theorem swalk_name (cs : List InsV) : ∀ (f nx : Nat) (may : Nat → Bool) (s : SSt), Rt cs f s.next nx may → (swalkS cs f s).2.1.size ≤ 24
  | 0, _, _, _, h => h.elim
  | f + 1, nx, may, s, ⟨_, h2, _⟩ => by
    rw [swalkS]
    by_cases h : (twigS s (atV cs s.next)).fault = 0
    · rw [if_neg (by omega)]
      simp only
      by_cases h3 : (atV cs s.next).op = 2 ∨ (atV cs s.next).op = 4
      · rw [if_pos h3]; exact tw_size h2 (by omega)
      · rw [if_neg h3]; exact Nat.zero_le _
    · rw [if_pos h]; exact Nat.zero_le _
def SPost (x : SB) (r : SSt × ByteArray × Int) (d : Nat) (w : World) (e : Ending) (w' : World) : Prop := e = .returned (.tuple #[.string r.2.1, .int .i64 r.2.2]) ∧ SW x r.1 (d + 1) w' ∧ Keep (noS x) w w'
/-- What the switch on a twig's kind leaves: the variable's name and slot. -/
def nameO (x : InsV) : ByteArray := if x.op = 2 ∨ x.op = 4 then x.text else ⟨#[]⟩
def slotO (s : SSt) (x : InsV) : Int := if x.op = 2 ∨ x.op = 4 then s.made else -1
theorem twigS_next (s : SSt) (x : InsV) : (twigS s x).next = s.next := by
  unfold twigS
  by_cases h1 : x.op = 2 ∨ x.op = 4
  · rw [if_pos h1]; rfl
  · rw [if_neg h1]
    by_cases h2 : x.op = 5 ∨ x.op = 26
    · rw [if_pos h2]
    · rw [if_neg h2]
theorem own_keep {w w' : World} {base e size n : Nat} {v : Value} {xs : List Value} {no : Nat → Prop} (h : w.ownsRow base e size v n xs) (hk : Keep no w w') (hn : ∀ k, base ≤ k → ¬ no k) : w'.ownsRow base e size v n xs := by
  refine ⟨h.1, ?_⟩
  rcases h.2 with h2 | ⟨g, cap, cur, hv, hb, hg, hr⟩
  · exact .inl h2
  · exact .inr ⟨g, cap, cur, hv, hb, (hk.block g (Array.getElem?_eq_some_iff.1 hg).1 (hn g hb)).trans hg, hr⟩
theorem own_blockS {w w' : World} {base e size n : Nat} {v : Value} {xs : List Value} (h : w.ownsRow base e size v n xs) (hk : ∀ g, v.ownBlock = some g → w'.heap[g]? = w.heap[g]?) : w'.ownsRow base e size v n xs := by
  refine ⟨h.1, ?_⟩
  rcases h.2 with h2 | ⟨g, cap, cur, hv, hb, hg, hr⟩
  · exact .inl h2
  · exact .inr ⟨g, cap, cur, hv, hb, (hk g (by rw [hv]; rfl)).trans hg, hr⟩
theorem Keep.thenB {no : Nat → Prop} {a b c : World} {B : Nat} (h : Keep no a b) (hb : Below B b c) (hB : a.heap.size ≤ B) : Keep no a c :=
  ⟨hb.os.trans h.os, hb.tape.trans h.tape, hb.output.trans h.output, Nat.le_trans h.size hb.size, fun k hk hn => (hb.block k (Nat.lt_of_lt_of_le hk hB)).trans (h.block k hk hn)⟩
theorem own_at {w : World} {base e n g cap j : Nat} {xs : List Value} {v : Value} (h : w.ownsRow base e 1 (.slice (some ⟨g, 0, none⟩) n cap) n xs) (hv : xs[j]? = some v) : w.cell? ⟨g, j, none⟩ = some v := by
  have := h.cells (g := g) rfl j v hv
  by_cases hj : j = 0
  · subst hj; simpa [Addr.add] using this
  · simpa [Addr.add, hj] using this
/-- The loop that forgets the parts' names: where it stands. -/
structure SL2 (x : SB) (w : World) (rr : SSt × List ByteArray) (mv : Value) (j : Nat) (d : Nat) (wl : World) : Prop where
  hj : j ≤ rr.2.length
  sw : SW x { rr.1 with seen := (rr.2.take j).foldl (fun d n => d.del (litS n)) rr.1.seen } d wl
  kp : Keep (noS x) w wl
  ow : wl.ownsRow (w.heap.size + 1) 9 1 mv rr.2.length (rr.2.map Value.string)
/-- The parts' loop: where it stands. -/
structure SLp (x : SB) (w : World) (kids : Int) (ks : Nat → Nat) (F : Nat → SSt → List ByteArray → SSt × List ByteArray) (rr : SSt × List ByteArray) (k : Nat) (st : SSt) (mine : List ByteArray) (mv : Value) (d : Nat) (wl : World) : Prop where
  hk : k ≤ kids.toNat
  sw : SW x st d wl
  kp : Keep (noS x) w wl
  ck : wl.cell? ⟨w.heap.size, 1, none⟩ = some (.int .i64 kids)
  ow : wl.ownsRow (w.heap.size + 1) 9 1 mv mine.length (mine.map Value.string)
  ln : mine.length ≤ k
  sm : ∀ n ∈ mine, n.size ≤ 24
  ok : st.fault = 0 → SOk x.cs st ∧ st.next = ks k
  eq : rr = F (kids.toNat - k) st mine
structure SLe (x : SB) (w : World) (rr : SSt × List ByteArray) (mv : Value) (d : Nat) (wl : World) : Prop where
  sw : SW x rr.1 d wl
  kp : Keep (noS x) w wl
  ow : wl.ownsRow (w.heap.size + 1) 9 1 mv rr.2.length (rr.2.map Value.string)
  ln : rr.2.length ≤ 2048
  sm : ∀ n ∈ rr.2, n.size ≤ 24
def CutP (x : SB) (s : SSt) (d : Nat) (wq wx : World) : Prop := SW x s (d + 1) wx ∧ Keep (noS x) wq wx
set_option maxRecDepth 100000 in
set_option maxHeartbeats 4000000 in
theorem swalk_step (x : SB) (hd : SD x) (f : Nat) (s : SSt) (nx : Nat) (may : Nat → Bool) (d : Nat) (w : World) (hw : SW x s d w) (hok : SOk x.cs s) (h0 : s.fault = 0) (hr : Rt x.cs (f + 1) s.next nx may)
    (ih : ∀ (s : SSt) (nx : Nat) (may : Nat → Bool) (d : Nat) (w : World), SW x s d w → SOk x.cs s → s.fault = 0 → Rt x.cs f s.next nx may → Calls Try.prog 18 x.caps w (SPost x (swalkS x.cs f s) d w)) :
    Calls Try.prog 18 x.caps w (SPost x (swalkS x.cs (f + 1) s) d w) := by
  obtain ⟨hlt, htw, ks, k0, k1, k2⟩ := hr
  have hlen := hd.len
  obtain ⟨cb, co, hA, hcb, hck⟩ := hw.code (by omega)
  obtain ⟨e0, e1, e2, e3⟩ := hck s.next hlt
  have hop : (atV x.cs s.next).op < 256 := (hd.ok _ hlt).1
  have HSZ := Lib.hid (tw_size htw)
  have hkb := tw_kids htw
  have E := Lib.hid (show swalkS x.cs (f + 1) s = if (twigS s (atV x.cs s.next)).fault ≠ 0 then (twigS s (atV x.cs s.next), ⟨#[]⟩, -1)
    else (dropS (skidsS (swalkS x.cs f) (atV x.cs s.next).a.toNat { twigS s (atV x.cs s.next) with next := s.next + 1 } []).1 (skidsS (swalkS x.cs f) (atV x.cs s.next).a.toNat { twigS s (atV x.cs s.next) with next := s.next + 1 } []).2, nameO (atV x.cs s.next), slotO s (atV x.cs s.next)) by rw [swalkS]; rfl)
  have TO := Lib.hid (fun h => (twig_ok (cs := x.cs) hok h).1)
  clear hck
  generalize swalkS x.cs (f + 1) s = rr at *
  have h1 := hw.t
  have h2 := hw.nx
  have h3 := hw.md
  have h4 := hw.en
  have h5 := hw.sn
  have h6 := hw.ft
  have h7 := hw.ou
  have z6 := hw.zf
  have b1 := World.block_lt_of_cell? w _ h1
  have b2 := World.block_lt_of_cell? w _ h2
  have b3 := World.block_lt_of_cell? w _ h3
  have b4 := World.block_lt_of_cell? w _ h4
  have b5 := World.block_lt_of_cell? w _ h5
  have b6 := World.block_lt_of_cell? w _ h6
  have b7 := World.block_lt_of_cell? w _ h7
  simp only at b1 b2 b3 b4 b5 b6 b7
  rw [hA] at h1
  have HW := Lib.hid hw
  have HD := Lib.hid hd
  have IH := Lib.hid ih
  have HOK := Lib.hid hok
  have HF := Lib.hid h0
  have HK0 := Lib.hid k0
  have HK1 := Lib.hid k1
  have HK2 := Lib.hid k2
  have HAA := Lib.hid hA
  clear hw hd ih hok h0 k0 k1 k2 hA htw
  generalize htq : atV x.cs s.next = tw at *
  obtain ⟨op, kids, int, text⟩ := tw
  have HTQ := Lib.hid htq
  clear htq
  simp only at e0 e1 e2 e3 hop hkb
  have hdd : decide ((s.next : Int) < (x.cs.length : Int)) = true := decide_eq_true (by omega)
  show Calls Try.prog 18 #[.pointer (some ⟨x.tp, 0, none⟩), .pointer (some ⟨x.nb, 0, none⟩), .pointer (some ⟨x.mb, 0, none⟩), .pointer (some ⟨x.eb, 0, none⟩), .pointer (some ⟨x.sb, 0, none⟩), .pointer (some ⟨x.fb, 0, none⟩), .pointer (some ⟨x.ob, 0, none⟩), .pointer (some ⟨x.wb, 0, none⟩)] w _
  go_enter Try.func18, Try.ntmps18
  go_upto_block 0 with fail
  obtain ⟨wq, hwq⟩ : ∃ wq, wq = w.alloc (.cells #[.int .u8 (op : Int), .int .i64 kids, .int .i64 int, .string text] 31) := ⟨_, rfl⟩
  have hbq : Below w.heap.size w wq := by rw [hwq]; exact (Below.refl _ w).alloc (Nat.le_refl _) _
  have sq : wq.heap.size = w.heap.size + 1 := by rw [hwq]; simp
  have q1 : wq.cell? ⟨w.heap.size, 1, none⟩ = some (.int .i64 kids) := by rw [hwq]; simp
  have q3 : wq.cell? ⟨w.heap.size, 3, none⟩ = some (.string text) := by rw [hwq]; simp
  have HWQ := Lib.hid (HW.out.low HD.out hbq)
  have HBQ := Lib.hid hbq
  have HSX := Lib.hid HW.out.sx
  rw [← hwq]
  have HW0 := Lib.hid (show x.nb < w.heap.size ∧ x.mb < w.heap.size ∧ x.fb < w.heap.size ∧ x.ob < w.heap.size ∧ x.b < w.heap.size ∧ x.rb < w.heap.size from ⟨b2, b3, b6, b7, by obtain ⟨n, _, hm⟩ := HW.out.mp; exact maps_lt hm, HW.out.ro.lt⟩)
  clear hwq hbq e0 e1 e2 e3 h1 h2 h3 h4 h5 h6 h7 z6 HW hdd
  go_cut [11, 12] (fun n sl wx => n = .string (nameO ⟨op, kids, int, text⟩) ∧ sl = .int .i64 (slotO s ⟨op, kids, int, text⟩) ∧ CutP x (twigS s ⟨op, kids, int, text⟩) d wq wx)
  case first =>
    clear sq q1
    have h3 := HWQ.out.md
    have h4 := HWQ.out.en
    have h5 := HWQ.out.sn
    have h7 := HWQ.out.ou
    simp only [SB.ecaps] at h4
    have HLK := Lib.hid (show ∃ n, n + d ≤ s.out.length ∧ MapS wq x.b n s.seen from HWQ.out.mp)
    rcases (show (op = 2 ∨ op = 4) ∨ (op = 5 ∨ op = 26) ∨ (op ≠ 2 ∧ op ≠ 4 ∧ op ≠ 5 ∧ op ≠ 26) by omega) with ho | ho | ho
    · have T1 := Lib.hid (show twigS s ⟨op, kids, int, text⟩ = enterS s text by unfold twigS; rw [if_pos ho])
      have T2 := Lib.hid (show nameO ⟨op, kids, int, text⟩ = text by unfold nameO; rw [if_pos ho])
      have T3 := Lib.hid (show slotO s ⟨op, kids, int, text⟩ = s.made by unfold slotO; rw [if_pos ho])
      generalize twigS s ⟨op, kids, int, text⟩ = tg at *
      have hts : text.size ≤ 24 := HSZ.out (by simp only; omega)
      have hen := fun q => enter_any x HD.out s d text (by omega) (wq.drewN q) (HWQ.out.low HD.out (below_drewN (Below.refl _ wq) q)) (by have := HOK.out.ln; omega) HOK.out.mk0 HOK.out.mk1
      have HEN := Lib.hid hen
      clear hen
      rcases ho with ho | ho
      · have o1 : ((op : Int) == 2) = true := by simp; omega
        have o2 : ((op : Int) == 4) = false := by simp; omega
        clear ho
        go_wp2_with go_quiet (fail)
        refine (HEN.out _).mono ?_
        rintro e w1 ⟨rfl, g1, g2⟩
        have G1 := Lib.hid g1
        have G2 := Lib.hid g2
        clear g1 g2
        go_wp2_with fail
        go_meet
        exact ⟨by rw [T2.out], by rw [T3.out], by rw [T1.out]; exact G1.out, (Keep.of_below (below_drewN (Below.refl _ wq) _)).trans G2.out⟩
      · have o1 : ((op : Int) == 2) = false := by simp; omega
        have o2 : ((op : Int) == 4) = true := by simp; omega
        clear ho
        go_wp2_with go_quiet (fail)
        refine (HEN.out _).mono ?_
        rintro e w1 ⟨rfl, g1, g2⟩
        have G1 := Lib.hid g1
        have G2 := Lib.hid g2
        clear g1 g2
        go_wp2_with fail
        go_meet
        exact ⟨by rw [T2.out], by rw [T3.out], by rw [T1.out]; exact G1.out, (Keep.of_below (below_drewN (Below.refl _ wq) _)).trans G2.out⟩
    · have hts : text.size ≤ 24 := HSZ.out (by simp only; omega)
      have T2 := Lib.hid (show nameO ⟨op, kids, int, text⟩ = ⟨#[]⟩ by unfold nameO; rw [if_neg (by simp only; omega)])
      have T3 := Lib.hid (show slotO s ⟨op, kids, int, text⟩ = -1 by unfold slotO; rw [if_neg (by simp only; omega)])
      have T1 := Lib.hid (show twigS s ⟨op, kids, int, text⟩ = { s with fault := if Maps.has s.seen (litS text) then s.fault else 110, out := s.out ++ [intD (s.seen.atKey (litS text) (.lit (.int .i64 0)))] } by unfold twigS; rw [if_neg (by simp only; omega), if_pos (by simp only; omega)])
      obtain ⟨n, hn, hm⟩ := HLK.out
      have hlook := maps_look hm (s := text) (by omega)
      unfold ansS at hlook
      generalize twigS s ⟨op, kids, int, text⟩ = tg at *
      generalize intD (s.seen.atKey (litS text) (.lit (.int .i64 0))) = q at *
      generalize Maps.has s.seen (litS text) = is at *
      obtain ⟨i0, hi0, _, hi1, _⟩ := info_of infoN
      have HI0 := Lib.hid hi0
      have HI1 := Lib.hid hi1
      clear hi0 hi1 hm
      have o1 : ((op : Int) == 2) = false := by simp; omega
      have o2 : ((op : Int) == 4) = false := by simp; omega
      have h6 := HWQ.out.ft
      have z6 := HWQ.out.zf
      have o34 : (((op : Int) == 5) = true ∨ (((op : Int) == 5) = false ∧ ((op : Int) == 26) = true)) := by
        rcases ho with ho | ho
        · left; simp; omega
        · right; constructor <;> (simp; omega)
      clear ho
      cases is with
      | true =>
        have T4 := Lib.hid (show tg = { s with out := s.out ++ [q] } by rw [T1.out]; rfl)
        clear T1
        rcases o34 with o3 | ⟨o3, o4⟩
        all_goals (
          go_upto_region 14 with fail
          have HW1 := HWQ
          have HK1 := Lib.hid (Keep.refl (noS x) wq)
          clear h3 h4 h5 h6 h7 z6 hlook HLK HWQ
          generalize wq = w1 at *
          obtain ⟨cur, g1, g2, g3⟩ := HW1.out.ro
          have k4 := HW1.out.ou
          have z4 := HW1.out.zo
          have p4 := World.block_lt_of_cell? w1 _ k4
          simp only at k4 p4
          have HG := Lib.hid (show (w1.alloc (.cells #[.int .i64 q] 3)).heap[x.rb]? = some (.cells cur 3 (0, 0)) from (Below.heap_alloc _ _ _ HW1.out.ro.lt).trans g1)
          have HGC := Lib.hid g2
          have HGT := Lib.hid g3
          have HLE := Lib.hid HOK.out.ln
          clear g1 g2 g3
          go_wp2_with (at_builtin; refine wpList_append_room1 _ rfl _ _ 41 rfl 3 i0 Try.underlying41 HI0.out HI1.out x.rb s.out.length x.cs.length cur rfl HG.out ⟨w1.heap.size, 0, none⟩ 1 (.int .i64 q) rfl (cell_one_new _ _ _) rfl (by have := HLE.out; omega) (by have := HLE.out; rw [HGC.out]; omega) ?_)
          intro w2 hg2 hr2
          have HG2 := Lib.hid hg2
          have HR2 := Lib.hid hr2
          have k5 : w2.cell? ⟨x.ob, 0, none⟩ = some (.slice (some ⟨x.rb, 0, none⟩) s.out.length x.cs.length) :=
            (World.cell?_of_block (w := w1.alloc (.cells #[.int .i64 q] 3)) (a := ⟨x.ob, 0, none⟩) (hg2.block _ (by simp; omega) (fun e => HD.out.rr.2.2.2 (by injection e with e; exact e.symm)))).trans (by rw [World.cell?_alloc_old _ _ _ (Nat.ne_of_lt p4)]; exact k4)
          have f5 : w2.frozen? ⟨x.ob, 0, none⟩ = false :=
            (World.frozen?_of_block (w := w1.alloc (.cells #[.int .i64 q] 3)) (a := ⟨x.ob, 0, none⟩) (hg2.block _ (by simp; omega) (fun e => HD.out.rr.2.2.2 (by injection e with e; exact e.symm)))).trans (by rw [World.frozen?_alloc_old _ _ _ (Nat.ne_of_lt p4)]; exact z4)
          have HW3 := Lib.hid (SW.app HD.out (HW1.out.low HD.out ((Below.refl _ w1).alloc (Nat.le_refl _) (.cells #[.int .i64 q] 3))) q HGT.out HGC.out HG2.out HR2.out)
          have HK3 := Lib.hid ((HK1.out.alloc (.cells #[.int .i64 q] 3)).trans ((Keep.grown HG2.out (.inr (.inr (.inr (.inr (.inr rfl)))))).setCell (p := ⟨x.ob, 0, none⟩) (.inr (.inr (.inr (.inl rfl)))) (.slice (some ⟨x.rb, 0, none⟩) (s.out.length + 1) x.cs.length)))
          clear hg2 hr2 k4 z4 p4 HG HGC HGT HW1 HK1 HLE
          go_wp2_with fail
          go_meet
          exact ⟨by rw [T2.out], by rw [T3.out], by rw [T4.out]; exact HW3.out, HK3.out⟩)
      | false =>
        have T4 := Lib.hid (show tg = { s with fault := 110, out := s.out ++ [q] } by rw [T1.out]; rfl)
        clear T1
        rcases o34 with o3 | ⟨o3, o4⟩
        all_goals (
          go_upto_region 14 with fail
          have HW1 := Lib.hid (HWQ.out.setF HD.out 110)
          have HK1 := Lib.hid ((Keep.refl (noS x) wq).setCell (p := ⟨x.fb, 0, none⟩) (.inr (.inr (.inl rfl))) (.int .i64 110))
          clear h3 h4 h5 h6 h7 z6 hlook HLK
          generalize wq.setCell ⟨x.fb, 0, none⟩ (.int .i64 110) = w1 at *
          obtain ⟨cur, g1, g2, g3⟩ := HW1.out.ro
          have k4 := HW1.out.ou
          have z4 := HW1.out.zo
          have p4 := World.block_lt_of_cell? w1 _ k4
          simp only at k4 p4
          have HG := Lib.hid (show (w1.alloc (.cells #[.int .i64 q] 3)).heap[x.rb]? = some (.cells cur 3 (0, 0)) from (Below.heap_alloc _ _ _ HW1.out.ro.lt).trans g1)
          have HGC := Lib.hid g2
          have HGT := Lib.hid g3
          have HLE := Lib.hid HOK.out.ln
          clear g1 g2 g3
          go_wp2_with (at_builtin; refine wpList_append_room1 _ rfl _ _ 41 rfl 3 i0 Try.underlying41 HI0.out HI1.out x.rb s.out.length x.cs.length cur rfl HG.out ⟨w1.heap.size, 0, none⟩ 1 (.int .i64 q) rfl (cell_one_new _ _ _) rfl (by have := HLE.out; omega) (by have := HLE.out; rw [HGC.out]; omega) ?_)
          intro w2 hg2 hr2
          have HG2 := Lib.hid hg2
          have HR2 := Lib.hid hr2
          have k5 : w2.cell? ⟨x.ob, 0, none⟩ = some (.slice (some ⟨x.rb, 0, none⟩) s.out.length x.cs.length) :=
            (World.cell?_of_block (w := w1.alloc (.cells #[.int .i64 q] 3)) (a := ⟨x.ob, 0, none⟩) (hg2.block _ (by simp; omega) (fun e => HD.out.rr.2.2.2 (by injection e with e; exact e.symm)))).trans (by rw [World.cell?_alloc_old _ _ _ (Nat.ne_of_lt p4)]; exact k4)
          have f5 : w2.frozen? ⟨x.ob, 0, none⟩ = false :=
            (World.frozen?_of_block (w := w1.alloc (.cells #[.int .i64 q] 3)) (a := ⟨x.ob, 0, none⟩) (hg2.block _ (by simp; omega) (fun e => HD.out.rr.2.2.2 (by injection e with e; exact e.symm)))).trans (by rw [World.frozen?_alloc_old _ _ _ (Nat.ne_of_lt p4)]; exact z4)
          have HW3 := Lib.hid (SW.app HD.out (HW1.out.low HD.out ((Below.refl _ w1).alloc (Nat.le_refl _) (.cells #[.int .i64 q] 3))) q HGT.out HGC.out HG2.out HR2.out)
          have HK3 := Lib.hid ((HK1.out.alloc (.cells #[.int .i64 q] 3)).trans ((Keep.grown HG2.out (.inr (.inr (.inr (.inr (.inr rfl)))))).setCell (p := ⟨x.ob, 0, none⟩) (.inr (.inr (.inr (.inl rfl)))) (.slice (some ⟨x.rb, 0, none⟩) (s.out.length + 1) x.cs.length)))
          clear hg2 hr2 k4 z4 p4 HG HGC HGT HW1 HK1 HLE
          go_wp2_with fail
          go_meet
          exact ⟨by rw [T2.out], by rw [T3.out], by rw [T4.out]; exact HW3.out, HK3.out⟩)
    · have T2 := Lib.hid (show nameO ⟨op, kids, int, text⟩ = ⟨#[]⟩ by unfold nameO; rw [if_neg (by simp only; omega)])
      have T3 := Lib.hid (show slotO s ⟨op, kids, int, text⟩ = -1 by unfold slotO; rw [if_neg (by simp only; omega)])
      have T4 := Lib.hid (show twigS s ⟨op, kids, int, text⟩ = { s with out := s.out ++ [-1] } by unfold twigS; rw [if_neg (by simp only; omega), if_neg (by simp only; omega)])
      generalize twigS s ⟨op, kids, int, text⟩ = tg at *
      obtain ⟨i0, hi0, _, hi1, _⟩ := info_of infoN
      have HI0 := Lib.hid hi0
      have HI1 := Lib.hid hi1
      clear hi0 hi1
      have o1 : ((op : Int) == 2) = false := by simp; omega
      have o2 : ((op : Int) == 4) = false := by simp; omega
      have o3 : ((op : Int) == 5) = false := by simp; omega
      have o4 : ((op : Int) == 26) = false := by simp; omega
      clear ho
      go_upto_region 4 with fail
      have HW1 := HWQ
      have HK1 := Lib.hid (Keep.refl (noS x) wq)
      clear h3 h4 h5 h7 HLK HWQ
      generalize wq = w1 at *
      obtain ⟨cur, g1, g2, g3⟩ := HW1.out.ro
      have k4 := HW1.out.ou
      have z4 := HW1.out.zo
      have p4 := World.block_lt_of_cell? w1 _ k4
      simp only at k4 p4
      have HG := Lib.hid (show (w1.alloc (.cells #[.int .i64 (-1)] 3)).heap[x.rb]? = some (.cells cur 3 (0, 0)) from (Below.heap_alloc _ _ _ HW1.out.ro.lt).trans g1)
      have HGC := Lib.hid g2
      have HGT := Lib.hid g3
      have HLE := Lib.hid HOK.out.ln
      clear g1 g2 g3
      go_wp2_with (at_builtin; refine wpList_append_room1 _ rfl _ _ 41 rfl 3 i0 Try.underlying41 HI0.out HI1.out x.rb s.out.length x.cs.length cur rfl HG.out ⟨w1.heap.size, 0, none⟩ 1 (.int .i64 (-1)) rfl (cell_one_new _ _ _) rfl (by have := HLE.out; omega) (by have := HLE.out; rw [HGC.out]; omega) ?_)
      intro w2 hg2 hr2
      have HG2 := Lib.hid hg2
      have HR2 := Lib.hid hr2
      have k5 : w2.cell? ⟨x.ob, 0, none⟩ = some (.slice (some ⟨x.rb, 0, none⟩) s.out.length x.cs.length) :=
        (World.cell?_of_block (w := w1.alloc (.cells #[.int .i64 (-1)] 3)) (a := ⟨x.ob, 0, none⟩) (hg2.block _ (by simp; omega) (fun e => HD.out.rr.2.2.2 (by injection e with e; exact e.symm)))).trans (by rw [World.cell?_alloc_old _ _ _ (Nat.ne_of_lt p4)]; exact k4)
      have f5 : w2.frozen? ⟨x.ob, 0, none⟩ = false :=
        (World.frozen?_of_block (w := w1.alloc (.cells #[.int .i64 (-1)] 3)) (a := ⟨x.ob, 0, none⟩) (hg2.block _ (by simp; omega) (fun e => HD.out.rr.2.2.2 (by injection e with e; exact e.symm)))).trans (by rw [World.frozen?_alloc_old _ _ _ (Nat.ne_of_lt p4)]; exact z4)
      have HW3 := Lib.hid (SW.app HD.out (HW1.out.low HD.out ((Below.refl _ w1).alloc (Nat.le_refl _) (.cells #[.int .i64 (-1)] 3))) (-1) HGT.out HGC.out HG2.out HR2.out)
      have HK3 := Lib.hid ((HK1.out.alloc (.cells #[.int .i64 (-1)] 3)).trans ((Keep.grown HG2.out (.inr (.inr (.inr (.inr (.inr rfl)))))).setCell (p := ⟨x.ob, 0, none⟩) (.inr (.inr (.inr (.inl rfl)))) (.slice (some ⟨x.rb, 0, none⟩) (s.out.length + 1) x.cs.length)))
      clear hg2 hr2 k4 z4 p4 HG HGC HGT HW1 HK1 HLE
      go_wp2_with fail
      go_meet
      exact ⟨by rw [T2.out], by rw [T3.out], by rw [T4.out]; exact HW3.out, HK3.out⟩
  case rest =>
    obtain ⟨rfl, rfl, hwc, hkc⟩ := hcut
    have TN := Lib.hid (twigS_next s ⟨op, kids, int, text⟩)
    have h2 : wc.cell? ⟨x.nb, 0, none⟩ = some (.int .i64 (s.next : Int)) := by have := hwc.nx; rwa [twigS_next] at this
    have h6 := hwc.ft
    have h8 := hwc.wk
    have z2 := hwc.zn
    have r1 := (hkc.cell (p := ⟨w.heap.size, 1, none⟩) (by simp only; omega) (by simp only [noS]; have := HW0.out; omega)).trans q1
    have c2 := World.block_lt_of_cell? wc _ h2
    have c6 := World.block_lt_of_cell? wc _ h6
    have c8 := World.block_lt_of_cell? wc _ h8
    simp only at c2 c6 c8
    simp only [SB.caps] at h8
    have HWC := Lib.hid hwc
    have HKC := Lib.hid (Keep.trans (Keep.of_below HBQ.out) hkc)
    have HSC := Lib.hid (show w.heap.size + 1 ≤ wc.heap.size by have := hkc.size; omega)
    clear hwc hkc HWQ HBQ q1 q3 sq
    generalize twigS s ⟨op, kids, int, text⟩ = tg at *
    generalize nameO ⟨op, kids, int, text⟩ = nm at *
    generalize slotO s ⟨op, kids, int, text⟩ = sl at *
    by_cases hff : tg.fault = 0
    · have o1 : (tg.fault == 0) = true := by simp [hff]
      have o2 : (tg.fault != 0) = false := by simp [hff]
      have E1 := Lib.hid (show rr = (dropS (skidsS (swalkS x.cs f) kids.toNat { tg with next := s.next + 1 } []).1 (skidsS (swalkS x.cs f) kids.toNat { tg with next := s.next + 1 } []).2, nm, sl) by have := E.out; rwa [if_neg (by omega)] at this)
      have HFF := Lib.hid hff
      clear E hff
      have TK := Lib.hid (TO.out HFF.out)
      obtain ⟨s1, hs1⟩ : ∃ s1 : SSt, s1 = { tg with next := s.next + 1 } := ⟨_, rfl⟩
      rw [← hs1] at E1 TK
      have HS1F := Lib.hid (show s1.fault = 0 by rw [hs1]; exact HFF.out)
      have HS1N := Lib.hid (show s1.next = ks 0 by rw [hs1]; exact HK0.out.symm)
      have HWD := Lib.hid (show SW x s1 (d + 1) (wc.setCell ⟨x.nb, 0, none⟩ (.int .i64 ((s.next : Int) + 1))) by
        have := HWC.out.setN HD.out (s.next + 1)
        rw [show ((s.next + 1 : Nat) : Int) = (s.next : Int) + 1 by omega] at this
        rw [hs1]; exact this)
      have HKD := Lib.hid (HKC.out.setCell (p := ⟨x.nb, 0, none⟩) (.inl rfl) (.int .i64 ((s.next : Int) + 1)))
      have r1 := (World.cell?_setCell_other wc ⟨x.nb, 0, none⟩ ⟨w.heap.size, 1, none⟩ (.int .i64 ((s.next : Int) + 1)) (fun e => by have := congrArg Addr.block e; have := HW0.out; simp only at *; omega)).trans r1
      clear hs1
      obtain ⟨rq, hrq⟩ : ∃ rq, rq = skidsS (swalkS x.cs f) kids.toNat s1 [] := ⟨_, rfl⟩
      rw [← hrq] at E1
      have HRQ := Lib.hid hrq
      clear hrq
      go_upto_block 1 with fail
      have HSD := Lib.hid (show w.heap.size + 1 ≤ (wc.setCell ⟨x.nb, 0, none⟩ (.int .i64 ((s.next : Int) + 1))).heap.size by rw [World.size_setCell]; exact HSC.out)
      clear h2 h6 h8 z2 c2 c6 c8 o1 o2 HWC HKC TN
      generalize wc.setCell ⟨x.nb, 0, none⟩ (.int .i64 ((s.next : Int) + 1)) = wd at *
      go_cut [15] (fun mv wx => SLe x w rq mv (d + 1) wx)
      case first =>
        go_wp2_with fail
        go_loopw [16, 15, 17, 18] (fun i mv _ _ wl => ∃ (k : Nat) (st : SSt) (mine : List ByteArray), i = .int .i64 (k : Int) ∧ SLp x w kids ks (skidsS (swalkS x.cs f)) rq k st mine mv (d + 1) wl) (fun i _ _ _ _ => kids.toNat - (intOf i).toNat)
        case atStart =>
          refine ⟨0, s1, [], rfl, ⟨Nat.zero_le _, HWD.out, HKD.out, r1, World.ownsRow_nil _ _ _ _, Nat.zero_le _, fun n hn => (by cases hn), fun _ => ⟨TK.out, HS1N.out⟩, HRQ.out⟩⟩
        case round =>
          clear r1 HWD HKD HSD
          obtain ⟨k, st, mine, rfl, hL⟩ := hrel
          have l1 := hL.ck
          have l2 := hL.sw.ft
          have l3 := hL.sw.wk
          have l4 := hL.sw.sn
          simp only [SB.caps] at l3
          have b1 := World.block_lt_of_cell? wr _ l1
          have b2 := World.block_lt_of_cell? wr _ l2
          have b3 := World.block_lt_of_cell? wr _ l3
          have b4 := World.block_lt_of_cell? wr _ l4
          simp only at b1 b2 b3 b4
          have HL := Lib.hid hL
          clear hL
          by_cases hik : k < kids.toNat
          · have c1 : decide ((k : Int) < kids) = true := decide_eq_true (by omega)
            by_cases hsf : st.fault = 0
            · have c2 : (st.fault == 0) = true := by simp [hsf]
              have hrt := HK2.out k hik
              rw [← (HL.out.ok hsf).2] at hrt
              have NSZ := Lib.hid (swalk_name x.cs f _ _ st hrt)
              have HC := Lib.hid (show Calls Try.prog 18 #[.pointer (some ⟨x.tp, 0, none⟩), .pointer (some ⟨x.nb, 0, none⟩), .pointer (some ⟨x.mb, 0, none⟩), .pointer (some ⟨x.eb, 0, none⟩), .pointer (some ⟨x.sb, 0, none⟩), .pointer (some ⟨x.fb, 0, none⟩), .pointer (some ⟨x.ob, 0, none⟩), .pointer (some ⟨x.wb, 0, none⟩)] wr _ from IH.out st (ks (k + 1)) _ (d + 1) wr HL.out.sw (HL.out.ok hsf).1 hsf hrt)
              have WOK := Lib.hid (fun hf => swalk_ok x.cs f _ _ _ st hrt (HL.out.ok hsf).1 hsf rfl hf)
              have EQ := Lib.hid (show rq = if (swalkS x.cs f st).2.1.size ≠ 0 ∧ (swalkS x.cs f st).1.fault = 0 then skidsS (swalkS x.cs f) (kids.toNat - (k + 1)) { (swalkS x.cs f st).1 with seen := (swalkS x.cs f st).1.seen.put (litS (swalkS x.cs f st).2.1) (.lit (.int .i64 (swalkS x.cs f st).2.2)) } (mine ++ [(swalkS x.cs f st).2.1])
                else skidsS (swalkS x.cs f) (kids.toNat - (k + 1)) (swalkS x.cs f st).1 mine by
                  have he := HL.out.eq
                  rw [show kids.toNat - k = (kids.toNat - (k + 1)) + 1 by omega, skidsS, if_pos hsf] at he
                  exact he)
              clear hrt hsf
              go_wp2_with fail
              refine HC.out.mono ?_
              rintro e w2 ⟨rfl, g1, g2⟩
              generalize swalkS x.cs f st = q at *
              obtain ⟨st2, nm2, sl2⟩ := q
              simp only at g1 ⊢
              have n1 := g1.ft
              have n2 := g1.sn
              have p1 := World.block_lt_of_cell? w2 _ n1
              have p2 := World.block_lt_of_cell? w2 _ n2
              simp only at p1 p2
              have G1 := Lib.hid g1
              have G2 := Lib.hid g2
              clear g1 g2 l1 l2 l3 l4 HC c1 c2
              have l1' := (G2.out.cell (p := ⟨w.heap.size, 1, none⟩) (World.block_lt_of_cell? wr _ HL.out.ck) (HSX.out.no (Nat.le_refl _))).trans HL.out.ck
              by_cases hns : nm2.size = 0
              · have c3 := emptyYes hns
                have EQ1 := Lib.hid (show rq = skidsS (swalkS x.cs f) (kids.toNat - (k + 1)) st2 mine by have := EQ.out; rwa [if_neg (by simp only; omega)] at this)
                clear hns
                go_wp2_with fail
                go_roundw
                case rel =>
                  refine ⟨k + 1, st2, mine, by go_num, by omega, G1.out.less (by omega), HL.out.kp.trans G2.out, l1', own_keep HL.out.ow G2.out (fun k hk => HSX.out.no (by omega)), by have := HL.out.ln; omega, HL.out.sm, fun hf => ?_, EQ1.out⟩
                  obtain ⟨r1, r2, _⟩ := WOK.out hf
                  exact ⟨r1, r2⟩
                case measure => simp [intOf]; omega
              · have c3 := emptyNo (show 0 < nm2.size by omega)
                by_cases hf2 : st2.fault = 0
                · have c4 : (st2.fault == 0) = true := by simp [hf2]
                  have EQ1 := Lib.hid (show rq = skidsS (swalkS x.cs f) (kids.toNat - (k + 1)) { st2 with seen := st2.seen.put (litS nm2) (.lit (.int .i64 sl2)) } (mine ++ [nm2]) by have := EQ.out; rwa [if_pos ⟨by simp only; omega, hf2⟩] at this)
                  have HNS := Lib.hid (show nm2.size ≠ 0 by omega)
                  have HF2 := Lib.hid hf2
                  clear hns hf2
                  obtain ⟨i0, hi0, hi1, hi2, hi3⟩ := info_of infoS
                  have HI0 := Lib.hid hi0
                  have HI1 := Lib.hid hi1
                  have HI2 := Lib.hid hi2
                  have HI3 := Lib.hid hi3
                  clear hi0 hi1 hi2 hi3
                  have HZ2 := Lib.hid (show w.heap.size + 1 ≤ w2.heap.size by have := G2.out.size; have := World.block_lt_of_cell? wr _ HL.out.ck; simp only at this; omega)
                  have HOW := Lib.hid (own_keep HL.out.ow G2.out (fun k hk => HSX.out.no (by omega)))
                  go_wp2_with (at_builtin; refine wpList_append_own_at _ rfl _ _ 62 rfl (w.heap.size + 1) 9 i0 (.string ⟨#[]⟩) 1 16 Try.underlying62 HI0.out HI1.out HI2.out HI3.out rfl (by decide) _ mine.length (mine.map Value.string) rfl ?own ⟨w2.heap.size, 0, none⟩ 1 1 [.string nm2] rfl rfl (cell_one_new _ _ _) ?c1 ?c2 ?c3 ?c4 ?_)
                  case own => exact own_blockS HOW.out (fun g hg => Below.heap_alloc _ _ _ (HOW.out.lt g hg).2)
                  case c1 => rfl
                  case c2 => have := HL.out.ln; have := HL.out.hk; unfold maxLen; omega
                  case c3 => have := HL.out.ln; have := HL.out.hk; omega
                  case c4 => have := HZ2.out; simp; omega
                  intro v' w3 hown' hgrow _ _
                  have HB3 := Lib.hid (show Below (w.heap.size + 1) w2 w3 from Below.grown ((Below.refl _ w2).alloc HZ2.out _) hgrow (by have := HZ2.out; simp; omega) (fun q e => (HOW.out.lt q e).1))
                  have HOW3 := Lib.hid hown'
                  have HSX1 := Lib.hid (show SX x (w.heap.size + 1) from HSX.out.mono (by omega))
                  have HG3 := Lib.hid (G1.out.lowB HSX1.out HB3.out)
                  have n3 := HG3.out.sn
                  have p3 := World.block_lt_of_cell? w3 _ n3
                  simp only at p3
                  have HSL := Lib.hid ((WOK.out HF2.out).2.2 HNS.out)
                  obtain ⟨n5, hn5, hm5⟩ := HG3.out.mp
                  have HM5 := Lib.hid hm5
                  have HLN := Lib.hid (show (st2.out.length : Int) ≤ 2048 by have := (WOK.out HF2.out).1.ln; have := (WOK.out HF2.out).2.1; have := (HK2.out k hik).lt; omega)
                  clear hown' hgrow hm5 n1 n2 p1 p2
                  go_wp2_with (at_mapUpdate; refine wpList_mapUpdate_in _ rfl _ _ _ 58 rfl kS kN keyedS map_is (plainElem Try.prog kN) x.b n5 st2.seen rfl HM5.out ?m1 _ _ (litS nm2) rfl rfl ?m2 (.lit (.int .i64 sl2)) [] ?m3 ?_)
                  case m1 => have := HLN.out; unfold maxLen; omega
                  case m2 => exact key_of (by have := NSZ.out; omega)
                  case m3 => exact plainElem_int Try.underlying3 (WalkArith.wf_i64 (by have := HSL.out; omega))
                  intro w4 hm4 hturn
                  have HW4 := Lib.hid (HG3.out.turned (d' := d + 1) HD.out hturn hm4 (by omega))
                  clear hm4 hturn
                  go_wp2_with fail
                  go_roundw
                  case rel =>
                    refine ⟨k + 1, _, mine ++ [nm2], by go_num, by omega, HW4.out.1, ?_, ?_, ?_, ?_, ?_, ?_, EQ1.out⟩
                    · exact ((HL.out.kp.trans G2.out).thenB HB3.out (by omega)).trans HW4.out.2
                    · exact (HW4.out.2.cell (p := ⟨w.heap.size, 1, none⟩) (by have := HB3.out.size; have := HZ2.out; simp only; omega) (HSX.out.no (Nat.le_refl _))).trans ((HB3.out.cell (p := ⟨w.heap.size, 1, none⟩) (by simp only; omega)).trans l1')
                    · rw [List.length_append, List.map_append]; exact own_keep HOW3.out HW4.out.2 (fun k hk => HSX.out.no (by omega))
                    · have := HL.out.ln; rw [List.length_append]; simp only [List.length_cons, List.length_nil]; omega
                    · intro n hn
                      rcases List.mem_append.1 hn with hn | hn
                      · exact HL.out.sm n hn
                      · simp only [List.mem_singleton] at hn; subst hn; exact NSZ.out
                    · intro hf
                      obtain ⟨r1, r2, _⟩ := WOK.out HF2.out
                      exact ⟨r1.put nm2 HSL.out, r2⟩
                  case measure => simp [intOf]; omega
                · have c4 : (st2.fault == 0) = false := by simp [hf2]
                  have EQ1 := Lib.hid (show rq = skidsS (swalkS x.cs f) (kids.toNat - (k + 1)) st2 mine by have := EQ.out; rwa [if_neg (fun h => hf2 h.2)] at this)
                  clear hns hf2
                  go_wp2_with fail
                  go_roundw
                  case rel =>
                    refine ⟨k + 1, st2, mine, by go_num, by omega, G1.out.less (by omega), HL.out.kp.trans G2.out, l1', own_keep HL.out.ow G2.out (fun k hk => HSX.out.no (by omega)), by have := HL.out.ln; omega, HL.out.sm, fun hf => ?_, EQ1.out⟩
                    obtain ⟨r1, r2, _⟩ := WOK.out hf
                    exact ⟨r1, r2⟩
                  case measure => simp [intOf]; omega
            · have c2 : (st.fault == 0) = false := by simp [hsf]
              have EQ := Lib.hid (show rq = (st, mine) by
                have he := HL.out.eq
                rw [show kids.toNat - k = (kids.toNat - (k + 1)) + 1 by omega, skidsS, if_neg hsf] at he
                exact he)
              go_wp2_with fail
              go_meet
              exact ⟨by rw [EQ.out]; exact HL.out.sw, HL.out.kp, by rw [EQ.out]; exact HL.out.ow, by rw [EQ.out]; have := HL.out.ln; have := HL.out.hk; simp only; omega, by rw [EQ.out]; exact HL.out.sm⟩
          · have c1 : decide ((k : Int) < kids) = false := decide_eq_false (by omega)
            have EQ := Lib.hid (show rq = (st, mine) by
              have he := HL.out.eq
              rw [show kids.toNat - k = 0 by omega] at he
              exact he)
            go_wp2_with fail
            go_meet
            exact ⟨by rw [EQ.out]; exact HL.out.sw, HL.out.kp, by rw [EQ.out]; exact HL.out.ow, by rw [EQ.out]; have := HL.out.ln; have := HL.out.hk; simp only; omega, by rw [EQ.out]; exact HL.out.sm⟩
      case rest =>
        clear r1 HWD HKD HSD
        have HE := Lib.hid hcut
        clear hcut
        have hml := HE.out.ln
        rcases HE.out.ow.2 with ⟨rfl, hn⟩ | ⟨g, cap, cur, rfl, _, _, _, _, _, _⟩
        · have hn2 : rq.2 = [] := List.eq_nil_of_length_eq_zero hn
          have E2 := Lib.hid (show rr = (rq.1, nm, sl) by rw [E1.out, hn2]; rfl)
          clear hn hn2 hml
          go_wp2_with fail
          go_loopw [89, 20] (fun i _ wl => i = .int .i64 0 ∧ wl = wc) (fun _ _ _ => 0)
          case atStart => exact ⟨rfl, rfl⟩
          case round =>
            obtain ⟨rfl, rfl⟩ := hrel
            go_wp2_with fail
            go_ret2
            exact ⟨by rw [E2.out]; rfl, by rw [E2.out]; exact HE.out.sw, HE.out.kp⟩
        · go_wp2_with fail
          go_loopw [89, 20] (fun i _ wl => ∃ j : Nat, i = .int .i64 (j : Int) ∧ SL2 x w rq (.slice (some ⟨g, 0, none⟩) rq.2.length cap) j (d + 1) wl) (fun i _ _ => rq.2.length - (intOf i).toNat)
          case atStart => exact ⟨0, rfl, Nat.zero_le _, by rw [List.take_zero]; exact HE.out.sw, HE.out.kp, HE.out.ow⟩
          case round =>
            obtain ⟨j, rfl, hL⟩ := hrel
            by_cases hj : j < rq.2.length
            · have c1 : decide (j < rq.2.length) = true := decide_eq_true hj
              have l1 := hL.sw.sn
              have b1 := World.block_lt_of_cell? wr _ l1
              simp only at b1
              obtain ⟨nm2, hnm2⟩ : ∃ n2, rq.2[j]? = some n2 := ⟨_, List.getElem?_eq_getElem hj⟩
              have l2 := own_at hL.ow (v := .string nm2) (j := j) (by rw [List.getElem?_map, hnm2]; rfl)
              have NSZ := Lib.hid (HE.out.sm nm2 (List.mem_of_getElem? hnm2))
              have HNM := Lib.hid hnm2
              obtain ⟨n5, hn5, hm5⟩ := hL.sw.mp
              have HM5 := Lib.hid hm5
              have HL := Lib.hid hL
              clear hm5 hL hnm2
              go_wp2_with (at_delete; refine wpList_delete_own _ rfl _ _ 58 kS rfl kN keyedS map_is (plainElem Try.prog kN) x.b n5 _ rfl HM5.out _ (litS nm2) rfl ?m2 ?_)
              case m2 => exact key_of (by have := NSZ.out; omega)
              intro w4 hm4 hturn
              have HW4 := Lib.hid (HL.out.sw.turned (d' := d + 1) HD.out hturn hm4 hn5)
              clear hm4 hturn
              go_wp2_with fail
              go_roundw
              case rel =>
                refine ⟨j + 1, by go_num, by omega, ?_, HL.out.kp.trans HW4.out.2, own_keep HL.out.ow HW4.out.2 (fun k hk => HSX.out.no (by omega))⟩
                have := HW4.out.1
                rw [List.take_add_one, HNM.out, Option.toList_some, List.foldl_append]
                exact this
              case measure => simp [intOf]; omega
            · have c1 : decide (j < rq.2.length) = false := decide_eq_false hj
              have E2 := Lib.hid (show rr = ({ rq.1 with seen := (rq.2.take j).foldl (fun d n => d.del (litS n)) rq.1.seen }, nm, sl) by rw [E1.out, List.take_of_length_le (by omega)]; rfl)
              have HL := Lib.hid hL
              clear hL
              go_wp2_with fail
              go_ret2
              exact ⟨by rw [E2.out]; rfl, by rw [E2.out]; exact HL.out.sw, HL.out.kp⟩
    · have o1 : (tg.fault == 0) = false := by simp [hff]
      have o2 : (tg.fault != 0) = true := by simp [hff]
      have E1 := Lib.hid (show rr = (tg, ⟨#[]⟩, -1) by have := E.out; rwa [if_pos hff] at this)
      clear E hff
      go_wp2_with fail
      go_ret2
      refine ⟨?_, ?_, ?_⟩
      · rw [E1.out]; rfl
      · rw [E1.out]; exact HWC.out
      · exact HKC.out
/-- The tree gone through, at every depth. -/
theorem swalk_any (x : SB) (hd : SD x) : ∀ (f : Nat) (s : SSt) (nx : Nat) (may : Nat → Bool) (d : Nat) (w : World), SW x s d w → SOk x.cs s → s.fault = 0 → Rt x.cs f s.next nx may → Calls Try.prog 18 x.caps w (SPost x (swalkS x.cs f s) d w)
  | 0, _, _, _, _, _, _, _, _, h => h.elim
  | f + 1, s, nx, may, d, w, hw, hok, h0, hr => swalk_step x hd f s nx may d w hw hok h0 hr (swalk_any x hd f)
end Go.Proofs.Ytjfdokoigkdciaa

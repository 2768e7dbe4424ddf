/- Reading a history, walked. Reading a history, walked: the door. -/
import Derived.Test.YtaeophaecclnbaaGreatDoorNxCQ
import Derived.Deep.AppendLies
import Derived.Deep.RegionLaw
import Derived.Deep.RegionWith
import Derived.Deep.RegionHeld3
import Derived.Deep.QuietTactic
import Derived.BigQuiet
import Derived.RegionTactic
namespace Go.Proofs.YtaeophaecclnbaaGreatDoor
open Go.RowKit

/-- What reading a history answers. -/
def HRet (l : List UInt8) (w : World) (e : Ending) (w' : World) : Prop :=
  ∃ A' cc', e = .returned (.tuple #[.slice A' (histS l).1.length cc', .int .i64 ((histS l).2.1 : Nat), .int .i64 (histS l).2.2]) ∧ EvsR w' w.heap.size A' cc' (histS l).1 ∧ Below w.heap.size w w'
/-- While a history is read: its reader lies in block hb, the events behind B. -/
structure HsR (w0 W : World) (hb B : Nat) (A : Option Addr) (n cc : Nat) (l : List UInt8) (r p : Nat) (er : Int) (A' : Option Addr) (cap : Nat) (c : List EvM) : Prop where
  re : RE W hb A n cc l p er
  c3 : W.cell? ⟨hb, 3, none⟩ = some (.slice A' c.length cap)
  fz : ∀ j, W.frozen? ⟨hb, j, none⟩ = false
  row : EvRow W B B A' cap c
  os : W.os = w0.os
  tape : W.tape = w0.tape
  output : W.output = w0.output
  size : w0.heap.size ≤ W.heap.size
  block : ∀ k, k < B → k ≠ hb → W.heap[k]? = w0.heap[k]?
  ok : er = 0 → Hs l r p (evsOf c)
  bad : er ≠ 0 → histS l = ([], p, er)
  low : 0 < n → ∀ b off, A = some ⟨b, off, none⟩ → b < B
/-- What going through a history leaves. -/
def AllPost (l : List UInt8) (w : World) (hb B : Nat) (e : Ending) (W : World) : Prop :=
  e = .returned (.tuple #[]) ∧ ∃ A' cap c, W.cell? ⟨hb, 1, none⟩ = some (.int .i64 ((histS l).2.1 : Nat)) ∧ W.cell? ⟨hb, 2, none⟩ = some (.int .i64 (histS l).2.2) ∧ W.cell? ⟨hb, 3, none⟩ = some (.slice A' c.length cap) ∧ EvRow W B B A' cap c ∧ ((histS l).2.2 = 0 → evsOf c = (histS l).1) ∧
    W.os = w.os ∧ W.tape = w.tape ∧ W.output = w.output ∧ w.heap.size ≤ W.heap.size ∧ ∀ k, k < w.heap.size → k ≠ hb → W.heap[k]? = w.heap[k]?
theorem infoEv : (Tryz.prog.info? 109).map (fun i => (i.zero, i.size, i.bytes)) = some (some (.agg #[.int .u8 0, .int .i64 0, .string ⟨#[]⟩, .slice none 0 0, .int .i64 0]), 5, 64) := by kernel_rfl
/-- The reader, where nothing below B has changed. -/
theorem RE.low {W W' : World} {rb B : Nat} {A : Option Addr} {n cc : Nat} {l : List UInt8} {p : Nat} {er : Int} (h : RE W rb A n cc l p er) (hb : Below B W W') (hr : rb < B) (hl : 0 < n → ∀ b off, A = some ⟨b, off, none⟩ → b < B) : RE W' rb A n cc l p er where
  c0 := (hb.cell (p := ⟨rb, 0, none⟩) hr).trans h.c0
  c1 := (hb.cell (p := ⟨rb, 1, none⟩) hr).trans h.c1
  c2 := (hb.cell (p := ⟨rb, 2, none⟩) hr).trans h.c2
  f1 := (hb.frozen (p := ⟨rb, 1, none⟩) hr).trans h.f1
  f2 := (hb.frozen (p := ⟨rb, 2, none⟩) hr).trans h.f2
  bs := ⟨h.bs.len, fun hn => let ⟨b, off, e, hlt, hc⟩ := h.bs.bytes hn; ⟨b, off, e, Nat.lt_of_lt_of_le hlt hb.size, fun j hj => (hb.cell (p := ⟨b, off + j, none⟩) (hl hn b off e)).trans (hc j hj)⟩, h.bs.cap, h.bs.capb, h.bs.nil, h.bs.small⟩
  le := h.le
  ne := h.ne
  lt := Nat.lt_of_lt_of_le h.lt hb.size
  adr := h.adr
theorem RE.drew {W : World} {rb : Nat} {A : Option Addr} {n cc : Nat} {l : List UInt8} {p : Nat} {er : Int} (h : RE W rb A n cc l p er) : RE W.drew rb A n cc l p er :=
  ⟨h.c0, h.c1, h.c2, h.f1, h.f2, { h.bs with bytes := h.bs.bytes.keep (Below.refl _ W).drew }, h.le, h.ne, h.lt, h.adr⟩
/-- A store to a cell behind the reader's. -/
theorem RE.set3 {W : World} {rb : Nat} {A : Option Addr} {n cc : Nat} {l : List UInt8} {p : Nat} {er : Int} {u : Value} (h : RE W rb A n cc l p er) : RE (W.setCell ⟨rb, 3, none⟩ u) rb A n cc l p er where
  c0 := (World.cell?_setCell_other _ _ _ _ (adne rb (by decide))).trans h.c0
  c1 := (World.cell?_setCell_other _ _ _ _ (adne rb (by decide))).trans h.c1
  c2 := (World.cell?_setCell_other _ _ _ _ (adne rb (by decide))).trans h.c2
  f1 := (World.frozen?_setCell _ _ _ _).trans h.f1
  f2 := (World.frozen?_setCell _ _ _ _).trans h.f2
  bs := ⟨h.bs.len, fun hn => let ⟨b, off, e, hlt, hc⟩ := h.bs.bytes hn; ⟨b, off, e, by simpa using hlt, fun j hj => (World.cell?_of_block (a := ⟨b, off + j, none⟩) (heap_setCell_other _ _ b _ (h.ne hn b off e))).trans (hc j hj)⟩, h.bs.cap, h.bs.capb, h.bs.nil, h.bs.small⟩
  le := h.le
  ne := h.ne
  lt := by simpa using h.lt
  adr := h.adr
section
variable {w W W1 w3 : World} {hb B : Nat} {A : Option Addr} {n cc : Nat} {l : List UInt8} {r p cap g cap' cc1 : Nat} {A' A1 : Option Addr} {c : List EvM}
/-- An event was read and appended. -/
theorem HsR.step (h : HsR w W hb B A n cc l (r + 1) p 0 A' cap c) (hl : l.length ≤ 140737488351232) (hhb : hb < B) (hBW : B ≤ W.heap.size) (G : GoE hb (evtS l p).2.1 (evtS l p).2.2 W W1) (hn : NodesIn W1 A1 (evtS l p).1.value) (hf : Far W.heap.size A1 (evtS l p).1.value.length) (o : Obj)
    (hgrow : (W1.alloc o).grownBy w3 (Value.slice A' c.length cap).ownBlock) (hown : w3.ownsRow B 109 5 (.slice (some ⟨g, 0, none⟩) (c.length + 1) cap') (c.length + 1) (evCells c ++ EvM.cells ⟨(evtS l p).1, A1, cc1⟩)) (hg : (Value.slice A' c.length cap).ownBlock = some g ∨ g = (W1.alloc o).heap.size) :
    HsR w (w3.setCell ⟨hb, 3, none⟩ (.slice (some ⟨g, 0, none⟩) (c.length + 1) cap')) hb B A n cc l r (evtS l p).2.1 (evtS l p).2.2 (some ⟨g, 0, none⟩) cap' (c ++ [⟨(evtS l p).1, A1, cc1⟩]) := by
  have hlen := h.re.bs.len
  have R1 := G.re h.re (by have := (evtR hl p).to; omega)
  have hB1 : B ≤ W1.heap.size := Nat.le_trans hBW G.size
  have K : Below B W1 w3 := by
    have k1 : Below B W1 (W1.alloc o) := (Below.refl B W1).alloc hB1 o
    refine ⟨hgrow.os.trans k1.os, hgrow.tape.trans k1.tape, hgrow.output.trans k1.output, Nat.le_trans k1.size hgrow.size, fun k hk => (hgrow.block k (by simp; omega) (fun e => ?_)).trans (k1.block k hk)⟩
    have := own_base h.row.own e.symm
    omega
  have hsz : B ≤ w3.heap.size := Nat.le_trans hB1 K.size
  have hrow := h.row.app (W2 := W1.alloc o) (by have := G.size; simp; omega) (fun k hk hlt => (((Below.refl W1.heap.size W1).alloc (Nat.le_refl _) o).block k (Nat.lt_of_lt_of_le hlt G.size)).trans (G.block k hlt (by omega))) (hn.keep ((Below.refl _ W1).alloc (Nat.le_refl _) o)) hf hBW hgrow hown hg
  have hwW := h.size
  refine ⟨(R1.low K hhb h.low).set3, ?_, fun j => ?_, ?_, ?_, ?_, ?_, ?_, fun k hk hne => ?_, fun he => ?_, fun he => ?_, h.low⟩
  · rw [List.length_append]
    exact World.cell?_setCell_same _ _ _ ((K.cell (p := ⟨hb, 3, none⟩) hhb).trans ((G.more 3 (by omega)).trans h.c3))
  · rw [World.frozen?_setCell]
    exact (K.frozen (p := ⟨hb, j, none⟩) hhb).trans ((G.frozen j).trans (h.fz j))
  · have hs : ∀ k, k ≠ hb → (w3.setCell ⟨hb, 3, none⟩ (.slice (some ⟨g, 0, none⟩) (c.length + 1) cap')).heap[k]? = w3.heap[k]? := fun k hk => heap_setCell_other _ _ k _ hk
    exact ⟨own_kept hrow.own fun k hk _ => hs k (by omega), fun e he => ⟨(hrow.val e he).1.blocks (by simp) fun hl b off e1 _ => hs b (by have := (hrow.val e he).2 hl b off e1; omega), (hrow.val e he).2⟩, hrow.ne⟩
  · exact (show _ = w3.os from rfl).trans (K.os.trans (G.os.trans h.os))
  · exact (show _ = w3.tape from rfl).trans (K.tape.trans (G.tape.trans h.tape))
  · exact (show _ = w3.output from rfl).trans (K.output.trans (G.output.trans h.output))
  · have h1 := G.size
    have h2 := K.size
    simp
    omega
  · rw [heap_setCell_other _ _ k _ hne, K.block k hk, G.block k (by omega) hne]
    exact h.block k hk hne
  · have := (h.ok rfl).more hl he
    rw [show evsOf (c ++ [⟨(evtS l p).1, A1, cc1⟩]) = evsOf c ++ [(evtS l p).1] by simp [evsOf]]
    exact this
  · exact (h.ok rfl).bad he
end
section
variable {w W : World} {hb B : Nat} {A : Option Addr} {n cc : Nat} {l : List UInt8} {r p cap : Nat} {er : Int} {A' : Option Addr} {c : List EvM}
theorem RE.keep (h : RE W hb A n cc l p er) {W' : World} (g : Below W.heap.size W W') : RE W' hb A n cc l p er :=
  ⟨(g.cell (p := ⟨hb, 0, none⟩) h.lt).trans h.c0, (g.cell (p := ⟨hb, 1, none⟩) h.lt).trans h.c1, (g.cell (p := ⟨hb, 2, none⟩) h.lt).trans h.c2, (g.frozen (p := ⟨hb, 1, none⟩) h.lt).trans h.f1, (g.frozen (p := ⟨hb, 2, none⟩) h.lt).trans h.f2, h.bs.below g, h.le, h.ne, Nat.lt_of_lt_of_le h.lt g.size, h.adr⟩
theorem HsR.drewN (h : HsR w W hb B A n cc l r p er A' cap c) (q : Nat) : HsR w (W.drewN q) hb B A n cc l r p er A' cap c := by
  have g : Below W.heap.size W (W.drewN q) := below_drewN (Below.refl _ W) q
  have hh : (W.drewN q).heap = W.heap := by simp [World.drewN]
  exact ⟨h.re.keep g, (g.cell (p := ⟨hb, 3, none⟩) h.re.lt).trans h.c3, fun j => (g.frozen (p := ⟨hb, j, none⟩) h.re.lt).trans (h.fz j), h.row.below g, g.os.trans h.os, g.tape.trans h.tape, g.output.trans h.output, Nat.le_trans h.size g.size, fun k hk hne => by rw [hh]; exact h.block k hk hne, h.ok, h.bad, h.low⟩
theorem HsR.fin {v : List Ev} (h : HsR w W hb B A n cc l r p er A' cap c) (ev : histS l = (v, p, er)) (hv : er = 0 → evsOf c = v) (hB : w.heap.size ≤ B) : AllPost l w hb B (.returned (.tuple #[])) W :=
  ⟨rfl, A', cap, c, by rw [ev]; exact h.re.c1, by rw [ev]; exact h.re.c2, h.c3, h.row, fun e => by rw [ev] at e ⊢; exact hv e, h.os, h.tape, h.output, h.size, fun k hk hne => h.block k (Nat.lt_of_lt_of_le hk hB) hne⟩
theorem HsR.fault (h : HsR w W hb B A n cc l r p er A' cap c) (hB : hb < B) (ev : histS l = ([], p, 3)) : HsR w (W.setCell ⟨hb, 2, none⟩ (.int .i64 3)) hb B A n cc l r p 3 A' cap c := by
  have g := GoE.store2 (er' := 3) h.re.c1 h.re.c2
  have hs : ∀ k, k ≠ hb → (W.setCell ⟨hb, 2, none⟩ (.int .i64 3)).heap[k]? = W.heap[k]? := fun k hk => heap_setCell_other _ _ k _ hk
  exact ⟨g.re h.re h.re.le, (g.more 3 (by omega)).trans h.c3, fun j => (g.frozen j).trans (h.fz j), h.row.go hB hB g, g.os.trans h.os, g.tape.trans h.tape, g.output.trans h.output, Nat.le_trans h.size g.size, fun k hk hne => (hs k hne).trans (h.block k hk hne), fun c => absurd c (by decide), fun _ => ev, h.low⟩
end
set_option maxRecDepth 100000 in
set_option maxHeartbeats 4000000 in
theorem all_any {w : World} {hb : Nat} {a : Addr} {n cc : Nat} {l : List UInt8} (h : RE w hb (some a) n cc l 0 0) (h3 : w.cell? ⟨hb, 3, none⟩ = some (.slice none 0 0)) (hf : ∀ j, w.frozen? ⟨hb, j, none⟩ = false) (hlo : 0 < n → a.block < w.heap.size) :
    Calls Tryz.prog 42 #[.pointer (some ⟨hb, 0, none⟩)] w (AllPost l w hb w.heap.size) := by
  have H := Lib.hid h
  have HL := Lib.hid h.bs.len
  have hlt := h.lt
  have hsm := h.bs.small
  have HLL := Lib.hid (show l.length ≤ 140737488351232 by rw [HL.out]; omega)
  have LOW := Lib.hid (show 0 < n → ∀ b off, (some a : Option Addr) = some ⟨b, off, none⟩ → b < w.heap.size from fun hn b off e => by injection e with e; subst e; exact hlo hn)
  have HI := Lib.hid infoEv
  obtain ⟨i0, hi, hz0, hz1, hz2⟩ := info_parts HI.out
  have HI0 := Lib.hid hi
  have HZ0 := Lib.hid hz0
  have HZ1 := Lib.hid hz1
  have HZ2 := Lib.hid hz2
  have C1 := Lib.hid (enext_uint h true)
  rw [stV_yes ⟨rfl, rfl⟩, stA_yes ⟨rfl, rfl⟩, stE_yes ⟨rfl, rfl⟩, List.drop_zero, Nat.zero_add] at C1
  have np := @num_pos l
  rw [HL.out] at np
  have nv := num_lt l
  clear h hi hz0 hz1 hz2
  go_enter Tryz.func42, Tryz.ntmps42
  go_wp2_with fail
  refine C1.out.mono ?_
  rintro e W1 ⟨rfl, g⟩
  have R1 := Lib.hid (g.re H.out np)
  have c2 := g.c2
  have c1 := g.c1
  have fz := fun j => (g.frozen j).trans (hf j)
  have c3 := (g.more 3 (by omega)).trans h3
  have G1 := Lib.hid g
  have hs1 := g.size
  clear g
  by_cases he : (numS l).2.2 = 0
  · have he1 : ((numS l).2.2 == 0) = true := beq_iff_eq.2 he
    by_cases hbig : 4096 < (numS l).1
    · have EV := Lib.hid (hist_long he hbig)
      have hb1 : decide ((4096 : Int) < ((numS l).1 : Int)) = true := decide_eq_true (by omega)
      have g2 := GoE.store (q := 0) (er' := 2) c1 c2 0 rfl
      have f1 := fz 1
      have f2 := fz 2
      have HS0 := Lib.hid (show HsR w ((W1.setCell ⟨hb, 1, none⟩ (.int .i64 0)).setCell ⟨hb, 2, none⟩ (.int .i64 2)) hb w.heap.size (some a) n cc l (numS l).1 0 2 none 0 [] from
        ⟨g2.re R1.out (Nat.zero_le _), (g2.more 3 (by omega)).trans c3, fun j => (g2.frozen j).trans (fz j), EvRow.start, g2.os.trans G1.out.os, g2.tape.trans G1.out.tape, g2.output.trans G1.out.output, Nat.le_trans G1.out.size g2.size, fun k hk hne => (g2.block k (by omega) hne).trans (G1.out.block k hk hne), fun c => absurd c (by decide), fun _ => EV.out, LOW.out⟩)
      clear g2
      go_wp2_with fail
      go_loopw [2] (fun x wr => ∃ (r p : Nat) (er : Int) (A' : Option Addr) (cap : Nat) (c : List EvM), x = .int .u64 (r : Int) ∧ r < 18446744073709551616 ∧ HsR w wr hb w.heap.size (some a) n cc l r p er A' cap c) (fun x _ => (Go.RowKit.intOf x).toNat)
      case atStart => exact ⟨_, _, _, none, 0, [], rfl, nv, HS0.out⟩
      case round =>
        obtain ⟨r, p, er, A', cap, c, rfl, hr64, hs⟩ := hrel
        have HH := Lib.hid hs
        have c0 := hs.re.c0
        have c1 := hs.re.c1
        have c2 := hs.re.c2
        have c3 := hs.c3
        have fz := hs.fz
        have hlw := hs.re.lt
        have hle := hs.re.le
        have hsz := hs.size
        clear hs
        by_cases he : er = 0
        · subst he
          have HS := Lib.hid (HH.out.ok rfl)
          by_cases hr : r = 0
          · subst hr
            by_cases hpn : p < n
            · have EV := Lib.hid (HS.out.left (by rw [HL.out]; exact hpn))
              have hd : decide ((p : Int) < (n : Int)) = true := decide_eq_true (by omega)
              go_wp2_with fail
              go_quiet (fail)
              generalize nq = q1
              go_wp2_with fail
              refine bodyPost_ret (results_none rfl _ _ _) rfl ?_
              exact ((HH.out.drewN q1).fault hlt EV.out).fin EV.out (fun c => absurd c (by decide)) (Nat.le_refl _)
            · have EV := Lib.hid (HS.out.done (by rw [HL.out]; exact hpn))
              have hd : decide ((p : Int) < (n : Int)) = false := decide_eq_false (by omega)
              go_wp2_with fail
              go_quiet (fail)
              generalize nq = q1
              go_wp2_with fail
              refine bodyPost_ret (results_none rfl _ _ _) rfl ?_
              exact (HH.out.drewN q1).fin EV.out (fun _ => rfl) (Nat.le_refl _)
          · obtain ⟨r, rfl⟩ : ∃ r', r = r' + 1 := ⟨r - 1, by omega⟩
            have hcl := HS.out.len
            rw [evsOf_len] at hcl
            have hr0 : decide ((0 : Int) < ((r + 1 : Nat) : Int)) = true := decide_eq_true (by omega)
            go_wp2_with fail
            go_region_law (first | (refine step_append_lies _ (by rfl) _ _ 24 (by rfl) w.heap.size 109 i0 (.agg #[.int .u8 0, .int .i64 0, .string ⟨#[]⟩, .slice none 0 0, .int .i64 0]) 5 64 Tryz.underlying24 HI0.out HZ0.out HZ1.out HZ2.out rfl (by decide) _ c.length (evCells c) (by rfl) (by exact HO1.out _) ⟨W2.heap.size, 0, none⟩ 1 1 (EvM.cells ⟨(evtS l p).1, A1, cc1⟩) (by rfl) (by rfl) (by exact cell_five_new W2 _ _ _ _ _ _ _ rfl) (by intro u hu; simp [EvM.cells] at hu; rcases hu with rfl | rfl | rfl | rfl | rfl <;> rfl) (by omega) (by unfold maxLen; omega) (by omega) (by simp <;> omega) _ (by rfl) ?_; intro g' cap' w3 hown' hgrow hgg _; have bk := hgrow.block hb (by simp <;> omega) (fun e => by have := own_base HO0.out e.symm; omega); have k3' := (World.cell?_of_block (a := ⟨hb, 3, none⟩) bk).trans ((cell_old W2 _ hb 3 (by omega)).trans k3); have z3' := (World.frozen?_of_block (a := ⟨hb, 3, none⟩) bk).trans ((frozen_old W2 _ hb 3 (by omega)).trans z3)) | (go_simp; go_at_call 72; refine (evt_any HH.out.re.drew).mono ?_; rintro e W2 ⟨A1, cc1, rfl, hn, hf, gE⟩; unfold evV; have k3 := (gE.more 3 (by omega)).trans c3; have z3 := (gE.frozen 3).trans (fz 3); have hs2 : wr.heap.size ≤ W2.heap.size := gE.size; have hl2 : hb < W2.heap.size := (by omega); have HO0 := Lib.hid (own_kept HH.out.row.own (fun k hk hk2 => gE.block k hk2 (by omega))); have HO1 := Lib.hid (fun o => own_ndb HO0.out ((Below.refl _ W2).alloc (Nat.le_refl _) o))))
            all_goals (
              have ST := Lib.hid (HH.out.step HLL.out hlt hsz (GoE.ahead (Below.refl _ wr).drew hlw gE) hn hf _ hgrow hown' hgg)
              clear hgrow hown' hgg hn hf gE
              go_wp2_with fail
              go_roundw
              case rel => exact ⟨r, _, _, some ⟨g', 0, none⟩, cap', c ++ [⟨(evtS l p).1, A1, cc1⟩], by go_num, by omega, ST.out⟩
              case measure => simp [Go.RowKit.intOf])
        · have EV := Lib.hid (HH.out.bad he)
          have he1 : (er == 0) = false := beq_eq_false_iff_ne.2 he
          go_wp2_with fail
          go_quiet (fail)
          generalize nq = q1
          go_wp2_with fail
          refine bodyPost_ret (results_none rfl _ _ _) rfl ?_
          exact (HH.out.drewN q1).fin EV.out (fun c => absurd c he) (Nat.le_refl _)
    · have HS0 := Lib.hid (show HsR w W1 hb w.heap.size (some a) n cc l (numS l).1 (numS l).2.1 (numS l).2.2 none 0 [] from
        ⟨R1.out, c3, fz, EvRow.start, G1.out.os, G1.out.tape, G1.out.output, G1.out.size, fun k hk hne => G1.out.block k hk hne, fun _ => Hs.start he hbig, fun c => absurd he c, LOW.out⟩)
      go_wp2_with fail
      go_loopw [2] (fun x wr => ∃ (r p : Nat) (er : Int) (A' : Option Addr) (cap : Nat) (c : List EvM), x = .int .u64 (r : Int) ∧ r < 18446744073709551616 ∧ HsR w wr hb w.heap.size (some a) n cc l r p er A' cap c) (fun x _ => (Go.RowKit.intOf x).toNat)
      case atStart => exact ⟨_, _, _, none, 0, [], rfl, nv, HS0.out⟩
      case round =>
        obtain ⟨r, p, er, A', cap, c, rfl, hr64, hs⟩ := hrel
        have HH := Lib.hid hs
        have c0 := hs.re.c0
        have c1 := hs.re.c1
        have c2 := hs.re.c2
        have c3 := hs.c3
        have fz := hs.fz
        have hlw := hs.re.lt
        have hle := hs.re.le
        have hsz := hs.size
        clear hs
        by_cases he : er = 0
        · subst he
          have HS := Lib.hid (HH.out.ok rfl)
          by_cases hr : r = 0
          · subst hr
            by_cases hpn : p < n
            · have EV := Lib.hid (HS.out.left (by rw [HL.out]; exact hpn))
              have hd : decide ((p : Int) < (n : Int)) = true := decide_eq_true (by omega)
              go_wp2_with fail
              go_quiet (fail)
              generalize nq = q1
              go_wp2_with fail
              refine bodyPost_ret (results_none rfl _ _ _) rfl ?_
              exact ((HH.out.drewN q1).fault hlt EV.out).fin EV.out (fun c => absurd c (by decide)) (Nat.le_refl _)
            · have EV := Lib.hid (HS.out.done (by rw [HL.out]; exact hpn))
              have hd : decide ((p : Int) < (n : Int)) = false := decide_eq_false (by omega)
              go_wp2_with fail
              go_quiet (fail)
              generalize nq = q1
              go_wp2_with fail
              refine bodyPost_ret (results_none rfl _ _ _) rfl ?_
              exact (HH.out.drewN q1).fin EV.out (fun _ => rfl) (Nat.le_refl _)
          · obtain ⟨r, rfl⟩ : ∃ r', r = r' + 1 := ⟨r - 1, by omega⟩
            have hcl := HS.out.len
            rw [evsOf_len] at hcl
            have hr0 : decide ((0 : Int) < ((r + 1 : Nat) : Int)) = true := decide_eq_true (by omega)
            go_wp2_with fail
            go_region_law (first | (refine step_append_lies _ (by rfl) _ _ 24 (by rfl) w.heap.size 109 i0 (.agg #[.int .u8 0, .int .i64 0, .string ⟨#[]⟩, .slice none 0 0, .int .i64 0]) 5 64 Tryz.underlying24 HI0.out HZ0.out HZ1.out HZ2.out rfl (by decide) _ c.length (evCells c) (by rfl) (by exact HO1.out _) ⟨W2.heap.size, 0, none⟩ 1 1 (EvM.cells ⟨(evtS l p).1, A1, cc1⟩) (by rfl) (by rfl) (by exact cell_five_new W2 _ _ _ _ _ _ _ rfl) (by intro u hu; simp [EvM.cells] at hu; rcases hu with rfl | rfl | rfl | rfl | rfl <;> rfl) (by omega) (by unfold maxLen; omega) (by omega) (by simp <;> omega) _ (by rfl) ?_; intro g' cap' w3 hown' hgrow hgg _; have bk := hgrow.block hb (by simp <;> omega) (fun e => by have := own_base HO0.out e.symm; omega); have k3' := (World.cell?_of_block (a := ⟨hb, 3, none⟩) bk).trans ((cell_old W2 _ hb 3 (by omega)).trans k3); have z3' := (World.frozen?_of_block (a := ⟨hb, 3, none⟩) bk).trans ((frozen_old W2 _ hb 3 (by omega)).trans z3)) | (go_simp; go_at_call 72; refine (evt_any HH.out.re.drew).mono ?_; rintro e W2 ⟨A1, cc1, rfl, hn, hf, gE⟩; unfold evV; have k3 := (gE.more 3 (by omega)).trans c3; have z3 := (gE.frozen 3).trans (fz 3); have hs2 : wr.heap.size ≤ W2.heap.size := gE.size; have hl2 : hb < W2.heap.size := (by omega); have HO0 := Lib.hid (own_kept HH.out.row.own (fun k hk hk2 => gE.block k hk2 (by omega))); have HO1 := Lib.hid (fun o => own_ndb HO0.out ((Below.refl _ W2).alloc (Nat.le_refl _) o))))
            all_goals (
              have ST := Lib.hid (HH.out.step HLL.out hlt hsz (GoE.ahead (Below.refl _ wr).drew hlw gE) hn hf _ hgrow hown' hgg)
              clear hgrow hown' hgg hn hf gE
              go_wp2_with fail
              go_roundw
              case rel => exact ⟨r, _, _, some ⟨g', 0, none⟩, cap', c ++ [⟨(evtS l p).1, A1, cc1⟩], by go_num, by omega, ST.out⟩
              case measure => simp [Go.RowKit.intOf])
        · have EV := Lib.hid (HH.out.bad he)
          have he1 : (er == 0) = false := beq_eq_false_iff_ne.2 he
          go_wp2_with fail
          go_quiet (fail)
          generalize nq = q1
          go_wp2_with fail
          refine bodyPost_ret (results_none rfl _ _ _) rfl ?_
          exact (HH.out.drewN q1).fin EV.out (fun c => absurd c he) (Nat.le_refl _)
  · have he1 : ((numS l).2.2 == 0) = false := beq_eq_false_iff_ne.2 he
    have EV := Lib.hid (hist_bad he)
    have HS0 := Lib.hid (show HsR w W1 hb w.heap.size (some a) n cc l (numS l).1 (numS l).2.1 (numS l).2.2 none 0 [] from
      ⟨R1.out, c3, fz, EvRow.start, G1.out.os, G1.out.tape, G1.out.output, G1.out.size, fun k hk hne => G1.out.block k hk hne, fun c => absurd c he, fun _ => EV.out, LOW.out⟩)
    go_wp2_with fail
    go_loopw [2] (fun x wr => ∃ (r p : Nat) (er : Int) (A' : Option Addr) (cap : Nat) (c : List EvM), x = .int .u64 (r : Int) ∧ r < 18446744073709551616 ∧ HsR w wr hb w.heap.size (some a) n cc l r p er A' cap c) (fun x _ => (Go.RowKit.intOf x).toNat)
    case atStart => exact ⟨_, _, _, none, 0, [], rfl, nv, HS0.out⟩
    case round =>
      obtain ⟨r, p, er, A', cap, c, rfl, hr64, hs⟩ := hrel
      have HH := Lib.hid hs
      have c0 := hs.re.c0
      have c1 := hs.re.c1
      have c2 := hs.re.c2
      have c3 := hs.c3
      have fz := hs.fz
      have hlw := hs.re.lt
      have hle := hs.re.le
      have hsz := hs.size
      clear hs
      by_cases he : er = 0
      · subst he
        have HS := Lib.hid (HH.out.ok rfl)
        by_cases hr : r = 0
        · subst hr
          by_cases hpn : p < n
          · have EV := Lib.hid (HS.out.left (by rw [HL.out]; exact hpn))
            have hd : decide ((p : Int) < (n : Int)) = true := decide_eq_true (by omega)
            go_wp2_with fail
            go_quiet (fail)
            generalize nq = q1
            go_wp2_with fail
            refine bodyPost_ret (results_none rfl _ _ _) rfl ?_
            exact ((HH.out.drewN q1).fault hlt EV.out).fin EV.out (fun c => absurd c (by decide)) (Nat.le_refl _)
          · have EV := Lib.hid (HS.out.done (by rw [HL.out]; exact hpn))
            have hd : decide ((p : Int) < (n : Int)) = false := decide_eq_false (by omega)
            go_wp2_with fail
            go_quiet (fail)
            generalize nq = q1
            go_wp2_with fail
            refine bodyPost_ret (results_none rfl _ _ _) rfl ?_
            exact (HH.out.drewN q1).fin EV.out (fun _ => rfl) (Nat.le_refl _)
        · obtain ⟨r, rfl⟩ : ∃ r', r = r' + 1 := ⟨r - 1, by omega⟩
          have hcl := HS.out.len
          rw [evsOf_len] at hcl
          have hr0 : decide ((0 : Int) < ((r + 1 : Nat) : Int)) = true := decide_eq_true (by omega)
          go_wp2_with fail
          go_region_law (first | (refine step_append_lies _ (by rfl) _ _ 24 (by rfl) w.heap.size 109 i0 (.agg #[.int .u8 0, .int .i64 0, .string ⟨#[]⟩, .slice none 0 0, .int .i64 0]) 5 64 Tryz.underlying24 HI0.out HZ0.out HZ1.out HZ2.out rfl (by decide) _ c.length (evCells c) (by rfl) (by exact HO1.out _) ⟨W2.heap.size, 0, none⟩ 1 1 (EvM.cells ⟨(evtS l p).1, A1, cc1⟩) (by rfl) (by rfl) (by exact cell_five_new W2 _ _ _ _ _ _ _ rfl) (by intro u hu; simp [EvM.cells] at hu; rcases hu with rfl | rfl | rfl | rfl | rfl <;> rfl) (by omega) (by unfold maxLen; omega) (by omega) (by simp <;> omega) _ (by rfl) ?_; intro g' cap' w3 hown' hgrow hgg _; have bk := hgrow.block hb (by simp <;> omega) (fun e => by have := own_base HO0.out e.symm; omega); have k3' := (World.cell?_of_block (a := ⟨hb, 3, none⟩) bk).trans ((cell_old W2 _ hb 3 (by omega)).trans k3); have z3' := (World.frozen?_of_block (a := ⟨hb, 3, none⟩) bk).trans ((frozen_old W2 _ hb 3 (by omega)).trans z3)) | (go_simp; go_at_call 72; refine (evt_any HH.out.re.drew).mono ?_; rintro e W2 ⟨A1, cc1, rfl, hn, hf, gE⟩; unfold evV; have k3 := (gE.more 3 (by omega)).trans c3; have z3 := (gE.frozen 3).trans (fz 3); have hs2 : wr.heap.size ≤ W2.heap.size := gE.size; have hl2 : hb < W2.heap.size := (by omega); have HO0 := Lib.hid (own_kept HH.out.row.own (fun k hk hk2 => gE.block k hk2 (by omega))); have HO1 := Lib.hid (fun o => own_ndb HO0.out ((Below.refl _ W2).alloc (Nat.le_refl _) o))))
          all_goals (
            have ST := Lib.hid (HH.out.step HLL.out hlt hsz (GoE.ahead (Below.refl _ wr).drew hlw gE) hn hf _ hgrow hown' hgg)
            clear hgrow hown' hgg hn hf gE
            go_wp2_with fail
            go_roundw
            case rel => exact ⟨r, _, _, some ⟨g', 0, none⟩, cap', c ++ [⟨(evtS l p).1, A1, cc1⟩], by go_num, by omega, ST.out⟩
            case measure => simp [Go.RowKit.intOf])
      · have EV := Lib.hid (HH.out.bad he)
        have he1 : (er == 0) = false := beq_eq_false_iff_ne.2 he
        go_wp2_with fail
        go_quiet (fail)
        generalize nq = q1
        go_wp2_with fail
        refine bodyPost_ret (results_none rfl _ _ _) rfl ?_
        exact (HH.out.drewN q1).fin EV.out (fun c => absurd c he) (Nat.le_refl _)
end Go.Proofs.YtaeophaecclnbaaGreatDoor
namespace Go.Proofs.YtaeophaecclnbaaGreatDoor
open Go.RowKit

theorem hist_none {l : List UInt8} (h : (histS l).2.2 ≠ 0) : (histS l).1 = [] := by
  by_cases h0 : (numS l).2.2 = 0
  · by_cases h1 : 4096 < (numS l).1
    · rw [hist_long h0 h1]
    · have e : histS l = histGo l (numS l).1 (numS l).2.1 [] := (if_neg (fun c => c h0)).trans (if_neg h1)
      have go : ∀ (n p : Nat) (v : List Ev), (histGo l n p v).2.2 ≠ 0 → (histGo l n p v).1 = [] := by
        intro n
        induction n with
        | zero =>
          intro p v hne
          by_cases hp : p < l.length
          · rw [show histGo l 0 p v = ([], p, 3) from if_pos hp]
          · rw [show histGo l 0 p v = (v, p, 0) from if_neg hp] at hne
            exact absurd rfl hne
        | succ n ih =>
          intro p v hne
          by_cases he : (evtS l p).2.2 = 0
          · rw [show histGo l (n + 1) p v = histGo l n (evtS l p).2.1 (v ++ [(evtS l p).1]) from if_neg (fun c => c he)] at hne ⊢
            exact ih _ _ hne
          · rw [show histGo l (n + 1) p v = ([], (evtS l p).2.1, (evtS l p).2.2) from if_pos he]
      rw [e] at h ⊢
      exact go _ _ _ h
  · rw [hist_bad h0]
set_option maxRecDepth 100000 in
set_option maxHeartbeats 2000000 in
theorem hunpack_any {w : World} {A : Option Addr} {n cc : Nat} {l : List UInt8} (h : BS w A n cc l) (ha : ∃ a, A = some a) :
    Calls Tryz.prog 17 #[.slice A n cc] w (HRet l w) := by
  obtain ⟨a, rfl⟩ := ha
  have H := Lib.hid h
  have hab : 0 < n → a.block < w.heap.size := fun hn => by
    obtain ⟨b, off, e, hlt, _⟩ := h.bytes hn
    injection e with e
    subst e
    exact hlt
  go_enter Tryz.func17, Tryz.ntmps17
  go_wp2_with fail
  have hB : Below w.heap.size w (w.alloc (.cells #[.slice (some a) n cc, .int .i64 0, .int .i64 0, .slice none 0 0] 98)) := (Below.refl _ w).alloc (Nat.le_refl _) _
  have R : RE (w.alloc (.cells #[.slice (some a) n cc, .int .i64 0, .int .i64 0, .slice none 0 0] 98)) w.heap.size (some a) n cc l 0 0 := {
    c0 := by rw [cell_new _ _ rfl]; rfl
    c1 := by rw [cell_new _ _ rfl]; rfl
    c2 := by rw [cell_new _ _ rfl]; rfl
    f1 := frozen_new _ _ rfl _ _ _
    f2 := frozen_new _ _ rfl _ _ _
    bs := h.below hB
    le := Nat.zero_le _
    ne := fun hn b off e => by
      injection e with e
      subst e
      have := hab hn
      show b ≠ w.heap.size
      have : b < w.heap.size := this
      omega
    lt := by simp
    adr := ⟨a, rfl⟩ }
  refine (all_any R (by rw [cell_new _ _ rfl]; rfl) (fun j => frozen_new _ _ rfl _ _ _) (fun hn => by have := hab hn; simp; omega)).mono ?_
  rintro e w1 ⟨rfl, A', cap, c, k1, k2, k3, hrow, hv, o1, o2, o3, o4, o5⟩
  have HB := Lib.hid (show Below w.heap.size w w1 from ⟨o1, o2, o3, by simp at o4; omega, fun k hk => (o5 k (by simp; omega) (by omega)).trans (hB.block k hk)⟩)
  have HROW := Lib.hid (hrow.mono (base' := w.heap.size) (B' := w.heap.size) (by simp) (by simp))
  have HV := Lib.hid hv
  clear o1 o2 o3 o4 o5 hrow hv h R hB
  by_cases he : (histS l).2.2 = 0
  · have he1 : ((histS l).2.2 != 0) = false := by rw [he]; rfl
    have HE := Lib.hid he
    have HL := Lib.hid (show c.length = (histS l).1.length by rw [← HV.out he, evsOf_len])
    clear he
    go_wp2_with fail
    go_region
    go_wp2_with fail
    go_ret3
    exact ⟨A', cap, by rw [HE.out, ← HL.out]; rfl, ⟨c, HROW.out.below ((Below.refl _ _).drew), HV.out HE.out⟩, HB.out.drew⟩
  · have he1 : ((histS l).2.2 != 0) = true := bne_iff_ne.2 he
    have HE := Lib.hid he
    clear he
    go_wp2_with fail
    go_region
    go_wp2_with fail
    go_ret3
    have hr := hist_none HE.out
    exact ⟨none, 0, by rw [hr]; rfl, by rw [hr]; exact EvsR.nil, HB.out.drew⟩
theorem hunpack_at {w : World} {a : Addr} {n cc : Nat} {l : List UInt8} (h : BS w (some a) n cc l) : Calls Tryz.prog 17 #[.slice (some a) n cc] w (HRet l w) := hunpack_any h ⟨a, rfl⟩
end Go.Proofs.YtaeophaecclnbaaGreatDoor

/- The document's read of an event, walked. The document's reading of a history, walked. -/
import Derived.Test.YtaeophaecclnbaaGreatDoorNxKeQ
import Derived.Test.YtaeophaecclnbaaGreatDoorNxKnQ
import Derived.Deep.DeepCutAuto
import Derived.Test.YtaeophaecclnbaaGreatDoorMgP
namespace Go.Proofs.YtaeophaecclnbaaGreatDoor
open Go.RowKit
theorem rread_any {w : World} {A : Option Addr} {n cc : Nat} {l : List UInt8} {p : Nat} (h : BS w A n cc l) (hp : p ≤ n) : Calls Tryz.prog 47 #[.slice A n cc, .int .i64 p] w (EvRet l p w) := by
  by_cases hn : p = n
  · exact rread_short h hn
  · by_cases hk : byt l p < 1 ∨ 12 < byt l p
    · exact rread_kind h (by omega) hk
    · have lB := eB_le (l := l) (p := p) (by rw [h.len]; omega)
      rw [h.len] at lB
      have hc := h.cap
      by_cases hcc : cc = eB l p
      · exact rread_eq h (by omega) hk (by omega) hcc
      · exact rread_ne h (by omega) hk hcc
end Go.Proofs.YtaeophaecclnbaaGreatDoor
namespace Go.Proofs.YtaeophaecclnbaaGreatDoor
open Go.RowKit

theorem ruintS_any {w : World} {A : Option Addr} {n cc : Nat} {l : List UInt8} (h : BS w A n cc l) :
    Calls Tryz.prog 46 #[.slice A n cc, .int .i64 0] w (RetB (.tuple #[.int .u64 (numS l).1, .int .i64 (numS l).2.1, .int .i64 (numS l).2.2]) w) := by
  have := ruint_any h 0 (Nat.zero_le _)
  rw [List.drop_zero] at this
  simp only [Nat.zero_add] at this
  exact this
theorem evsOf_snoc (c : List EvM) (e : EvM) : evsOf (c ++ [e]) = evsOf c ++ [e.x] := by simp [evsOf]
theorem EvRow.start' {w : World} : EvRow w w.heap.size w.heap.size none 0 [] := EvRow.start
/-- While the document's history is read: k events were read. -/
structure HvS (w W : World) (l : List UInt8) (N k p : Nat) (A' : Option Addr) (cap : Nat) (c : List EvM) : Prop where
  le : k ≤ N
  hs : Hs l (N - k) p (evsOf c)
  row : EvRow W w.heap.size w.heap.size A' cap c
  bel : Below w.heap.size w W
theorem HvS.step {w W W2 w3 : World} {l : List UInt8} {N k p : Nat} {A' A1 : Option Addr} {cap cc1 g cap' : Nat} {c : List EvM} (h : HvS w W l N k p A' cap c) (hl : l.length ≤ 140737488351232) (hk : k < N) (he : (evtS l p).2.2 = 0) (hb : Below W.heap.size W W2) (hn : NodesIn W2 A1 (evtS l p).1.value) (hf : Far W.heap.size A1 (evtS l p).1.value.length) (o1 o2 : Obj)
    (hgrow : ((W2.alloc o1).alloc o2).grownBy w3 (Value.slice A' c.length cap).ownBlock) (hown : w3.ownsRow w.heap.size 109 5 (.slice (some ⟨g, 0, none⟩) (c.length + 1) cap') (c.length + 1) (evCells c ++ EvM.cells ⟨(evtS l p).1, A1, cc1⟩)) (hg : (Value.slice A' c.length cap).ownBlock = some g ∨ g = W2.heap.size + 1 + 1) :
    HvS w w3 l N (k + 1) (evtS l p).2.1 (some ⟨g, 0, none⟩) cap' (c ++ [⟨(evtS l p).1, A1, cc1⟩]) := by
  have k1 : Below W2.heap.size W2 ((W2.alloc o1).alloc o2) := ((Below.refl _ W2).alloc (Nat.le_refl _) o1).alloc (by simp) o2
  have k2 : Below W.heap.size W ((W2.alloc o1).alloc o2) := bthen hb k1
  have hsz := h.bel.size
  have hz : ((W2.alloc o1).alloc o2).heap.size = W2.heap.size + 1 + 1 := by rw [World.size_alloc, World.size_alloc]
  rw [← hz] at hg
  have hm := h.hs
  rw [show N - k = (N - (k + 1)) + 1 by omega] at hm
  refine ⟨hk, by rw [evsOf_snoc]; exact hm.more hl he, h.row.app (W2 := (W2.alloc o1).alloc o2) k2.size (fun j _ hj => k2.block j hj) (hn.keep k1) hf hsz hgrow hown hg, below_grown (bthen h.bel k2) hgrow fun j e => own_base h.row.own e⟩
set_option maxRecDepth 100000 in
set_option maxHeartbeats 4000000 in
theorem runpack_any {w : World} {A : Option Addr} {n cc : Nat} {l : List UInt8} (h : BS w A n cc l) :
    Calls Tryz.prog 22 #[.slice A n cc] w (HRet l w) := by
  have H := Lib.hid h
  have hsm := h.small
  have HL := Lib.hid h.len
  have HLL := Lib.hid (show l.length ≤ 140737488351232 by rw [HL.out]; omega)
  have HI := Lib.hid infoEv
  obtain ⟨i0, hi, hz0, hz1, hz2⟩ := info_parts HI.out
  have HI0 := Lib.hid hi
  have HZ0 := Lib.hid hz0
  have HZ1 := Lib.hid hz1
  have HZ2 := Lib.hid hz2
  have np := @num_pos l
  rw [HL.out] at np
  have nv := num_lt l
  clear h hi hz0 hz1 hz2
  go_enter Tryz.func22, Tryz.ntmps22
  go_wp2_with fail
  refine (ruintS_any H.out).mono ?_
  rintro e w1 ⟨rfl, hb⟩
  have HB1 := Lib.hid hb
  clear hb
  by_cases he : (numS l).2.2 = 0
  · have he1 : ((numS l).2.2 != 0) = false := by rw [he]; rfl
    have HE := Lib.hid he
    clear he
    by_cases hbig : 4096 < (numS l).1
    · have EV := Lib.hid (hist_long HE.out hbig)
      have hb1 : decide ((4096 : Int) < ((numS l).1 : Int)) = true := decide_eq_true (by omega)
      go_wp2_with fail
      go_ret3
      exact ⟨none, 0, by rw [EV.out]; rfl, by rw [EV.out]; exact EvsR.nil, HB1.out⟩
    · have hb1 : decide ((4096 : Int) < ((numS l).1 : Int)) = false := decide_eq_false (by omega)
      have HS0 := Lib.hid (show HvS w w1 l (numS l).1 0 (numS l).2.1 none 0 [] from ⟨Nat.zero_le _, Hs.start HE.out hbig, EvRow.start, HB1.out⟩)
      have hw0 : IntKind.i64.wrap ((numS l).1 : Int) = ((numS l).1 : Int) := IntWalk.i64_in _ (by omega)
      clear HE
      go_wp2_with fail
      go_loopw [8, 6, 9] (fun v a i wr => ∃ (k p : Nat) (A' : Option Addr) (cap : Nat) (c : List EvM), v = .slice A' c.length cap ∧ a = .int .i64 p ∧ i = .int .i64 k ∧ HvS w wr l (numS l).1 k p A' cap c) (fun _ _ i _ => (numS l).1 - (Go.RowKit.intOf i).toNat)
      case atStart => exact ⟨0, _, none, 0, [], rfl, rfl, rfl, HS0.out⟩
      case round =>
        obtain ⟨k, p, A', cap, c, rfl, rfl, rfl, hs⟩ := hrel
        have HS := Lib.hid hs
        have hkN := hs.le
        have hcl := hs.hs.len
        rw [evsOf_len] at hcl
        have hp := hs.hs.pos
        rw [HL.out] at hp
        have HBW := Lib.hid hs.bel
        clear hs HS0
        generalize (numS l).1 = N at *
        by_cases hlt : k < N
        · have hd : decide ((k : Int) < (N : Int)) = true := decide_eq_true (by omega)
          have CR := Lib.hid (rread_any (H.out.below HBW.out) (p := p) hp)
          go_wp2_with fail
          refine CR.out.mono ?_
          rintro e w2 ⟨A1, cc1, rfl, hn, hf, hb⟩
          have HN := Lib.hid (And.intro hn (And.intro hf hb))
          have HO2 := Lib.hid (own_ndb HS.out.row.own hb)
          have HB2 := Lib.hid (bthen HBW.out hb)
          clear hn hf hb CR
          unfold evV
          by_cases he : (evtS l p).2.2 = 0
          · have he1 : ((evtS l p).2.2 != 0) = false := by rw [he]; rfl
            have HE := Lib.hid he
            clear he
            go_wp2_with (at_builtin; refine wpList_append_lies _ rfl _ _ 24 rfl w.heap.size 109 i0 (.agg #[.int .u8 0, .int .i64 0, .string ⟨#[]⟩, .slice none 0 0, .int .i64 0]) 5 64 Tryz.underlying24 HI0.out HZ0.out HZ1.out HZ2.out rfl (by decide) _ c.length (evCells c) rfl ?own ⟨w2.heap.size + 1, 0, none⟩ 1 1 (EvM.cells ⟨(evtS l p).1, A1, cc1⟩) rfl rfl ?c1 ?c2 (by decide) ?c3 ?c4 ?c5 _ rfl ?_)
            case own => exact own_ndb HO2.out (by go_grown)
            case c1 => first | exact fun _ _ hj => hj | exact cell_five_new (w2.alloc _) _ _ _ _ _ _ _ (by simp)
            case c2 => intro u hu; simp [EvM.cells] at hu; rcases hu with rfl | rfl | rfl | rfl | rfl <;> rfl
            case c3 => unfold maxLen; omega
            case c4 => omega
            case c5 => have := HB2.out.size; simp; omega
            intro g' cap' w3 hown' hgrow hgg hlt3
            have ST := Lib.hid (HS.out.step HLL.out hlt HE.out HN.out.2.2 HN.out.1 HN.out.2.1 _ _ hgrow hown' hgg)
            clear hgrow hown' hgg hlt3 HO2 HB2 HN HE he1
            go_wp2_with fail
            go_roundw
            case rel => exact ⟨k + 1, _, some ⟨g', 0, none⟩, cap', c ++ [⟨(evtS l p).1, A1, cc1⟩], by rw [List.length_append]; rfl, rfl, by go_num, ST.out⟩
            case measure => simp [Go.RowKit.intOf]; omega
          · have he1 : ((evtS l p).2.2 != 0) = true := bne_iff_ne.2 he
            have EV := Lib.hid (show histS l = ([], (evtS l p).2.1, (evtS l p).2.2) from (by have hm := HS.out.hs; rw [show N - k = (N - (k + 1)) + 1 by omega] at hm; exact hm.bad he))
            go_wp2_with fail
            go_ret3
            exact ⟨none, 0, by rw [EV.out]; rfl, by rw [EV.out]; exact EvsR.nil, by first | exact HB2.out | exact HB2.out.alloc HB2.out.size _⟩
        · obtain rfl : k = N := by omega
          have hd : decide ((k : Int) < (k : Int)) = false := decide_eq_false (by omega)
          have HM := Lib.hid (show Hs l 0 p (evsOf c) from (by have hm := HS.out.hs; rw [Nat.sub_self] at hm; exact hm))
          by_cases hpn : p < n
          · have EV := Lib.hid (HM.out.left (by rw [HL.out]; exact hpn))
            have hd2 : decide ((p : Int) < (n : Int)) = true := decide_eq_true (by omega)
            go_wp2_with fail
            go_ret3
            exact ⟨none, 0, by rw [EV.out]; rfl, by rw [EV.out]; exact EvsR.nil, HBW.out⟩
          · have EV := Lib.hid (HM.out.done (by rw [HL.out]; exact hpn))
            have hd2 : decide ((p : Int) < (n : Int)) = false := decide_eq_false (by omega)
            go_wp2_with fail
            go_ret3
            exact ⟨A', cap, by rw [EV.out]; show _ = Ending.returned (.tuple #[.slice A' (evsOf c).length cap, .int .i64 (p : Int), .int .i64 0]); rw [evsOf_len]; rfl, by rw [EV.out]; exact ⟨c, HS.out.row, rfl⟩, HBW.out⟩
  · have he1 : ((numS l).2.2 != 0) = true := bne_iff_ne.2 he
    have EV := Lib.hid (hist_bad he)
    go_wp2_with fail
    go_ret3
    exact ⟨none, 0, by rw [EV.out]; rfl, by rw [EV.out]; exact EvsR.nil, HB1.out⟩
end Go.Proofs.YtaeophaecclnbaaGreatDoor

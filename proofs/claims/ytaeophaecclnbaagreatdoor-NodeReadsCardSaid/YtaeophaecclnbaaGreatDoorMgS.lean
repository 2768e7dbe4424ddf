/- The document's read of a value, walked. The document's reader of questions: one, text, int, walked. Printed by gen_nx.py. -/
import Derived.Test.YtaeophaecclnbaaGreatDoorNxGQ
import Derived.Test.YtaeophaecclnbaaGreatDoorMgF
import Derived.Deep.RegionHeld3
import Derived.RegionTactic
namespace Go.Proofs.YtaeophaecclnbaaGreatDoor
open Go.RowKit

theorem below_grown {w w1 w2 : World} {r : Option Nat} (h : Below w.heap.size w w1) (hg : w1.grownBy w2 r) (hr : ∀ k, r = some k → w.heap.size ≤ k) : Below w.heap.size w w2 :=
  ⟨hg.os.trans h.os, hg.tape.trans h.tape, hg.output.trans h.output, Nat.le_trans h.size hg.size, fun k hk => (hg.block k (Nat.lt_of_lt_of_le hk h.size) (fun e => by have := hr k e.symm; omega)).trans (h.block k hk)⟩
theorem own_lt {w : World} {base e sz n : Nat} {v : Value} {xs : List Value} (h : w.ownsRow base e sz v n xs) {q : Nat} (hq : v.ownBlock = some q) : q < w.heap.size := by
  rcases h.2 with ⟨rfl, _⟩ | ⟨g, cap, cur, rfl, _, hg, _⟩
  · simp [Value.ownBlock] at hq
  · simp [Value.ownBlock] at hq
    rw [← hq]
    exact (Array.getElem?_eq_some_iff.1 hg).1
set_option maxRecDepth 100000 in
set_option maxHeartbeats 4000000 in
theorem rvalue_any {w : World} {A : Option Addr} {n cc : Nat} {l : List UInt8} (h : BS w A n cc l) :
    Calls Tryz.prog 21 #[.slice A n cc] w (VRet l w) := by
  have HI := Lib.hid infoNode
  have H := Lib.hid h
  have hsm := h.small
  have HL := Lib.hid h.len
  obtain ⟨i0, hi, hz0, hz1, hz2⟩ := info_parts HI.out
  have HI0 := Lib.hid hi
  have HZ0 := Lib.hid hz0
  have HZ1 := Lib.hid hz1
  have HZ2 := Lib.hid hz2
  clear h hi hz0 hz1 hz2
  go_enter Tryz.func21, Tryz.ntmps21
  go_wp2_with fail
  go_loopw [5, 6, 7, 8] (fun v a s t wr => ∃ (p size : Nat) (todo : Int) (c : List Node), a = .int .i64 p ∧ s = .int .i64 size ∧ t = .int .i64 todo ∧ Vl l p size todo c ∧ wr.ownsRow w.heap.size 103 5 v c.length (nodeCells c) ∧ Below w.heap.size w wr) (fun v _ _ _ _ => 1025 - (lenV v))
  case atStart => exact ⟨0, 0, 1, [], rfl, rfl, rfl, Vl.start _, ⟨rfl, .inl ⟨rfl, rfl⟩⟩, Below.refl _ _⟩
  case round =>
    obtain ⟨p, size, todo, c, rfl, rfl, rfl, hv, hown, hg⟩ := hrel
    have HV := Lib.hid hv
    have HO := Lib.hid hown
    have HG := Lib.hid hg
    have t0 := hv.todo0
    have t1 := hv.todo1
    have cl := hv.le
    have sz := hv.sz
    have pos := hv.pos
    rw [HL.out] at pos
    obtain ⟨A', cc', rfl⟩ := own_slice HO.out
    clear hv hown hg
    by_cases ht : todo ≤ 0
    · have R := Lib.hid (HV.out.done ht)
      go_wp2_with fail
      go_ret3
      exact ⟨A', cc', by rw [R.out]; rfl, by rw [R.out]; exact own_nodes HO.out rfl, by rw [R.out]; exact own_far HO.out (Nat.le_refl _), HG.out⟩
    · have HT := Lib.hid ht
      by_cases hp : n ≤ p
      · have R := Lib.hid (HV.out.short (by have := HT.out; omega) (by rw [HL.out]; exact hp))
        rw [HL.out] at R
        go_wp2_with fail
        go_ret3
        exact ⟨none, 0, by rw [R.out]; rfl, by rw [R.out]; exact NodesIn.nil, by rw [R.out]; exact Far.nil, HG.out⟩
      · by_cases hl : 1024 ≤ c.length ∨ 4096 ≤ size
        · have R := Lib.hid (HV.out.long (by have := HT.out; omega) (by rw [HL.out]; exact hp) hl)
          by_cases hq : 1024 ≤ c.length
          · go_wp2_with fail
            go_ret3
            exact ⟨none, 0, by rw [R.out]; rfl, by rw [R.out]; exact NodesIn.nil, by rw [R.out]; exact Far.nil, HG.out⟩
          · have hs : 4096 < (size : Int) + 1 := by omega
            go_wp2_with fail
            go_ret3
            exact ⟨none, 0, by rw [R.out]; rfl, by rw [R.out]; exact NodesIn.nil, by rw [R.out]; exact Far.nil, HG.out⟩
        · have hs : (size : Int) + 1 ≤ 4096 := by omega
          have hc1 : (c.length : Int) < 1024 := by omega
          have HN := Lib.hid (rnode_any (H.out.below HG.out) (p := p) (size := size) (by omega) (by omega))
          have RN := Lib.hid (read_node (l := l) (p := p) (size := size) (by rw [HL.out]; omega) (by omega))
          have MO := Lib.hid (HV.out.more (by have := HT.out; omega) (by rw [HL.out]; exact hp) hl)
          have BD := Lib.hid (HV.out.bad (by have := HT.out; omega) (by rw [HL.out]; exact hp) hl)
          go_wp2_with fail
          refine HN.out.mono ?_
          rintro e w2 ⟨V, rfl, hV, hb⟩
          have HB := Lib.hid (bthen HG.out hb)
          have HO2 := Lib.hid (own_ndb HO.out hb)
          clear hb HN
          by_cases he : (nodeS l p size).2.2 = 0
          · obtain rfl := hV he
            have he1 : ((nodeS l p size).2.2 != 0) = false := by rw [he]; rfl
            have M := Lib.hid (MO.out he)
            have k0 := RN.out.kids0
            have k1 := RN.out.kids1
            have tx := RN.out.text he
            clear MO BD RN he
            generalize (nodeS l p size).2.1 = q at *
            generalize (nodeS l p size).2.2 = er at *
            generalize (nodeS l p size).1 = x at *
            have wA : IntKind.i64.wrap ((size : Int) + 1) = (size : Int) + 1 := IntWalk.i64_in _ (by omega)
            have wB : IntKind.i64.wrap ((size : Int) + 1 + (x.text.size : Int)) = (size : Int) + 1 + (x.text.size : Int) := IntWalk.i64_in _ (by omega)
            have wC : IntKind.i64.wrap (todo - 1) = todo - 1 := IntWalk.i64_in _ (by omega)
            have wD : IntKind.i64.wrap (todo - 1 + x.kids) = todo - 1 + x.kids := IntWalk.i64_in _ (by omega)
            have hsc := store_cx
            obtain ⟨kd, ks, it, txx, re, im⟩ := x
            unfold Node.val
            dsimp only at *
            go_wp2_with (at_builtin; refine wpList_append_own _ rfl _ _ 23 rfl w.heap.size 103 i0 (.agg #[.int .u8 0, .int .i64 0, .int .i64 0, .string ⟨#[]⟩, .complex .f64 0 0]) 5 56 Tryz.underlying23 HI0.out HZ0.out HZ1.out HZ2.out rfl (by decide) _ c.length (nodeCells c) rfl ?own ⟨w2.heap.size + 1, 0, none⟩ 1 1 (Node.cells ⟨kd, ks, it, txx, re, im⟩) rfl rfl ?c1 ?c2 ?c3 ?c4 ?c5 ?_)
            case own => exact own_ndb HO2.out (by go_grown)
            case c1 => exact fun _ _ hj => hj
            case c2 => intro u hu; simp [Node.cells] at hu; rcases hu with rfl | rfl | rfl | rfl | rfl <;> rfl
            case c3 => unfold maxLen; omega
            case c4 => omega
            case c5 => have := HB.out.size; simp; omega
            intro v' w3 hown' hgrow _
            have HB3 := Lib.hid (below_grown (show Below w.heap.size w _ from bthen HB.out (show Below w2.heap.size w2 _ by go_grown)) hgrow (fun k e => own_base HO2.out e))
            have hbk := hgrow.block w2.heap.size (by simp <;> omega) (fun e => Nat.lt_irrefl _ (own_lt HO2.out e.symm))
            have e1 := (World.cell?_of_block (a := ⟨w2.heap.size, 1, none⟩) hbk)
            have e3 := (World.cell?_of_block (a := ⟨w2.heap.size, 3, none⟩) hbk)
            simp at e1 e3
            have LV := Lib.hid (own_len hown')
            clear hgrow hbk HO2 HB
            go_wp2_with fail
            go_roundw
            case rel => exact ⟨q, size + 1 + txx.size, todo - 1 + ks, c ++ [⟨kd, ks, it, txx, re, im⟩], rfl, by go_num, by go_num, M.out, by rw [nodeCells_snoc, List.length_append]; exact hown', HB3.out⟩
            case measure =>
              show 1025 - lenV v' < 1025 - c.length
              rw [LV.out]
              have := M.out.le
              simp at this
              omega
          · have he1 : ((nodeS l p size).2.2 != 0) = true := bne_iff_ne.2 he
            have R := Lib.hid (BD.out he)
            clear MO BD RN he hV
            obtain ⟨kd, ks, it, txx, re, im⟩ := V
            unfold Node.val
            have hsc := store_cx
            go_wp2_with fail
            go_ret3
            exact ⟨none, 0, by rw [R.out]; rfl, by rw [R.out]; exact NodesIn.nil, by rw [R.out]; exact Far.nil, by first | exact HB.out | exact HB.out.alloc HB.out.size _⟩
end Go.Proofs.YtaeophaecclnbaaGreatDoor
namespace Go.Proofs.YtaeophaecclnbaaGreatDoor
open Go.RowKit

theorem adne0 (rb : Nat) : (⟨rb, 1, none⟩ : Addr) ≠ ⟨rb, 0, none⟩ := fun e => by injection e with _ e _; exact absurd e (by decide)
theorem flag_short {m : Nat} {l : List UInt8} (h : l.length = 0) : flagS m l = (0, 0, 4) := if_pos h
theorem flag_bad {m : Nat} {l : List UInt8} (h : ¬ l.length = 0) (h1 : m < byt l 0) : flagS m l = (0, 0, 3) := (if_neg h).trans (if_pos h1)
theorem flag_ok {m : Nat} {l : List UInt8} (h : ¬ l.length = 0) (h1 : ¬ m < byt l 0) : flagS m l = (byt l 0, 1, 0) := (if_neg h).trans (if_neg h1)
set_option maxRecDepth 100000 in
set_option maxHeartbeats 2000000 in
theorem xone_any {w : World} {rb : Nat} {A : Option Addr} {n cc : Nat} {l : List UInt8} {p : Nat} {er : Int} (h : RE w rb A n cc l p er) (m : Nat) :
    Calls Tryz.prog 18 #[.pointer (some ⟨rb, 0, none⟩), .int .u8 (m : Int)] w (fun e w' => e = .returned (.int .u8 ((nxV 0 (flagS m) l ⟨p, er⟩ : Nat) : Int)) ∧ GoE rb (nxS (flagS m) l ⟨p, er⟩).at_ (nxS (flagS m) l ⟨p, er⟩).e w w') := by
  obtain ⟨a, rfl⟩ := h.adr
  have R0 := Lib.hid (GoE.refl h)
  have c0 := h.c0
  have c1 := h.c1
  have c2 := h.c2
  have f1 := h.f1
  have f2 := h.f2
  have hle := h.le
  have hlt := h.lt
  have HBS := Lib.hid h.bs
  have hcap := h.bs.cap
  have hsm := h.bs.small
  have hcapb := h.bs.capb
  have hnil := h.bs.nil
  have HNE := Lib.hid h.ne
  clear h
  by_cases hc : er = 0
  · subst hc
    rw [nxS_is rfl]
    dsimp only
    have hd : (l.drop p).length = n - p := by rw [List.length_drop, HBS.out.len]
    by_cases hp : p < n
    · obtain ⟨b, off, ha, hbl, hcell⟩ := HBS.out.bytes (by omega)
      obtain rfl : a = ⟨b, off, none⟩ := Option.some.inj ha
      clear ha
      have cb : w.cell? ⟨b, off + p, none⟩ = some (.int .u8 (byt l p : Int)) := hcell p (by omega)
      have hb0 : byt (l.drop p) 0 = byt l p := byt_drop l p 0
      have hk8 := byt_lt l p
      by_cases hm : m < byt l p
      · have e := flag_bad (m := m) (l := l.drop p) (by omega) (by rw [hb0]; exact hm)
        rw [e, nxV_bad rfl (by rw [e]; show (3 : Int) ≠ 0; decide)]
        dsimp only
        rw [Nat.add_zero]
        clear hcell hb0 hd e
        generalize byt l p = k at *
        go_enter Tryz.func18, Tryz.ntmps18
        go_wp2_with fail
        go_region
        go_wp2_with fail
        go_region
        go_wp2_with fail
        go_ret
        exact ⟨rfl, by first | exact GoE.ahead (Below.refl _ w).drew.drew hlt (GoE.store2 (er' := 3) c1 c2) | exact GoE.ahead (Below.refl _ w).drew hlt (GoE.store2 (er' := 3) c1 c2) | exact GoE.store2 (er' := 3) c1 c2⟩
      · have e := flag_ok (m := m) (l := l.drop p) (by omega) (by rw [hb0]; exact hm)
        rw [e, nxV_ok rfl (by rw [e])]
        dsimp only
        rw [e]
        dsimp only
        rw [hb0]
        have hw1 : IntKind.i64.wrap ((p : Int) + 1 - 1) = (p : Int) := by rw [IntWalk.i64_in _ (by omega)]; omega
        have hne : (⟨rb, 1, none⟩ : Addr) ≠ ⟨b, off + p, none⟩ := fun e => by injection e with e1 _ _; exact HNE.out (by omega) _ _ rfl e1.symm
        have d1 := World.cell?_setCell_same w ⟨rb, 1, none⟩ (.int .i64 ((p : Int) + 1)) c1
        have d0 := (World.cell?_setCell_other w ⟨rb, 1, none⟩ ⟨rb, 0, none⟩ (.int .i64 ((p : Int) + 1)) (adne0 rb)).trans c0
        have db := (World.cell?_setCell_other w ⟨rb, 1, none⟩ ⟨b, off + p, none⟩ (.int .i64 ((p : Int) + 1)) hne).trans cb
        clear hcell hb0 hd e
        generalize byt l p = k at *
        go_enter Tryz.func18, Tryz.ntmps18
        go_wp2_with fail
        go_region
        go_wp2_with fail
        go_region
        go_wp2_with fail
        go_region
        go_wp2_with fail
        go_ret
        exact ⟨rfl, by first | exact (GoE.store1 (q := p + 1) c1 c2 ((p : Int) + 1) (by omega)).drew.drew.drew | exact (GoE.store1 (q := p + 1) c1 c2 ((p : Int) + 1) (by omega)).drew.drew⟩
    · have e := flag_short (m := m) (l := l.drop p) (by omega)
      rw [e, nxV_bad rfl (by rw [e]; show (4 : Int) ≠ 0; decide)]
      dsimp only
      rw [Nat.add_zero]
      clear e hd
      go_enter Tryz.func18, Tryz.ntmps18
      go_wp2_with fail
      go_region
      go_wp2_with fail
      go_ret
      exact ⟨rfl, by first | exact GoE.ahead (Below.refl _ w).drew hlt (GoE.store2 (er' := 4) c1 c2) | exact GoE.store2 (er' := 4) c1 c2⟩
  · rw [nxS_no hc, nxV_no hc]
    have he : (er != 0) = true := bne_iff_ne.2 hc
    go_enter Tryz.func18, Tryz.ntmps18
    go_wp2_with fail
    go_ret
    exact ⟨rfl, R0.out⟩
theorem rintS_any {w : World} {A : Option Addr} {n cc : Nat} {l : List UInt8} (h : BS w A n cc l) :
    Calls Tryz.prog 44 #[.slice A n cc, .int .i64 0] w (RetB (.tuple #[.int .i64 (intS l).1, .int .i64 (intS l).2.1, .int .i64 (intS l).2.2]) w) := by
  have := rint_any h 0 (Nat.zero_le _)
  rw [List.drop_zero] at this
  simp only [Nat.zero_add] at this
  exact this
theorem rtextS_any {w : World} {A : Option Addr} {n cc : Nat} {l : List UInt8} (h : BS w A n cc l) :
    Calls Tryz.prog 43 #[.slice A n cc, .int .i64 0] w (RetB (.tuple #[.string (strB (textS l).1), .int .i64 (textS l).2.1, .int .i64 (textS l).2.2]) w) := by
  have := rtext_any h 0 (Nat.zero_le _)
  rw [List.drop_zero] at this
  simp only [Nat.zero_add] at this
  exact this
set_option maxRecDepth 100000 in
set_option maxHeartbeats 2000000 in
theorem xtext_any {w : World} {rb : Nat} {A : Option Addr} {n cc : Nat} {l : List UInt8} {p : Nat} {er : Int} (h : RE w rb A n cc l p er) :
    Calls Tryz.prog 19 #[.pointer (some ⟨rb, 0, none⟩)] w (fun e w' => e = .returned (.string (strB (nxV [] textS l ⟨p, er⟩))) ∧ GoE rb (nxS textS l ⟨p, er⟩).at_ (nxS textS l ⟨p, er⟩).e w w') := by
  obtain ⟨a, rfl⟩ := h.adr
  have R0 := Lib.hid (GoE.refl h)
  have c0 := h.c0
  have c1 := h.c1
  have c2 := h.c2
  have f1 := h.f1
  have f2 := h.f2
  have hle := h.le
  have hlt := h.lt
  have HBS := Lib.hid h.bs
  have hcap := h.bs.cap
  have hsm := h.bs.small
  have hcapb := h.bs.capb
  have hnil := h.bs.nil
  clear h
  by_cases hc : er = 0
  · subst hc
    rw [nxS_is rfl]
    dsimp only
    by_cases hpc : cc = p
    · subst hpc
      obtain rfl : cc = n := by omega
      have HS := Lib.hid (show ∀ w', Below w.heap.size w w' → w'.cell? ⟨rb, 0, none⟩ = some (.slice (some a) cc cc) ∧ w'.cell? ⟨rb, 1, none⟩ = some (.int .i64 cc) from fun w' hb => ⟨(hb.cell (p := ⟨rb, 0, none⟩) hlt).trans c0, (hb.cell (p := ⟨rb, 1, none⟩) hlt).trans c1⟩)
      go_enter Tryz.func19, Tryz.ntmps19
      go_wp2_with fail
      go_region_held3 (fun w' => w'.cell? ⟨rb, 0, none⟩ = some (.slice (some a) cc cc) ∧ w'.cell? ⟨rb, 1, none⟩ = some (.int .i64 cc)) (first | exact HS.out _ (Below.refl _ _).drew | exact HS.out _ (bthen (Below.refl _ _).drew (by assumption))) (first | (go_at_call 43; refine (rtextS_any (bs_end (HBS.out.below (Below.refl _ w).drew) rfl)).mono ?_; rintro e w1 ⟨rfl, hb⟩))
      replace hb := bthen (Below.refl _ w).drew hb
      have hq : (textS (l.drop cc)).2.1 ≤ cc - cc := by have := (text_pos : (textS (l.drop cc)).2.1 ≤ (l.drop cc).length); rw [List.length_drop, HBS.out.len] at this; omega
      have hw1 : IntKind.i64.wrap ((cc : Int) + ((textS (l.drop cc)).2.1 : Int)) = (cc : Int) + ((textS (l.drop cc)).2.1 : Int) := IntWalk.i64_in _ (by omega)
      have d1 := (hb.cell (p := ⟨rb, 1, none⟩) hlt).trans c1
      have d2 := (hb.cell (p := ⟨rb, 2, none⟩) hlt).trans c2
      have g1 := (hb.frozen (p := ⟨rb, 1, none⟩) hlt).trans f1
      have g2 := (hb.frozen (p := ⟨rb, 2, none⟩) hlt).trans f2
      have HG := Lib.hid (GoE.ahead hb hlt (GoE.store (q := cc + (textS (l.drop cc)).2.1) (er' := (textS (l.drop cc)).2.2) d1 d2 ((cc : Int) + ((textS (l.drop cc)).2.1 : Int)) (by omega)))
      clear hb
      have hnv : nxV [] textS l ⟨cc, 0⟩ = (textS (l.drop cc)).1 := by
        by_cases he : (textS (l.drop cc)).2.2 = 0
        · exact nxV_ok rfl he
        · rw [nxV_bad rfl he]; exact (text_none he).symm
      go_wp2_with fail
      go_ret
      exact ⟨congrArg (fun z => Ending.returned (.string (strB z))) hnv.symm, HG.out⟩
    · have HS := Lib.hid (show ∀ w', Below w.heap.size w w' → w'.cell? ⟨rb, 0, none⟩ = some (.slice (some a) n cc) ∧ w'.cell? ⟨rb, 1, none⟩ = some (.int .i64 p) from fun w' hb => ⟨(hb.cell (p := ⟨rb, 0, none⟩) hlt).trans c0, (hb.cell (p := ⟨rb, 1, none⟩) hlt).trans c1⟩)
      go_enter Tryz.func19, Tryz.ntmps19
      go_wp2_with fail
      go_region_held3 (fun w' => w'.cell? ⟨rb, 0, none⟩ = some (.slice (some a) n cc) ∧ w'.cell? ⟨rb, 1, none⟩ = some (.int .i64 p)) (first | exact HS.out _ (Below.refl _ _).drew | exact HS.out _ (bthen (Below.refl _ _).drew (by assumption))) (first | (go_at_call 43; refine (rtextS_any (bs_drop (HBS.out.below (Below.refl _ w).drew) hle)).mono ?_; rintro e w1 ⟨rfl, hb⟩))
      replace hb := bthen (Below.refl _ w).drew hb
      have hq : (textS (l.drop p)).2.1 ≤ n - p := by have := (text_pos : (textS (l.drop p)).2.1 ≤ (l.drop p).length); rw [List.length_drop, HBS.out.len] at this; omega
      have hw1 : IntKind.i64.wrap ((p : Int) + ((textS (l.drop p)).2.1 : Int)) = (p : Int) + ((textS (l.drop p)).2.1 : Int) := IntWalk.i64_in _ (by omega)
      have d1 := (hb.cell (p := ⟨rb, 1, none⟩) hlt).trans c1
      have d2 := (hb.cell (p := ⟨rb, 2, none⟩) hlt).trans c2
      have g1 := (hb.frozen (p := ⟨rb, 1, none⟩) hlt).trans f1
      have g2 := (hb.frozen (p := ⟨rb, 2, none⟩) hlt).trans f2
      have HG := Lib.hid (GoE.ahead hb hlt (GoE.store (q := p + (textS (l.drop p)).2.1) (er' := (textS (l.drop p)).2.2) d1 d2 ((p : Int) + ((textS (l.drop p)).2.1 : Int)) (by omega)))
      clear hb
      have hnv : nxV [] textS l ⟨p, 0⟩ = (textS (l.drop p)).1 := by
        by_cases he : (textS (l.drop p)).2.2 = 0
        · exact nxV_ok rfl he
        · rw [nxV_bad rfl he]; exact (text_none he).symm
      go_wp2_with fail
      go_ret
      exact ⟨congrArg (fun z => Ending.returned (.string (strB z))) hnv.symm, HG.out⟩
  · rw [nxS_no hc, nxV_no hc]
    have he : (er != 0) = true := bne_iff_ne.2 hc
    go_enter Tryz.func19, Tryz.ntmps19
    go_wp2_with fail
    go_ret
    exact ⟨rfl, R0.out⟩
set_option maxRecDepth 100000 in
set_option maxHeartbeats 2000000 in
theorem xint_any {w : World} {rb : Nat} {A : Option Addr} {n cc : Nat} {l : List UInt8} {p : Nat} {er : Int} (h : RE w rb A n cc l p er) :
    Calls Tryz.prog 20 #[.pointer (some ⟨rb, 0, none⟩)] w (fun e w' => e = .returned (.int .i64 (nxV 0 intS l ⟨p, er⟩)) ∧ GoE rb (nxS intS l ⟨p, er⟩).at_ (nxS intS l ⟨p, er⟩).e w w') := by
  obtain ⟨a, rfl⟩ := h.adr
  have R0 := Lib.hid (GoE.refl h)
  have c0 := h.c0
  have c1 := h.c1
  have c2 := h.c2
  have f1 := h.f1
  have f2 := h.f2
  have hle := h.le
  have hlt := h.lt
  have HBS := Lib.hid h.bs
  have hcap := h.bs.cap
  have hsm := h.bs.small
  have hcapb := h.bs.capb
  have hnil := h.bs.nil
  clear h
  by_cases hc : er = 0
  · subst hc
    rw [nxS_is rfl]
    dsimp only
    by_cases hpc : cc = p
    · subst hpc
      obtain rfl : cc = n := by omega
      have HS := Lib.hid (show ∀ w', Below w.heap.size w w' → w'.cell? ⟨rb, 0, none⟩ = some (.slice (some a) cc cc) ∧ w'.cell? ⟨rb, 1, none⟩ = some (.int .i64 cc) from fun w' hb => ⟨(hb.cell (p := ⟨rb, 0, none⟩) hlt).trans c0, (hb.cell (p := ⟨rb, 1, none⟩) hlt).trans c1⟩)
      go_enter Tryz.func20, Tryz.ntmps20
      go_wp2_with fail
      go_region_held3 (fun w' => w'.cell? ⟨rb, 0, none⟩ = some (.slice (some a) cc cc) ∧ w'.cell? ⟨rb, 1, none⟩ = some (.int .i64 cc)) (first | exact HS.out _ (Below.refl _ _).drew | exact HS.out _ (bthen (Below.refl _ _).drew (by assumption))) (first | (go_at_call 44; refine (rintS_any (bs_end (HBS.out.below (Below.refl _ w).drew) rfl)).mono ?_; rintro e w1 ⟨rfl, hb⟩))
      replace hb := bthen (Below.refl _ w).drew hb
      have hq : (intS (l.drop cc)).2.1 ≤ cc - cc := by have := int_pos (l.drop cc); rw [List.length_drop, HBS.out.len] at this; omega
      have hw1 : IntKind.i64.wrap ((cc : Int) + ((intS (l.drop cc)).2.1 : Int)) = (cc : Int) + ((intS (l.drop cc)).2.1 : Int) := IntWalk.i64_in _ (by omega)
      have d1 := (hb.cell (p := ⟨rb, 1, none⟩) hlt).trans c1
      have d2 := (hb.cell (p := ⟨rb, 2, none⟩) hlt).trans c2
      have g1 := (hb.frozen (p := ⟨rb, 1, none⟩) hlt).trans f1
      have g2 := (hb.frozen (p := ⟨rb, 2, none⟩) hlt).trans f2
      have HG := Lib.hid (GoE.ahead hb hlt (GoE.store (q := cc + (intS (l.drop cc)).2.1) (er' := (intS (l.drop cc)).2.2) d1 d2 ((cc : Int) + ((intS (l.drop cc)).2.1 : Int)) (by omega)))
      clear hb
      have hnv : nxV 0 intS l ⟨cc, 0⟩ = (intS (l.drop cc)).1 := by
        by_cases he : (intS (l.drop cc)).2.2 = 0
        · exact nxV_ok rfl he
        · rw [nxV_bad rfl he]; exact (zag_zero he).symm
      go_wp2_with fail
      go_ret
      exact ⟨congrArg (fun z => Ending.returned (.int .i64 z)) hnv.symm, HG.out⟩
    · have HS := Lib.hid (show ∀ w', Below w.heap.size w w' → w'.cell? ⟨rb, 0, none⟩ = some (.slice (some a) n cc) ∧ w'.cell? ⟨rb, 1, none⟩ = some (.int .i64 p) from fun w' hb => ⟨(hb.cell (p := ⟨rb, 0, none⟩) hlt).trans c0, (hb.cell (p := ⟨rb, 1, none⟩) hlt).trans c1⟩)
      go_enter Tryz.func20, Tryz.ntmps20
      go_wp2_with fail
      go_region_held3 (fun w' => w'.cell? ⟨rb, 0, none⟩ = some (.slice (some a) n cc) ∧ w'.cell? ⟨rb, 1, none⟩ = some (.int .i64 p)) (first | exact HS.out _ (Below.refl _ _).drew | exact HS.out _ (bthen (Below.refl _ _).drew (by assumption))) (first | (go_at_call 44; refine (rintS_any (bs_drop (HBS.out.below (Below.refl _ w).drew) hle)).mono ?_; rintro e w1 ⟨rfl, hb⟩))
      replace hb := bthen (Below.refl _ w).drew hb
      have hq : (intS (l.drop p)).2.1 ≤ n - p := by have := int_pos (l.drop p); rw [List.length_drop, HBS.out.len] at this; omega
      have hw1 : IntKind.i64.wrap ((p : Int) + ((intS (l.drop p)).2.1 : Int)) = (p : Int) + ((intS (l.drop p)).2.1 : Int) := IntWalk.i64_in _ (by omega)
      have d1 := (hb.cell (p := ⟨rb, 1, none⟩) hlt).trans c1
      have d2 := (hb.cell (p := ⟨rb, 2, none⟩) hlt).trans c2
      have g1 := (hb.frozen (p := ⟨rb, 1, none⟩) hlt).trans f1
      have g2 := (hb.frozen (p := ⟨rb, 2, none⟩) hlt).trans f2
      have HG := Lib.hid (GoE.ahead hb hlt (GoE.store (q := p + (intS (l.drop p)).2.1) (er' := (intS (l.drop p)).2.2) d1 d2 ((p : Int) + ((intS (l.drop p)).2.1 : Int)) (by omega)))
      clear hb
      have hnv : nxV 0 intS l ⟨p, 0⟩ = (intS (l.drop p)).1 := by
        by_cases he : (intS (l.drop p)).2.2 = 0
        · exact nxV_ok rfl he
        · rw [nxV_bad rfl he]; exact (zag_zero he).symm
      go_wp2_with fail
      go_ret
      exact ⟨congrArg (fun z => Ending.returned (.int .i64 z)) hnv.symm, HG.out⟩
  · rw [nxS_no hc, nxV_no hc]
    have he : (er != 0) = true := bne_iff_ne.2 hc
    go_enter Tryz.func20, Tryz.ntmps20
    go_wp2_with fail
    go_ret
    exact ⟨rfl, R0.out⟩
end Go.Proofs.YtaeophaecclnbaaGreatDoor

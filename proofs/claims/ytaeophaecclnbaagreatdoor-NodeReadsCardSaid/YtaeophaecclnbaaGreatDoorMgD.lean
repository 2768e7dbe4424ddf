/- Reading a value, walked. Reading a value of bytes, walked: what catches, and the door. Reading events, histories and questions of bytes, in plain Lean. No program in sight. Is a text a name? The program's function, walked. -/
import Derived.Test.YtaeophaecclnbaaGreatDoorMgC
import Derived.RegionTactic
import Derived.Test.YtaeophaecclnbaaGreatDoorMgB
import Derived.Test.YtaeophaecclnbaaGreatDoorMgA
import Derived.Test.YtaeophaecclnbaaGreatDoorBase
import Derived.Laws.Strings
namespace Go.Proofs.YtaeophaecclnbaaGreatDoor
open Go.RowKit

set_option maxRecDepth 100000 in
set_option maxHeartbeats 4000000 in
theorem value_any {w : World} {rb : Nat} {A : Option Addr} {n cc : Nat} {l : List UInt8} {p0 : Nat} (h : RD w rb A n cc l p0) (hn : (n : Int) ≤ 140737488351232) :
    Calls Tryz.prog 41 #[.pointer (some ⟨rb, 0, none⟩)] w (VPost l p0 rb w) := by
  have HI := Lib.hid infoNode
  have H := Lib.hid h
  have HL := Lib.hid h.len
  have LT := Lib.hid h.lt
  have hle := h.le
  have hlen : (l.drop p0).length = n - p0 := by rw [List.length_drop, HL.out]
  have G0 := Lib.hid (show GoB rb p0 w w from ⟨rfl, rfl, rfl, Nat.le_refl _, fun _ _ _ => rfl, rfl, h.c1, rfl⟩)
  obtain ⟨i0, hi, hz0, hz1, hz2⟩ := info_parts HI.out
  have HI0 := Lib.hid hi
  have HZ0 := Lib.hid hz0
  have HZ1 := Lib.hid hz1
  have HZ2 := Lib.hid hz2
  clear h hi hz0 hz1 hz2
  go_enter Tryz.func41, Tryz.ntmps41
  go_wp2_with fail
  go_loopw [3, 4, 5] (fun v s t wr => ∃ (p size : Nat) (todo : Int) (c : List Node), s = .int .i64 size ∧ t = .int .i64 todo ∧ Vl (l.drop p0) p size todo c ∧ wr.ownsRow w.heap.size 103 5 v c.length (nodeCells c) ∧ GoB rb (p0 + p) w wr) (fun v _ _ _ => 1025 - (lenV v))
  case atStart => exact ⟨0, 0, 1, [], rfl, rfl, Vl.start _, ⟨rfl, .inl ⟨rfl, rfl⟩⟩, G0.out⟩
  case round =>
    obtain ⟨p, size, todo, c, rfl, rfl, hv, hown, hg⟩ := hrel
    have HV := Lib.hid hv
    have HO := Lib.hid hown
    have HG := Lib.hid hg
    have t0 := hv.todo0
    have t1 := hv.todo1
    have cl := hv.le
    have sz := hv.sz
    have pos := hv.pos
    rw [hlen] at pos
    obtain ⟨A', cc', rfl⟩ := own_slice HO.out
    clear hv hown hg
    by_cases ht : todo ≤ 0
    · have R := Lib.hid (HV.out.done ht)
      go_wp2_with fail
      go_ret
      exact .inl ⟨by rw [R.out], A', cc', by rw [R.out]; rfl, by rw [R.out]; exact HO.out, by rw [R.out]; exact HG.out⟩
    · have HT := Lib.hid ht
      by_cases hp : n - p0 ≤ p
      · have R := Lib.hid (HV.out.short (by have := HT.out; omega) (by rw [hlen]; exact hp))
        go_wp2_with fail
        refine (next_end (HG.out.rd H.out (by omega)) (by omega) hn).mono ?_
        rintro e w2 ⟨rfl, g⟩
        refine ⟨rfl, .inr ⟨by rw [R.out]; show (4 : Int) ≠ 0; decide, ?_, _, HG.out.then g.b⟩⟩
        rw [R.out, hlen, show p0 + (n - p0) = n by omega]
      · go_wp2_with fail
        refine (next_some (HG.out.rd H.out (by omega)) (by omega) hn).mono ?_
        rintro e w2 ⟨rfl, g⟩
        have HG2 := Lib.hid (HG.out.then g.b)
        have HO2 := Lib.hid (own_go HO.out g.b LT.out)
        clear g
        by_cases hl : 1024 ≤ c.length ∨ 4096 ≤ size
        · have R := Lib.hid (HV.out.long (by have := HT.out; omega) (by rw [hlen]; exact hp) hl)
          have FA : ∀ (q e2 : Int) (w4 : World) (e : Ending) (w5 : World), q = ((p0 + p : Nat) : Int) → e2 = 2 → GoB rb (p0 + p + 1) w w4 → Fault q e2 w4 e w5 → ∃ chain, e = .panicked chain ∧ w4 = w5 ∧ VPost l p0 rb w (.panicked chain) w5 := fun q e2 w4 e w5 hq h2 hg hf => by
            obtain ⟨rfl, rfl⟩ := hf
            subst hq h2
            exact ⟨_, rfl, rfl, .inr ⟨by rw [R.out]; show (2 : Int) ≠ 0; decide, by rw [R.out], _, hg⟩⟩
          have rd := HG2.out.2.2.2.2.2.2.1
          have hrb : rb ≠ w2.heap.size := by have := LT.out; have := HG2.out.2.2.2.1; omega
          have hsc := store_cx
          have hlg : ((c.length : Int) == 1024) = decide (c.length = 1024) := by
            by_cases hq : c.length = 1024
            · rw [hq]; rfl
            · rw [decide_eq_false hq]; exact beq_eq_false_iff_ne.2 (by omega)
          by_cases hq : c.length = 1024
          · rw [decide_eq_true hq] at hlg
            go_wp2_with fail
            refine (fail_any _ _ _).mono ?_
            intro e w4 hf
            obtain ⟨ch, rfl, rfl, hv⟩ := FA _ _ _ e w4 (by omega) rfl HG2.out hf
            exact ⟨rfl, hv⟩
          · rw [decide_eq_false hq] at hlg
            have hs : 4096 < (size : Int) + 1 := by omega
            go_wp2_with fail
            refine (fail_any _ _ _).mono ?_
            intro e w4 hf
            obtain ⟨ch, rfl, rfl, hv⟩ := FA _ _ _ e w4 (by omega) rfl HG2.out hf
            exact ⟨rfl, hv⟩
        · have hlg : ((c.length : Int) == 1024) = false := beq_eq_false_iff_ne.2 (by omega)
          have hs : (size : Int) + 1 ≤ 4096 := by omega
          have rd := fun o => (cell_old w2 o rb 1 (Nat.lt_of_lt_of_le LT.out HG2.out.2.2.2.1)).trans HG2.out.2.2.2.2.2.2.1
          have hrb : rb ≠ w2.heap.size := by have := LT.out; have := HG2.out.2.2.2.1; omega
          have hsc := store_cx
          have hkb := byt_drop l p0 p
          have hk8 := byt_lt l (p0 + p)
          have HM := Lib.hid (show ∀ (x : Node) (a : Nat), nodeS (l.drop p0) p size = (x, a, 0) → Vl (l.drop p0) a (size + 1 + x.text.size) (todo - 1 + x.kids) (c ++ [x]) from fun x a h => by
            have := HV.out.more (by have := HT.out; omega) (by rw [hlen]; exact hp) hl (by rw [h])
            rw [h] at this
            exact this)
          have HBD := Lib.hid (show ∀ (a : Nat) (er : Int), nodeS (l.drop p0) p size = (zN, a, er) → er ≠ 0 → vlS (l.drop p0) = ([], a, er) from fun a er h he => by
            have := HV.out.bad (by have := HT.out; omega) (by rw [hlen]; exact hp) hl (by rw [h]; exact he)
            rw [h] at this
            exact this)
          have HG3 := Lib.hid (fun o => HG2.out.below LT.out ((Below.refl w2.heap.size w2).alloc (Nat.le_refl _) o))
          have LT2 := Lib.hid (Nat.lt_of_lt_of_le LT.out HG2.out.2.2.2.1)
          have HSZ := HG2.out.2.2.2.1
          have EN := Lib.hid (show numS ((l.drop p0).drop (p + 1)) = numS (l.drop (p0 + p + 1)) by rw [num_dropped, Nat.add_assoc])
          generalize hkk : byt l (p0 + p) = kb at *
          by_cases k0 : kb = 0
          · have NS := Lib.hid (node_none (size := size) (hkb.trans k0))
            subst k0
            clear hkb
            go_wp2_with (at_builtin; refine wpList_append_own _ rfl _ _ 23 rfl w.heap.size 103 i0 (.agg #[.int .u8 0, .int .i64 0, .int .i64 0, .string ⟨#[]⟩, .complex .f64 0 0]) 5 56 Tryz.underlying23 HI0.out HZ0.out HZ1.out HZ2.out rfl (by decide) _ c.length (nodeCells c) rfl ?own ⟨w2.heap.size + 1, 0, none⟩ 1 1 (Node.cells zN) rfl rfl ?c1 ?c2 ?c3 ?c4 ?c5 ?_)
            case own => exact own_ndb HO2.out (by go_grown)
            case c1 => exact cell_five_new _ _ _ _ _ _ _ _ (by first | rfl | simp)
            case c2 => intro u hu; simp [Node.cells] at hu; rcases hu with rfl | rfl | rfl | rfl | rfl <;> rfl
            case c3 => unfold maxLen; omega
            case c4 => omega
            case c5 => have := HG2.out.2.2.2.1; simp; omega
            intro v' w3 hown' hgrow _
            have M := Lib.hid (show Vl (l.drop p0) (p + 1) (size + 1) (todo - 1) (c ++ [zN]) by have := HM.out zN _ NS.out; rw [show todo - 1 = todo - 1 + zN.kids from (Int.add_zero _).symm]; exact this)
            have HBW := Lib.hid (GoB.grown (HG2.out.below LT.out (show Below w2.heap.size w2 _ by go_grown)) LT.out hgrow (Nat.le_refl _) (fun k e => own_base HO2.out e))
            have LV := Lib.hid (own_len hown')
            go_wp2_with fail
            go_roundw
            case rel => exact ⟨p + 1, size + 1, todo - 1, c ++ [zN], by go_num, by go_num, M.out, by rw [nodeCells_snoc, List.length_append]; exact hown', gob_eq HBW.out (by omega)⟩
            case measure =>
              show 1025 - lenV v' < 1025 - c.length
              rw [LV.out]; omega
          · by_cases k2 : kb = 2
            · subst k2
              go_wp2_with fail
              refine (whole_any ((HG3.out _).rd H.out (by omega)) hn).mono ?_
              rintro e w4 (⟨hz, rfl, hq, g⟩ | ⟨hz, rfl, q, g⟩)
              · have NS := Lib.hid (node_int_ok (size := size) hkb (by rw [EN.out]; exact hz))
                rw [EN.out] at NS
                have GG := Lib.hid g.b
                obtain ⟨⟨y0, y1, y2, y3, y4⟩, yf, ys⟩ := five LT2.out GG.out
                have z1 := yf 1
                have z2 := yf 2
                have z3 := yf 3
                have z4 := yf 4
                have HG4 := Lib.hid ((HG3.out _).then GG.out)
                have HQ := Lib.hid hq
                clear yf g hkb rd hz hq
                generalize hnn : numS (l.drop (p0 + p + 1)) = nn at *
                go_wp2_with (at_builtin; refine wpList_append_own _ rfl _ _ 23 rfl w.heap.size 103 i0 (.agg #[.int .u8 0, .int .i64 0, .int .i64 0, .string ⟨#[]⟩, .complex .f64 0 0]) 5 56 Tryz.underlying23 HI0.out HZ0.out HZ1.out HZ2.out rfl (by decide) _ c.length (nodeCells c) rfl ?own ⟨w4.heap.size, 0, none⟩ 1 1 (Node.cells ⟨2, 0, zagI nn.1, ⟨#[]⟩, 0, 0⟩) rfl rfl ?c1 ?c2 ?c3 ?c4 ?c5 ?_)
                case own => exact own_trip HO2.out LT.out GG.out (by go_grown)
                case c1 => exact cell_five_new _ _ _ _ _ _ _ _ (by first | rfl | simp)
                case c2 => intro u hu; simp [Node.cells] at hu; rcases hu with rfl | rfl | rfl | rfl | rfl <;> rfl
                case c3 => unfold maxLen; omega
                case c4 => omega
                case c5 => have := HG2.out.2.2.2.1; simp; omega
                intro v' w3 hown' hgrow _
                have M := Lib.hid (show Vl (l.drop p0) (p + 1 + nn.2.1) (size + 1) (todo - 1) (c ++ [⟨2, 0, zagI nn.1, ⟨#[]⟩, 0, 0⟩]) by have := HM.out _ _ NS.out; rw [show todo - 1 = todo - 1 + 0 from (Int.add_zero _).symm]; exact this)
                have HBW := Lib.hid (GoB.grown (HG4.out.behind LT.out (Nat.le_refl _) (by go_grown)) LT.out hgrow (Nat.le_refl _) (fun k e => own_base HO2.out e))
                have LV := Lib.hid (own_len hown')
                go_wp2_with fail
                go_roundw
                case rel => exact ⟨p + 1 + nn.2.1, size + 1, todo - 1, c ++ [⟨2, 0, zagI nn.1, ⟨#[]⟩, 0, 0⟩], by go_num, by go_num, M.out, by rw [nodeCells_snoc, List.length_append]; exact hown', gob_eq HBW.out (by omega)⟩
                case measure =>
                  show 1025 - lenV v' < 1025 - c.length
                  rw [LV.out]; omega
              · have NS := Lib.hid (node_int_bad (size := size) hkb (by rw [EN.out]; exact hz))
                rw [EN.out] at NS
                exact ⟨rfl, VPost.bad (HBD.out _ _ NS.out hz) hz (by omega) ((HG3.out _).then g.b)⟩
            · by_cases k4 : kb = 4
              · subst k4
                go_wp2_with fail
                refine (num_any ((HG3.out _).rd H.out (by omega)) hn).mono ?_
                rintro e w4 (⟨hz, rfl, q, g⟩ | ⟨hz, hf, rfl, q, g⟩ | ⟨hz, hf, rfl, g⟩)
                · exact ⟨rfl, VPost.bad (HBD.out _ _ (node_num_short hkb (by rw [hlen]; have := HL.out; omega)) (by decide)) (by decide) (by rw [hlen, HL.out]; omega) ((HG3.out _).then g)⟩
                · exact ⟨rfl, VPost.bad (HBD.out _ _ (node_num_bad hkb (by rw [hlen]; have := HL.out; omega) (by rw [beN_drop, beN_drop, ← Nat.add_assoc, ← Nat.add_assoc, ← Nat.add_assoc]; exact hf)) (by decide)) (by decide) (by omega) ((HG3.out _).then g)⟩
                · have NS := Lib.hid (node_num_ok (size := size) hkb (by rw [hlen]; have := HL.out; omega) (by rw [beN_drop, beN_drop, ← Nat.add_assoc, ← Nat.add_assoc, ← Nat.add_assoc]; exact hf))
                  rw [beN_drop, beN_drop, ← Nat.add_assoc, ← Nat.add_assoc, ← Nat.add_assoc] at NS
                  have GG := Lib.hid (g)
                  obtain ⟨⟨y0, y1, y2, y3, y4⟩, yf, ys⟩ := five LT2.out GG.out
                  have z1 := yf 1
                  have z2 := yf 2
                  have z3 := yf 3
                  have z4 := yf 4
                  have HG4 := Lib.hid ((HG3.out _).then GG.out)
                  clear yf
                  clear g hkb rd hz hf
                  generalize hxx : beN l (p0 + p + 1) 8 = xx at *
                  generalize hyy : beN l (p0 + p + 1 + 8) 8 = yy at *
                  go_wp2_with (at_builtin; refine wpList_append_own _ rfl _ _ 23 rfl w.heap.size 103 i0 (.agg #[.int .u8 0, .int .i64 0, .int .i64 0, .string ⟨#[]⟩, .complex .f64 0 0]) 5 56 Tryz.underlying23 HI0.out HZ0.out HZ1.out HZ2.out rfl (by decide) _ c.length (nodeCells c) rfl ?own ⟨w4.heap.size, 0, none⟩ 1 1 (Node.cells ⟨4, 0, 0, ⟨#[]⟩, xx, yy⟩) rfl rfl ?c1 ?c2 ?c3 ?c4 ?c5 ?_)
                  case own => exact own_trip HO2.out LT.out GG.out (by go_grown)
                  case c1 => exact cell_five_new _ _ _ _ _ _ _ _ (by first | rfl | simp)
                  case c2 => intro u hu; simp [Node.cells] at hu; rcases hu with rfl | rfl | rfl | rfl | rfl <;> rfl
                  case c3 => unfold maxLen; omega
                  case c4 => omega
                  case c5 => have := HG2.out.2.2.2.1; simp; omega
                  intro v' w3 hown' hgrow _
                  have M := Lib.hid (show Vl (l.drop p0) (p + 1 + 16) (size + 1) (todo - 1) (c ++ [⟨4, 0, 0, ⟨#[]⟩, xx, yy⟩]) by have := HM.out _ _ NS.out; rw [show todo - 1 = todo - 1 + 0 from (Int.add_zero _).symm]; exact this)
                  have HBW := Lib.hid (GoB.grown (HG4.out.behind LT.out (Nat.le_refl _) (by go_grown)) LT.out hgrow (Nat.le_refl _) (fun k e => own_base HO2.out e))
                  have LV := Lib.hid (own_len hown')
                  go_wp2_with fail
                  go_roundw
                  case rel => exact ⟨p + 1 + 16, size + 1, todo - 1, c ++ [⟨4, 0, 0, ⟨#[]⟩, xx, yy⟩], by go_num, by go_num, M.out, by rw [nodeCells_snoc, List.length_append]; exact hown', gob_eq HBW.out (by omega)⟩
                  case measure =>
                    show 1025 - lenV v' < 1025 - c.length
                    rw [LV.out]; omega
              · have EB := Lib.hid (show byt (l.drop p0) (p + 1) = byt l (p0 + p + 1) by rw [byt_drop, Nat.add_assoc])
                by_cases k1 : kb = 1
                · subst k1
                  by_cases hpe : p0 + p + 1 = n
                  · go_wp2_with fail
                    refine (next_end ((HG3.out _).rd H.out (by omega)) hpe hn).mono ?_
                    rintro e w4 ⟨rfl, g⟩
                    exact ⟨rfl, VPost.bad (HBD.out _ _ (node_bool_short hkb (by rw [hlen]; omega)) (by decide)) (by decide) (by rw [hlen]; omega) ((HG3.out _).then g.b)⟩
                  · go_wp2_with fail
                    refine (next_some ((HG3.out _).rd H.out (by omega)) (by omega) hn).mono ?_
                    rintro e w4 ⟨rfl, g⟩
                    have GG := Lib.hid (g.b)
                    obtain ⟨⟨y0, y1, y2, y3, y4⟩, yf, ys⟩ := five LT2.out GG.out
                    have z1 := yf 1
                    have z2 := yf 2
                    have z3 := yf 3
                    have z4 := yf 4
                    have HG4 := Lib.hid ((HG3.out _).then GG.out)
                    clear yf
                    clear g
                    have hb8 := byt_lt l (p0 + p + 1)
                    by_cases hb1 : 1 < byt l (p0 + p + 1)
                    · have NS := Lib.hid (node_bool_bad (size := size) hkb (by rw [hlen]; omega) (by rw [EB.out]; exact hb1))
                      generalize byt l (p0 + p + 1) = bb at *
                      clear hkb
                      go_wp2_with fail
                      refine (fail_any _ _ _).mono ?_
                      rintro e w5 ⟨rfl, rfl⟩
                      exact ⟨rfl, VPost.bad (HBD.out _ _ NS.out (by decide)) (by decide) (by omega) (HG4.out.behind LT.out (Nat.le_refl _) (by go_grown))⟩
                    · have NS := Lib.hid (node_bool_ok (size := size) hkb (by rw [hlen]; omega) (by rw [EB.out]; exact hb1))
                      rw [EB.out] at NS
                      generalize byt l (p0 + p + 1) = bb at *
                      clear hkb
                      go_wp2_with (at_builtin; refine wpList_append_own _ rfl _ _ 23 rfl w.heap.size 103 i0 (.agg #[.int .u8 0, .int .i64 0, .int .i64 0, .string ⟨#[]⟩, .complex .f64 0 0]) 5 56 Tryz.underlying23 HI0.out HZ0.out HZ1.out HZ2.out rfl (by decide) _ c.length (nodeCells c) rfl ?own ⟨w4.heap.size, 0, none⟩ 1 1 (Node.cells ⟨1, 0, (bb : Int), ⟨#[]⟩, 0, 0⟩) rfl rfl ?c1 ?c2 ?c3 ?c4 ?c5 ?_)
                      case own => exact own_trip HO2.out LT.out GG.out (by go_grown)
                      case c1 => exact cell_five_new _ _ _ _ _ _ _ _ (by first | rfl | simp)
                      case c2 => intro u hu; simp [Node.cells] at hu; rcases hu with rfl | rfl | rfl | rfl | rfl <;> rfl
                      case c3 => unfold maxLen; omega
                      case c4 => omega
                      case c5 => have := HG2.out.2.2.2.1; simp; omega
                      intro v' w3 hown' hgrow _
                      have M := Lib.hid (show Vl (l.drop p0) (p + 1 + 1) (size + 1) (todo - 1) (c ++ [⟨1, 0, (bb : Int), ⟨#[]⟩, 0, 0⟩]) by have := HM.out _ _ NS.out; rw [show todo - 1 = todo - 1 + 0 from (Int.add_zero _).symm]; exact this)
                      have HBW := Lib.hid (GoB.grown (HG4.out.behind LT.out (Nat.le_refl _) (by go_grown)) LT.out hgrow (Nat.le_refl _) (fun k e => own_base HO2.out e))
                      have LV := Lib.hid (own_len hown')
                      go_wp2_with fail
                      go_roundw
                      case rel => exact ⟨p + 1 + 1, size + 1, todo - 1, c ++ [⟨1, 0, (bb : Int), ⟨#[]⟩, 0, 0⟩], by go_num, by go_num, M.out, by rw [nodeCells_snoc, List.length_append]; exact hown', gob_eq HBW.out (by omega)⟩
                      case measure =>
                        show 1025 - lenV v' < 1025 - c.length
                        rw [LV.out]; omega
                · by_cases k5 : kb = 5
                  · subst k5
                    go_wp2_with fail
                    refine (number_any ((HG3.out _).rd H.out (by omega)) hn).mono ?_
                    rintro e w4 (⟨hz, rfl, hq, g⟩ | ⟨hz, rfl, q, g⟩)
                    · have GG := Lib.hid (g.b)
                      obtain ⟨⟨y0, y1, y2, y3, y4⟩, yf, ys⟩ := five LT2.out GG.out
                      have z1 := yf 1
                      have z2 := yf 2
                      have z3 := yf 3
                      have z4 := yf 4
                      have HG4 := Lib.hid ((HG3.out _).then GG.out)
                      clear yf
                      have HQ := Lib.hid hq
                      by_cases hbig : 1024 < (numS (l.drop (p0 + p + 1))).1
                      · have NS := Lib.hid (node_list_long (size := size) hkb (by rw [EN.out]; exact hz) (by rw [EN.out]; exact hbig))
                        clear g hkb rd hz hq
                        have hlt64 := num_lt (l.drop (p0 + p + 1))
                        generalize hnn : numS (l.drop (p0 + p + 1)) = nn at *
                        go_wp2_with fail
                        refine (fail_any _ _ _).mono ?_
                        rintro e w5 ⟨rfl, rfl⟩
                        exact ⟨rfl, VPost.bad (HBD.out _ _ NS.out (by decide)) (by decide) (by omega) (HG4.out.behind LT.out (Nat.le_refl _) (by go_grown))⟩
                      · have NS := Lib.hid (node_list_ok (size := size) hkb (by rw [EN.out]; exact hz) (by rw [EN.out]; exact hbig))
                        rw [EN.out] at NS
                        clear g hkb rd hz hq
                        generalize hnn : numS (l.drop (p0 + p + 1)) = nn at *
                        go_wp2_with (at_builtin; refine wpList_append_own _ rfl _ _ 23 rfl w.heap.size 103 i0 (.agg #[.int .u8 0, .int .i64 0, .int .i64 0, .string ⟨#[]⟩, .complex .f64 0 0]) 5 56 Tryz.underlying23 HI0.out HZ0.out HZ1.out HZ2.out rfl (by decide) _ c.length (nodeCells c) rfl ?own ⟨w4.heap.size, 0, none⟩ 1 1 (Node.cells ⟨5, (nn.1 : Int), 0, ⟨#[]⟩, 0, 0⟩) rfl rfl ?c1 ?c2 ?c3 ?c4 ?c5 ?_)
                        case own => exact own_trip HO2.out LT.out GG.out (by go_grown)
                        case c1 => exact cell_five_new _ _ _ _ _ _ _ _ (by first | rfl | simp)
                        case c2 => intro u hu; simp [Node.cells] at hu; rcases hu with rfl | rfl | rfl | rfl | rfl <;> rfl
                        case c3 => unfold maxLen; omega
                        case c4 => omega
                        case c5 => have := HG2.out.2.2.2.1; simp; omega
                        intro v' w3 hown' hgrow _
                        have M := Lib.hid (show Vl (l.drop p0) (p + 1 + nn.2.1) (size + 1) (todo - 1 + (nn.1 : Int)) (c ++ [⟨5, (nn.1 : Int), 0, ⟨#[]⟩, 0, 0⟩]) by have := HM.out _ _ NS.out; exact this)
                        have HBW := Lib.hid (GoB.grown (HG4.out.behind LT.out (Nat.le_refl _) (by go_grown)) LT.out hgrow (Nat.le_refl _) (fun k e => own_base HO2.out e))
                        have LV := Lib.hid (own_len hown')
                        go_wp2_with fail
                        go_roundw
                        case rel => exact ⟨p + 1 + nn.2.1, size + 1, todo - 1 + (nn.1 : Int), c ++ [⟨5, (nn.1 : Int), 0, ⟨#[]⟩, 0, 0⟩], by go_num, by go_num, M.out, by rw [nodeCells_snoc, List.length_append]; exact hown', gob_eq HBW.out (by omega)⟩
                        case measure =>
                          show 1025 - lenV v' < 1025 - c.length
                          rw [LV.out]; omega
                    · have NS := Lib.hid (node_list_bad (size := size) hkb (by rw [EN.out]; exact hz))
                      rw [EN.out] at NS
                      exact ⟨rfl, VPost.bad (HBD.out _ _ NS.out hz) hz (by omega) ((HG3.out _).then g.b)⟩
                  · by_cases k3 : kb = 3
                    · subst k3
                      have ET := Lib.hid (show textS ((l.drop p0).drop (p + 1)) = textS (l.drop (p0 + p + 1)) by rw [text_dropped, Nat.add_assoc])
                      go_wp2_with fail
                      refine (number_any ((HG3.out _).rd H.out (by omega)) hn).mono ?_
                      rintro e w4 (⟨hz, rfl, hq, g⟩ | ⟨hz, rfl, q, g⟩)
                      · have GG := Lib.hid (g.b)
                        obtain ⟨⟨y0, y1, y2, y3, y4⟩, yf, ys⟩ := five LT2.out GG.out
                        have z1 := yf 1
                        have z2 := yf 2
                        have z3 := yf 3
                        have z4 := yf 4
                        have HG4 := Lib.hid ((HG3.out _).then GG.out)
                        clear yf
                        have HQ := Lib.hid (show p0 + p + 1 + (numS (l.drop (p0 + p + 1))).2.1 ≤ n by rw [← HL.out]; exact hq)
                        have HQ2 := HQ.out
                        by_cases hbig : 4095 - size < (numS (l.drop (p0 + p + 1))).1
                        · have NS := Lib.hid (node_text_long (size := size) hkb (by rw [EN.out]; exact hz) (by rw [EN.out]; exact hbig))
                          clear g hkb rd hz hq
                          have hlt64 := num_lt (l.drop (p0 + p + 1))
                          generalize hnn : numS (l.drop (p0 + p + 1)) = nn at *
                          go_wp2_with fail
                          refine (fail_any _ _ _).mono ?_
                          rintro e w5 ⟨rfl, rfl⟩
                          exact ⟨rfl, VPost.bad (HBD.out _ _ NS.out (by decide)) (by decide) (by omega) (HG4.out.behind LT.out (Nat.le_refl _) (by go_grown))⟩
                        · have HZ := Lib.hid hz
                          have HBG := Lib.hid hbig
                          have HKB := Lib.hid hkb
                          have RD4 := Lib.hid (HG4.out.rd H.out HQ.out)
                          have DR := Lib.hid (show (l.drop (p0 + p + 1)).drop (numS (l.drop (p0 + p + 1))).2.1 = l.drop (p0 + p + 1 + (numS (l.drop (p0 + p + 1))).2.1) by rw [List.drop_drop])
                          have DL := Lib.hid (show (l.drop (p0 + p + 1)).length = n - (p0 + p + 1) by rw [List.length_drop, HL.out])
                          clear g hkb rd hz hq
                          by_cases hsh : n - (p0 + p + 1 + (numS (l.drop (p0 + p + 1))).2.1) < (numS (l.drop (p0 + p + 1))).1
                          · have TS := Lib.hid (text_short HZ.out (show (l.drop (p0 + p + 1)).length - (numS (l.drop (p0 + p + 1))).2.1 < (numS (l.drop (p0 + p + 1))).1 by rw [DL.out]; omega))
                            have NS := Lib.hid (node_text_short (size := size) HKB.out (by rw [EN.out]; exact HZ.out) (by rw [EN.out]; exact HBG.out) (by rw [ET.out, TS.out]; show (4 : Int) ≠ 0; decide))
                            rw [ET.out, TS.out, DL.out] at NS
                            generalize hnn : numS (l.drop (p0 + p + 1)) = nn at *
                            go_wp2_with fail
                            refine (bytes_no RD4.out hn _ hsh).mono ?_
                            rintro e w5 ⟨rfl, g⟩
                            exact ⟨rfl, VPost.bad (HBD.out _ _ NS.out (by decide)) (by decide) (by omega) (HG4.out.then g.b)⟩
                          · have TS := Lib.hid (text_good HZ.out (show ¬ (l.drop (p0 + p + 1)).length - (numS (l.drop (p0 + p + 1))).2.1 < (numS (l.drop (p0 + p + 1))).1 by rw [DL.out]; omega))
                            have NS := Lib.hid (node_text_ok (size := size) HKB.out (by rw [EN.out]; exact HZ.out) (by rw [EN.out]; exact HBG.out) (by rw [ET.out, TS.out]))
                            rw [ET.out, TS.out, DR.out] at NS
                            have SZ := (show (strB ((l.drop (p0 + p + 1 + (numS (l.drop (p0 + p + 1))).2.1)).take (numS (l.drop (p0 + p + 1))).1)).size = (numS (l.drop (p0 + p + 1))).1 by
                              show List.length _ = _
                              rw [List.length_take, List.length_drop, HL.out]; omega)
                            have CB := Lib.hid (bytes_ok RD4.out hn (numS (l.drop (p0 + p + 1))).1 (by omega))
                            generalize hnn : numS (l.drop (p0 + p + 1)) = nn at *
                            generalize hst : strB ((l.drop (p0 + p + 1 + nn.2.1)).take nn.1) = S at *
                            go_wp2_with fail
                            refine CB.out.mono ?_
                            rintro e w5 ⟨rfl, g⟩
                            have GX := Lib.hid (GG.out.then g.b)
                            obtain ⟨⟨x0, x1, x2, x3, x4⟩, xf, xs⟩ := five LT2.out GX.out
                            have v1 := xf 1
                            have v2 := xf 2
                            have v3 := xf 3
                            have v4 := xf 4
                            have HG5 := Lib.hid ((HG3.out _).then GX.out)
                            clear xf g y0 y1 y2 y3 y4 z1 z2 z3 z4
                            go_wp2_with (at_builtin; refine wpList_append_own _ rfl _ _ 23 rfl w.heap.size 103 i0 (.agg #[.int .u8 0, .int .i64 0, .int .i64 0, .string ⟨#[]⟩, .complex .f64 0 0]) 5 56 Tryz.underlying23 HI0.out HZ0.out HZ1.out HZ2.out rfl (by decide) _ c.length (nodeCells c) rfl ?own ⟨w5.heap.size, 0, none⟩ 1 1 (Node.cells ⟨3, 0, 0, S, 0, 0⟩) rfl rfl ?c1 ?c2 ?c3 ?c4 ?c5 ?_)
                            case own => exact own_trip HO2.out LT.out GX.out (by go_grown)
                            case c1 => exact cell_five_new _ _ _ _ _ _ _ _ (by first | rfl | simp)
                            case c2 => intro u hu; simp [Node.cells] at hu; rcases hu with rfl | rfl | rfl | rfl | rfl <;> rfl
                            case c3 => unfold maxLen; omega
                            case c4 => omega
                            case c5 => have := HG2.out.2.2.2.1; simp; omega
                            intro v' w3 hown' hgrow _
                            have M := Lib.hid (show Vl (l.drop p0) (p + 1 + (nn.2.1 + nn.1)) (size + 1 + S.size) (todo - 1) (c ++ [⟨3, 0, 0, S, 0, 0⟩]) by have := HM.out _ _ NS.out; rw [show todo - 1 = todo - 1 + 0 from (Int.add_zero _).symm]; exact this)
                            have HBW := Lib.hid (GoB.grown (HG5.out.behind LT.out (Nat.le_refl _) (by go_grown)) LT.out hgrow (Nat.le_refl _) (fun k e => own_base HO2.out e))
                            have LV := Lib.hid (own_len hown')
                            go_wp2_with fail
                            go_roundw
                            case rel => exact ⟨p + 1 + (nn.2.1 + nn.1), size + 1 + S.size, todo - 1, c ++ [⟨3, 0, 0, S, 0, 0⟩], by go_num, by go_num, M.out, by rw [nodeCells_snoc, List.length_append]; exact hown', gob_eq HBW.out (by omega)⟩
                            case measure =>
                              show 1025 - lenV v' < 1025 - c.length
                              rw [LV.out]; omega
                      · have NS := Lib.hid (node_text_bad (size := size) hkb (by rw [EN.out]; exact hz))
                        rw [EN.out] at NS
                        exact ⟨rfl, VPost.bad (HBD.out _ _ NS.out hz) hz (by omega) ((HG3.out _).then g.b)⟩
                    · have NS := Lib.hid (node_other (size := size) (show 5 < byt (l.drop p0) p by omega))
                      clear hkb
                      go_wp2_with fail
                      refine (fail_any _ _ _).mono ?_
                      rintro e w5 ⟨rfl, rfl⟩
                      exact ⟨rfl, VPost.bad (HBD.out _ _ NS.out (by decide)) (by decide) (by omega) (HG2.out.below LT.out (show Below w2.heap.size w2 _ by go_grown))⟩
end Go.Proofs.YtaeophaecclnbaaGreatDoor
namespace Go.Proofs.YtaeophaecclnbaaGreatDoor
open Go.RowKit

theorem gob_cell {w w' : World} {rb q : Nat} (g : GoB rb q w w') {k : Nat} (hk : k ≠ rb) (hl : k < w.heap.size) (o : Nat) : w'.cell? ⟨k, o, none⟩ = w.cell? ⟨k, o, none⟩ := World.cell?_of_block (a := ⟨k, o, none⟩) (g.2.2.2.2.1 k hl hk)
theorem gob_frozen {w w' : World} {rb q : Nat} (g : GoB rb q w w') {k : Nat} (hk : k ≠ rb) (hl : k < w.heap.size) (o : Nat) : w'.frozen? ⟨k, o, none⟩ = w.frozen? ⟨k, o, none⟩ := World.frozen?_of_block (a := ⟨k, o, none⟩) (g.2.2.2.2.1 k hl hk)
theorem gob_below {w w' : World} {rb q : Nat} (g : GoB rb q w w') {B : Nat} (h : B ≤ rb) (hl : B ≤ w.heap.size) : Below B w w' := ⟨g.1, g.2.1, g.2.2.1, g.2.2.2.1, fun k hk => g.2.2.2.2.1 k (by omega) (by omega)⟩
/-- What reading a value of bytes answers. -/
def VRet (l : List UInt8) (w : World) (e : Ending) (w' : World) : Prop :=
  ∃ A cc, e = .returned (.tuple #[.slice A (vlS l).1.length cc, .int .i64 ((vlS l).2.1 : Int), .int .i64 (vlS l).2.2]) ∧ NodesIn w' A (vlS l).1 ∧ Far w.heap.size A (vlS l).1.length ∧ Below w.heap.size w w'
set_option maxRecDepth 100000 in
set_option maxHeartbeats 2000000 in
theorem read_value {w : World} {A : Option Addr} {n cc : Nat} {l : List UInt8} (h : BS w A n cc l) :
    Calls Tryz.prog 40 #[.slice A n cc, .func (.func 41) #[] #[]] w (VRet l w) := by
  have hmf : ∀ (fn : Fn) (first cap : Array Value) (w : World), (Instr.makeFunc fn first cap).run Tryz.prog w = .ok (.func fn first cap) w := fun _ _ _ _ => rfl
  have H := Lib.hid h
  clear h
  go_enter_defers Tryz.func40, Tryz.ntmps40
  go_wp2_with fail
  have hB : Below w.heap.size w ((((w.alloc (.cells #[.slice none 0 0] 23)).alloc (.cells #[.int .i64 0] 3)).alloc (.cells #[.int .i64 0] 27)).alloc (.cells #[.slice A n cc, .int .i64 0] 146)) :=
    ((((Below.refl _ w).alloc (Nat.le_refl _) _).alloc (by simp) _).alloc (by simp; omega) _).alloc (by simp; omega) _
  have F := four w (.slice none 0 0) (.int .i64 0) (.int .i64 0) (.slice A n cc) (.int .i64 0) 23 3 27 146 _ rfl
  have hrd : RD ((((w.alloc (.cells #[.slice none 0 0] 23)).alloc (.cells #[.int .i64 0] 3)).alloc (.cells #[.int .i64 0] 27)).alloc (.cells #[.slice A n cc, .int .i64 0] 146)) (w.heap.size + 1 + 1 + 1) A n cc l 0 := {
    c0 := F.2.2.2.1
    c1 := F.2.2.2.2.1
    fz := F.2.2.2.2.2.2.2.2
    len := H.out.len
    le := Nat.zero_le _
    bytes := H.out.bytes.keep hB
    ne := fun hn b off e => by
      obtain ⟨b', off', e', hlt, _⟩ := H.out.bytes hn
      rw [e'] at e
      injection e with e
      injection e with e1 _ _
      omega
    lt := by simp
    cap := H.out.cap
    capb := H.out.capb
    nil := H.out.nil }
  refine (value_any hrd H.out.small).mono ?_
  unfold VPost
  simp only [List.drop_zero, Nat.zero_add]
  rintro e w5 (⟨h1, A', cc', rfl, ho, h4⟩ | ⟨h1, rfl, q, h4⟩)
  · have r0 := (gob_cell h4 (k := w.heap.size) (by omega) (by simp <;> omega) 0).trans F.1
    have r1 := (gob_cell h4 (k := w.heap.size + 1) (by omega) (by simp <;> omega) 0).trans F.2.1
    have r2 := (gob_cell h4 (k := w.heap.size + 1 + 1) (by omega) (by simp <;> omega) 0).trans F.2.2.1
    have f0 := (gob_frozen h4 (k := w.heap.size) (by omega) (by simp <;> omega) 0).trans F.2.2.2.2.2.1
    have f1 := (gob_frozen h4 (k := w.heap.size + 1) (by omega) (by simp <;> omega) 0).trans F.2.2.2.2.2.2.1
    have f2 := (gob_frozen h4 (k := w.heap.size + 1 + 1) (by omega) (by simp <;> omega) 0).trans F.2.2.2.2.2.2.2.1
    have p1 := h4.2.2.2.2.2.2.1
    have HG := Lib.hid h4
    have hsz : w.heap.size + 1 + 1 + 1 < w5.heap.size := by have := h4.2.2.2.1; simp at this; omega
    have HB := Lib.hid (hB.trans (gob_below h4 (B := w.heap.size) (by omega) (by simp; omega)))
    have HO := Lib.hid ho
    clear ho h4 hrd hB F
    go_wp2_with fail
    go_region
    go_wp2_with fail
    have CP : CaughtP w.heap.size (w.heap.size + 1) (w.heap.size + 1 + 1) (.slice A' (vlS l).1.length cc') ((vlS l).2.1 : Int) 0 w5 ((((w5.setCell ⟨w.heap.size, 0, none⟩ (.slice A' (vlS l).1.length cc')).setCell ⟨w.heap.size, 0, none⟩ (.slice A' (vlS l).1.length cc')).setCell ⟨w.heap.size + 1, 0, none⟩ (.int .i64 ((vlS l).2.1 : Int))).setCell ⟨w.heap.size + 1 + 1, 0, none⟩ (.int .i64 0)).drew := by
      exact cpost_two r0 r1 r2 (by omega) (by omega) (by omega) _ _ _ _
    generalize ((((w5.setCell ⟨w.heap.size, 0, none⟩ (.slice A' (vlS l).1.length cc')).setCell ⟨w.heap.size, 0, none⟩ (.slice A' (vlS l).1.length cc')).setCell ⟨w.heap.size + 1, 0, none⟩ (.int .i64 ((vlS l).2.1 : Int))).setCell ⟨w.heap.size + 1 + 1, 0, none⟩ (.int .i64 0)).drew = W6 at *
    obtain ⟨g1, g2, g3, g4, g5, g6, g7, g8⟩ := CP
    refine leaves_cons (f := 68) (args := #[.pointer (some ⟨w.heap.size, 0, none⟩), .pointer (some ⟨w.heap.size + 1, 0, none⟩), .pointer (some ⟨w.heap.size + 1 + 1, 0, none⟩)]) (by simp) (by simp [go_sem]) ?_
    refine (catch_r_value _ _ _ _).mono ?_
    rintro e u' w'' ⟨rfl, rfl, rfl⟩
    have d0 := (cell_old W6 (.cells #[.int .i64 0, .int .i64 0] 143) w.heap.size 0 (by omega)).trans g6
    have d1 := (cell_old W6 (.cells #[.int .i64 0, .int .i64 0] 143) (w.heap.size + 1) 0 (by omega)).trans g7
    have d2 := (cell_old W6 (.cells #[.int .i64 0, .int .i64 0] 143) (w.heap.size + 1 + 1) 0 (by omega)).trans g8
    have BB : Below w.heap.size w5 W6 := ⟨g1, g2, g3, g4, fun k hk => g5 k (by omega) (by omega) (by omega) (by omega)⟩
    have PF := Lib.hid (show VRet l w (.returned (.tuple #[.slice A' (vlS l).1.length cc', .int .i64 ((vlS l).2.1 : Int), .int .i64 0])) (W6.alloc (.cells #[.int .i64 0, .int .i64 0] 143)) from ⟨A', cc', by rw [h1], own_nodes (own_kept HO.out (w' := W6.alloc _) (fun k hk hl => (((Below.refl W6.heap.size W6).alloc (Nat.le_refl _) _).block k (by omega)).trans (g5 k (by simp at hk; omega) (by simp at hk; omega) (by simp at hk; omega) (by simp at hk; omega)))) rfl, own_far HO.out (by simp; omega), (HB.out.trans BB).alloc (by omega) _⟩)
    clear g1 g2 g3 g4 g5 g6 g7 g8 h1
    simp [Leaves, settle, results, Tryz.results40, go_sem, d0, d1, d2]
    exact PF.out
  · have r0 := (gob_cell h4 (k := w.heap.size) (by omega) (by simp <;> omega) 0).trans F.1
    have r1 := (gob_cell h4 (k := w.heap.size + 1) (by omega) (by simp <;> omega) 0).trans F.2.1
    have r2 := (gob_cell h4 (k := w.heap.size + 1 + 1) (by omega) (by simp <;> omega) 0).trans F.2.2.1
    have f0 := (gob_frozen h4 (k := w.heap.size) (by omega) (by simp <;> omega) 0).trans F.2.2.2.2.2.1
    have f1 := (gob_frozen h4 (k := w.heap.size + 1) (by omega) (by simp <;> omega) 0).trans F.2.2.2.2.2.2.1
    have f2 := (gob_frozen h4 (k := w.heap.size + 1 + 1) (by omega) (by simp <;> omega) 0).trans F.2.2.2.2.2.2.2.1
    have HB := Lib.hid (hB.trans (gob_below h4 (B := w.heap.size) (by omega) (by simp; omega)))
    have hsz : w.heap.size + 1 + 1 + 1 < w5.heap.size := by have := h4.2.2.2.1; simp at this; omega
    clear h4 hrd hB F
    refine leaves_cons (f := 68) (args := #[.pointer (some ⟨w.heap.size, 0, none⟩), .pointer (some ⟨w.heap.size + 1, 0, none⟩), .pointer (some ⟨w.heap.size + 1 + 1, 0, none⟩)]) (by simp) (by simp [go_sem]) ?_
    refine (catch_p_value _ _ _ (by omega) (by omega) (by omega) _ _ [] _ _ _ _ r0 r1 r2 f0 f1 f2).mono ?_
    rintro e u' w'' ⟨rfl, rfl, g1, g2, g3, g4, g5, g6, g7, g8⟩
    have BB : Below w.heap.size w5 w'' := ⟨g1, g2, g3, by omega, fun k hk => g5 k (by omega) (by omega) (by omega) (by omega)⟩
    have Z := (valR l).none h1
    have PF := Lib.hid (show VRet l w (.returned (.tuple #[.slice none 0 0, .int .i64 ((vlS l).2.1 : Int), .int .i64 (vlS l).2.2])) w'' from ⟨none, 0, by rw [Z]; rfl, by rw [Z]; exact NodesIn.nil, by rw [Z]; exact Far.nil, HB.out.trans BB⟩)
    clear g1 g2 g3 g4 g5 h1
    simp [Leaves, settle, results, Tryz.results40, go_sem, g6, g7, g8]
    exact PF.out
set_option maxRecDepth 100000 in
theorem cvalue_any {w : World} {A : Option Addr} {n cc : Nat} {l : List UInt8} (h : BS w A n cc l) :
    Calls Tryz.prog 15 #[.slice A n cc] w (VRet l w) := by
  go_enter Tryz.func15, Tryz.ntmps15
  go_wp2_with fail
  refine (read_value h).mono ?_
  rintro e w2 ⟨A', cc', rfl, HX⟩
  have HX := Lib.hid HX
  go_wp2_with fail
  go_ret3
  exact ⟨A', cc', rfl, HX.out⟩
end Go.Proofs.YtaeophaecclnbaaGreatDoor
namespace Go.Proofs.YtaeophaecclnbaaGreatDoor
open Go.RowKit

/-- An event. -/
structure Ev where
  kind : Nat
  id : Int
  name : List UInt8
  value : List Node
  int : Int
def zE : Ev := ⟨0, 0, [], [], 0⟩
def idK (k : Nat) : Bool := decide (k = 3) || decide (k = 4) || decide (k = 5) || decide (k = 9) || decide (k = 10) || decide (k = 11)
def nameK (k : Nat) : Bool := decide (k = 1) || decide (k = 3) || decide (k = 5) || decide (k = 12)
def valueK (k : Nat) : Bool := decide (k = 1) || decide (k = 3) || decide (k = 5) || decide (k = 6) || decide (k = 7) || decide (k = 9) || decide (k = 12)
def intK (k : Nat) : Bool := decide (k = 1) || decide (k = 2) || decide (k = 4) || decide (k = 8) || decide (k = 10)
def listK (k : Nat) : Bool := decide (k = 1) || decide (k = 3) || decide (k = 5)
def leastK (k : Nat) : Int := if k = 8 ∨ k = 10 then 1 else 0
def mostK (k : Nat) : Int := if k = 2 then 501 else if k = 1 ∨ k = 4 ∨ k = 8 ∨ k = 10 then 9223372036854775807 else 0
/-- Is a text a name? -/
def lowB (c : Nat) : Bool := decide (97 ≤ c) && decide (c ≤ 122)
def digB (c : Nat) : Bool := (decide (48 ≤ c) && decide (c ≤ 57)) || decide (c = 95)
def letB (s : List UInt8) (i : Nat) : Bool := lowB (byt s i) || (decide (0 < i) && digB (byt s i))
def nameS (s : List UInt8) : Bool := decide (0 < s.length) && decide (s.length ≤ 24) && (List.range s.length).all (letB s)
/-- Is an event right, whose value is right where it has one? -/
def rightE (x : Ev) : Bool :=
  decide (x.id < 500) && (!nameK x.kind || nameS x.name) && (!listK x.kind || decide ((atN x.value 0).kind = 5)) && decide (leastK x.kind ≤ x.int) && decide (x.int ≤ mostK x.kind)
/-- The parts of an event that is read: of what stands behind, the value, how many bytes it takes, or where it goes wrong, the error. -/
def pI (k : Nat) (l : List UInt8) : Nat × Nat × Int := if idK k then numS l else (0, 0, 0)
def pT (k : Nat) (l : List UInt8) : List UInt8 × Nat × Int := if nameK k then textS l else ([], 0, 0)
def pV (k : Nat) (l : List UInt8) : List Node × Nat × Int := if valueK k then vlS l else ([], 0, 0)
def pN (k : Nat) (l : List UInt8) : Int × Nat × Int := if intK k then (zagI (numS l).1, (numS l).2) else (0, 0, 0)
def eA (l : List UInt8) (p : Nat) : Nat := p + 1 + (pI (byt l p) (l.drop (p + 1))).2.1
def eB (l : List UInt8) (p : Nat) : Nat := eA l p + (pT (byt l p) (l.drop (eA l p))).2.1
def eC (l : List UInt8) (p : Nat) : Nat := eB l p + (pV (byt l p) (l.drop (eB l p))).2.1
def eD (l : List UInt8) (p : Nat) : Nat := eC l p + (pN (byt l p) (l.drop (eC l p))).2.1
def evX (l : List UInt8) (p : Nat) : Ev :=
  ⟨byt l p, (Nat.min (pI (byt l p) (l.drop (p + 1))).1 500 : Nat), (pT (byt l p) (l.drop (eA l p))).1, (pV (byt l p) (l.drop (eB l p))).1, (pN (byt l p) (l.drop (eC l p))).1⟩
/-- Reading an event from a place on: it, where it ends, 0; or none, where it goes wrong, the error. -/
def evtS (l : List UInt8) (p : Nat) : Ev × Nat × Int :=
  if l.length ≤ p then (zE, l.length, 4)
  else if byt l p < 1 ∨ 12 < byt l p then (zE, p, 3)
  else if (pI (byt l p) (l.drop (p + 1))).2.2 ≠ 0 then (zE, eA l p, (pI (byt l p) (l.drop (p + 1))).2.2)
  else if (pT (byt l p) (l.drop (eA l p))).2.2 ≠ 0 then (zE, eB l p, (pT (byt l p) (l.drop (eA l p))).2.2)
  else if (pV (byt l p) (l.drop (eB l p))).2.2 ≠ 0 then (zE, eC l p, (pV (byt l p) (l.drop (eB l p))).2.2)
  else if (pN (byt l p) (l.drop (eC l p))).2.2 ≠ 0 then (zE, eD l p, (pN (byt l p) (l.drop (eC l p))).2.2)
  else if rightE (evX l p) then (evX l p, eD l p, 0) else (zE, p, 3)
/-- An event as it comes of bytes. -/
structure OkEv (x : Ev) : Prop where
  kind : x.kind < 256
  i0 : 0 ≤ x.id
  i1 : x.id ≤ 500
  name : x.name.length ≤ 140737488351232
  value : OkV x.value
  n0 : -9223372036854775808 ≤ x.int
  n1 : x.int ≤ 9223372036854775807
  right : x.value = [] ∨ Right x.value
theorem okE_zE : OkEv zE := ⟨by decide, by decide, by decide, by decide, fun x hx => absurd hx (by simp [zE]), by decide, by decide, .inl rfl⟩
section
variable {l : List UInt8} {p : Nat}
theorem pI_pos (k : Nat) (l : List UInt8) : (pI k l).2.1 ≤ l.length := by unfold pI; split; exact num_pos; exact Nat.zero_le _
theorem pT_pos (k : Nat) (l : List UInt8) : (pT k l).2.1 ≤ l.length := by unfold pT; split; exact text_pos; exact Nat.zero_le _
theorem pV_pos (k : Nat) (l : List UInt8) : (pV k l).2.1 ≤ l.length := by unfold pV; split; exact (valR l).to; exact Nat.zero_le _
theorem pN_pos (k : Nat) (l : List UInt8) : (pN k l).2.1 ≤ l.length := by unfold pN; split; exact num_pos; exact Nat.zero_le _
theorem eA_le (h : p < l.length) : eA l p ≤ l.length := by
  have := pI_pos (byt l p) (l.drop (p + 1))
  rw [List.length_drop] at this
  unfold eA; omega
theorem eB_le (h : p < l.length) : eB l p ≤ l.length := by
  have := pT_pos (byt l p) (l.drop (eA l p))
  have h2 := eA_le h
  rw [List.length_drop] at this
  unfold eB; omega
theorem eC_le (h : p < l.length) : eC l p ≤ l.length := by
  have := pV_pos (byt l p) (l.drop (eB l p))
  have h2 := eB_le h
  rw [List.length_drop] at this
  unfold eC; omega
theorem eD_le (h : p < l.length) : eD l p ≤ l.length := by
  have := pN_pos (byt l p) (l.drop (eC l p))
  have h2 := eC_le h
  rw [List.length_drop] at this
  unfold eD; omega
theorem eA_gt : p < eA l p := by unfold eA; omega
theorem eD_gt : p < eD l p := by unfold eD eC eB eA; omega
theorem ev_short (h : l.length ≤ p) : evtS l p = (zE, l.length, 4) := if_pos h
theorem ev_kind (h : ¬ l.length ≤ p) (hk : byt l p < 1 ∨ 12 < byt l p) : evtS l p = (zE, p, 3) := (if_neg h).trans (if_pos hk)
theorem ev_id (h : ¬ l.length ≤ p) (hk : ¬ (byt l p < 1 ∨ 12 < byt l p)) (h1 : (pI (byt l p) (l.drop (p + 1))).2.2 ≠ 0) : evtS l p = (zE, eA l p, (pI (byt l p) (l.drop (p + 1))).2.2) :=
  (if_neg h).trans ((if_neg hk).trans (if_pos h1))
theorem ev_name (h : ¬ l.length ≤ p) (hk : ¬ (byt l p < 1 ∨ 12 < byt l p)) (h1 : (pI (byt l p) (l.drop (p + 1))).2.2 = 0) (h2 : (pT (byt l p) (l.drop (eA l p))).2.2 ≠ 0) : evtS l p = (zE, eB l p, (pT (byt l p) (l.drop (eA l p))).2.2) :=
  (if_neg h).trans ((if_neg hk).trans ((if_neg (fun c => c h1)).trans (if_pos h2)))
theorem ev_value (h : ¬ l.length ≤ p) (hk : ¬ (byt l p < 1 ∨ 12 < byt l p)) (h1 : (pI (byt l p) (l.drop (p + 1))).2.2 = 0) (h2 : (pT (byt l p) (l.drop (eA l p))).2.2 = 0) (h3 : (pV (byt l p) (l.drop (eB l p))).2.2 ≠ 0) : evtS l p = (zE, eC l p, (pV (byt l p) (l.drop (eB l p))).2.2) :=
  (if_neg h).trans ((if_neg hk).trans ((if_neg (fun c => c h1)).trans ((if_neg (fun c => c h2)).trans (if_pos h3))))
theorem ev_int (h : ¬ l.length ≤ p) (hk : ¬ (byt l p < 1 ∨ 12 < byt l p)) (h1 : (pI (byt l p) (l.drop (p + 1))).2.2 = 0) (h2 : (pT (byt l p) (l.drop (eA l p))).2.2 = 0) (h3 : (pV (byt l p) (l.drop (eB l p))).2.2 = 0)
    (h4 : (pN (byt l p) (l.drop (eC l p))).2.2 ≠ 0) : evtS l p = (zE, eD l p, (pN (byt l p) (l.drop (eC l p))).2.2) :=
  (if_neg h).trans ((if_neg hk).trans ((if_neg (fun c => c h1)).trans ((if_neg (fun c => c h2)).trans ((if_neg (fun c => c h3)).trans (if_pos h4)))))
theorem ev_wrong (h : ¬ l.length ≤ p) (hk : ¬ (byt l p < 1 ∨ 12 < byt l p)) (h1 : (pI (byt l p) (l.drop (p + 1))).2.2 = 0) (h2 : (pT (byt l p) (l.drop (eA l p))).2.2 = 0) (h3 : (pV (byt l p) (l.drop (eB l p))).2.2 = 0)
    (h4 : (pN (byt l p) (l.drop (eC l p))).2.2 = 0) (hr : rightE (evX l p) = false) : evtS l p = (zE, p, 3) :=
  (if_neg h).trans ((if_neg hk).trans ((if_neg (fun c => c h1)).trans ((if_neg (fun c => c h2)).trans ((if_neg (fun c => c h3)).trans ((if_neg (fun c => c h4)).trans (if_neg (by rw [hr]; decide)))))))
theorem evt_ok (h : ¬ l.length ≤ p) (hk : ¬ (byt l p < 1 ∨ 12 < byt l p)) (h1 : (pI (byt l p) (l.drop (p + 1))).2.2 = 0) (h2 : (pT (byt l p) (l.drop (eA l p))).2.2 = 0) (h3 : (pV (byt l p) (l.drop (eB l p))).2.2 = 0)
    (h4 : (pN (byt l p) (l.drop (eC l p))).2.2 = 0) (hr : rightE (evX l p) = true) : evtS l p = (evX l p, eD l p, 0) :=
  (if_neg h).trans ((if_neg hk).trans ((if_neg (fun c => c h1)).trans ((if_neg (fun c => c h2)).trans ((if_neg (fun c => c h3)).trans ((if_neg (fun c => c h4)).trans (if_pos hr))))))
/-- What is known of an event that was read. -/
structure EvR (l : List UInt8) (p : Nat) : Prop where
  to : (evtS l p).2.1 ≤ l.length
  on : (evtS l p).2.2 = 0 → p < (evtS l p).2.1
  ok : OkEv (evtS l p).1
  none : (evtS l p).2.2 ≠ 0 → (evtS l p).1 = zE
theorem name_le (l : List UInt8) : (textS l).1.length ≤ l.length := by
  by_cases h1 : (numS l).2.2 = 0
  · by_cases h2 : l.length - (numS l).2.1 < (numS l).1
    · rw [text_short h1 h2]; exact Nat.zero_le _
    · rw [text_good h1 h2]
      show (List.take _ (List.drop _ l)).length ≤ _
      rw [List.length_take, List.length_drop]; omega
  · rw [text_bad h1]; exact Nat.zero_le _
theorem okE_evX (hl : l.length ≤ 140737488351232) (h3 : (pV (byt l p) (l.drop (eB l p))).2.2 = 0) : OkEv (evX l p) := by
  refine ⟨byt_lt l p, by unfold evX; exact Int.natCast_nonneg _, ?_, ?_, ?_, ?_, ?_, ?_⟩
  · show ((Nat.min (pI (byt l p) (l.drop (p + 1))).1 500 : Nat) : Int) ≤ 500
    exact Int.ofNat_le.2 (Nat.min_le_right (pI (byt l p) (l.drop (p + 1))).1 500)
  · show (pT (byt l p) (l.drop (eA l p))).1.length ≤ _
    unfold pT
    split
    · have := name_le (l.drop (eA l p))
      rw [List.length_drop] at this
      omega
    · exact Nat.zero_le _
  · show OkV (pV (byt l p) (l.drop (eB l p))).1
    unfold pV
    split
    · exact (valR _).ok
    · intro x hx; exact absurd hx (by simp)
  · show _ ≤ (pN (byt l p) (l.drop (eC l p))).1
    unfold pN
    split
    · exact (zag_range (num_lt _)).1
    · decide
  · show (pN (byt l p) (l.drop (eC l p))).1 ≤ _
    unfold pN
    split
    · exact (zag_range (num_lt _)).2
    · decide
  · show (pV (byt l p) (l.drop (eB l p))).1 = [] ∨ Right (pV (byt l p) (l.drop (eB l p))).1
    unfold pV at h3 ⊢
    split at h3
    · rename_i hv
      rw [if_pos hv]
      exact .inr ((valR _).right h3)
    · rename_i hv
      rw [if_neg hv]
      exact .inl rfl
theorem evtR (hl : l.length ≤ 140737488351232) (p : Nat) : EvR l p := by
  have bad : ∀ q : Nat, ∀ e : Int, q ≤ l.length → e ≠ 0 → evtS l p = (zE, q, e) → EvR l p := fun q e hq he hv =>
    ⟨by rw [hv]; exact hq, fun c => by rw [hv] at c; exact absurd c he, by rw [hv]; exact okE_zE, fun _ => by rw [hv]⟩
  by_cases h : l.length ≤ p
  · exact bad _ _ (Nat.le_refl _) (by decide) (ev_short h)
  by_cases hk : byt l p < 1 ∨ 12 < byt l p
  · exact bad _ _ (by omega) (by decide) (ev_kind h hk)
  by_cases h1 : (pI (byt l p) (l.drop (p + 1))).2.2 = 0
  · by_cases h2 : (pT (byt l p) (l.drop (eA l p))).2.2 = 0
    · by_cases h3 : (pV (byt l p) (l.drop (eB l p))).2.2 = 0
      · by_cases h4 : (pN (byt l p) (l.drop (eC l p))).2.2 = 0
        · by_cases hr : rightE (evX l p) = true
          · have hv := evt_ok h hk h1 h2 h3 h4 hr
            exact ⟨by rw [hv]; exact eD_le (by omega), fun _ => by rw [hv]; exact eD_gt, by rw [hv]; exact okE_evX hl h3, fun c => by rw [hv] at c; exact absurd rfl c⟩
          · exact bad _ _ (by omega) (by decide) (ev_wrong h hk h1 h2 h3 h4 (by simpa using hr))
        · exact bad _ _ (eD_le (by omega)) h4 (ev_int h hk h1 h2 h3 h4)
      · exact bad _ _ (eC_le (by omega)) h3 (ev_value h hk h1 h2 h3)
    · exact bad _ _ (eB_le (by omega)) h2 (ev_name h hk h1 h2)
  · exact bad _ _ (eA_le (by omega)) h1 (ev_id h hk h1)
end
/-- Reading a history, so many events: them, where they end, 0; or none, where they go wrong, the error. -/
def histGo (l : List UInt8) : Nat → Nat → List Ev → List Ev × Nat × Int
  | 0, p, v => if p < l.length then ([], p, 3) else (v, p, 0)
  | n + 1, p, v => if (evtS l p).2.2 ≠ 0 then ([], (evtS l p).2.1, (evtS l p).2.2) else histGo l n (evtS l p).2.1 (v ++ [(evtS l p).1])
def histS (l : List UInt8) : List Ev × Nat × Int :=
  if (numS l).2.2 ≠ 0 then ([], (numS l).2.1, (numS l).2.2) else if 4096 < (numS l).1 then ([], 0, 2) else histGo l (numS l).1 (numS l).2.1 []
theorem hist_bad {l : List UInt8} (h : (numS l).2.2 ≠ 0) : histS l = ([], (numS l).2.1, (numS l).2.2) := if_pos h
theorem hist_long {l : List UInt8} (h : (numS l).2.2 = 0) (h1 : 4096 < (numS l).1) : histS l = ([], 0, 2) := (if_neg (fun c => c h)).trans (if_pos h1)
/-- In the midst of a history: n events are still to come. -/
structure Hs (l : List UInt8) (n p : Nat) (v : List Ev) : Prop where
  eq : histS l = histGo l n p v
  pos : p ≤ l.length
  len : v.length + n ≤ 4096
  ok : ∀ x, x ∈ v → OkEv x
theorem Hs.start {l : List UInt8} (h : (numS l).2.2 = 0) (h1 : ¬ 4096 < (numS l).1) : Hs l (numS l).1 (numS l).2.1 [] :=
  ⟨(if_neg (fun c => c h)).trans (if_neg h1), num_pos, by simp; omega, fun x hx => absurd hx (by simp)⟩
section
variable {l : List UInt8} {n p : Nat} {v : List Ev}
theorem Hs.bad (h : Hs l (n + 1) p v) (he : (evtS l p).2.2 ≠ 0) : histS l = ([], (evtS l p).2.1, (evtS l p).2.2) := h.eq.trans (if_pos he)
theorem Hs.more (h : Hs l (n + 1) p v) (hl : l.length ≤ 140737488351232) (he : (evtS l p).2.2 = 0) : Hs l n (evtS l p).2.1 (v ++ [(evtS l p).1]) :=
  ⟨h.eq.trans (if_neg (fun c => c he)), (evtR hl p).to, by have := h.len; rw [List.length_append]; show v.length + 1 + n ≤ _; omega, fun x hx => by
    rcases List.mem_append.1 hx with hx | hx
    · exact h.ok x hx
    · rw [List.mem_singleton.1 hx]; exact (evtR hl p).ok⟩
theorem Hs.left (h : Hs l 0 p v) (hp : p < l.length) : histS l = ([], p, 3) := h.eq.trans (if_pos hp)
theorem Hs.done (h : Hs l 0 p v) (hp : ¬ p < l.length) : histS l = (v, p, 0) := h.eq.trans (if_neg hp)
end
structure HistR (l : List UInt8) : Prop where
  to : (histS l).2.1 ≤ l.length
  ok : ∀ x, x ∈ (histS l).1 → OkEv x
  none : (histS l).2.2 ≠ 0 → (histS l).1 = []
  len : (histS l).1.length ≤ 4096
theorem histR {l : List UInt8} (hl : l.length ≤ 140737488351232) : HistR l := by
  have bad : ∀ q : Nat, ∀ e : Int, q ≤ l.length → histS l = ([], q, e) → HistR l := fun q e hq hv =>
    ⟨by rw [hv]; exact hq, fun x hx => by rw [hv] at hx; exact absurd hx (by simp), fun _ => by rw [hv], by rw [hv]; exact Nat.zero_le _⟩
  by_cases h : (numS l).2.2 = 0
  · by_cases h1 : 4096 < (numS l).1
    · exact bad _ _ (Nat.zero_le _) (hist_long h h1)
    · have go : ∀ (n p : Nat) (v : List Ev), Hs l n p v → HistR l := by
        intro n
        induction n with
        | zero =>
          intro p v hs
          by_cases hp : p < l.length
          · exact bad _ _ hs.pos (hs.left hp)
          · have hv := hs.done hp
            exact ⟨by rw [hv]; exact hs.pos, fun x hx => by rw [hv] at hx; exact hs.ok x hx, fun c => by rw [hv] at c; exact absurd rfl c, by rw [hv]; exact hs.len⟩
        | succ n ih =>
          intro p v hs
          by_cases he : (evtS l p).2.2 = 0
          · exact ih _ _ (hs.more hl he)
          · exact bad _ _ (evtR hl p).to (hs.bad he)
      exact go _ _ _ (Hs.start h h1)
  · exact bad _ _ num_pos (hist_bad h)
/-! ### A question -/
/-- Where one reads, and the first fault. -/
structure Rs where
  at_ : Nat
  e : Int
/-- Reading one thing, unless something was wrong. -/
def nxV {α : Type} (z : α) (f : List UInt8 → α × Nat × Int) (l : List UInt8) (s : Rs) : α := if s.e ≠ 0 then z else if (f (l.drop s.at_)).2.2 = 0 then (f (l.drop s.at_)).1 else z
def nxS {α : Type} (f : List UInt8 → α × Nat × Int) (l : List UInt8) (s : Rs) : Rs := if s.e ≠ 0 then s else ⟨s.at_ + (f (l.drop s.at_)).2.1, (f (l.drop s.at_)).2.2⟩
def flagS (most : Nat) (l : List UInt8) : Nat × Nat × Int := if l.length = 0 then (0, 0, 4) else if most < byt l 0 then (0, 0, 3) else (byt l 0, 1, 0)
def intS (l : List UInt8) : Int × Nat × Int := (zagI (numS l).1, (numS l).2)
section
variable {α : Type} {z : α} {f : List UInt8 → α × Nat × Int} {l : List UInt8} {s : Rs}
theorem nxV_no (h : s.e ≠ 0) : nxV z f l s = z := if_pos h
theorem nxS_no (h : s.e ≠ 0) : nxS f l s = s := if_pos h
theorem nxV_bad (h : s.e = 0) (h1 : (f (l.drop s.at_)).2.2 ≠ 0) : nxV z f l s = z := (if_neg (fun c => c h)).trans (if_neg h1)
theorem nxV_ok (h : s.e = 0) (h1 : (f (l.drop s.at_)).2.2 = 0) : nxV z f l s = (f (l.drop s.at_)).1 := (if_neg (fun c => c h)).trans (if_pos h1)
theorem nxS_is (h : s.e = 0) : nxS f l s = ⟨s.at_ + (f (l.drop s.at_)).2.1, (f (l.drop s.at_)).2.2⟩ := if_neg (fun c => c h)
theorem nxS_le (h : s.at_ ≤ l.length) (hf : ∀ m, (f m).2.1 ≤ m.length) : (nxS f l s).at_ ≤ l.length := by
  by_cases he : s.e = 0
  · rw [nxS_is he]
    have := hf (l.drop s.at_)
    rw [List.length_drop] at this
    show s.at_ + _ ≤ _
    omega
  · rw [nxS_no he]; exact h
end
theorem flag_pos (m : Nat) (l : List UInt8) : (flagS m l).2.1 ≤ l.length := by
  unfold flagS
  split
  · exact Nat.zero_le _
  · split
    · exact Nat.zero_le _
    · show 1 ≤ _; omega
theorem int_pos (l : List UInt8) : (intS l).2.1 ≤ l.length := num_pos
theorem hist_pos {l : List UInt8} (hl : l.length ≤ 140737488351232) : (histS l).2.1 ≤ l.length := (histR hl).to
def u0 : Rs := ⟨0, 0⟩
def u1 (l : List UInt8) : Rs := nxS (flagS 255) l u0
def u2 (l : List UInt8) : Rs := nxS textS l (u1 l)
def u3 (l : List UInt8) : Rs := nxS intS l (u2 l)
def u4 (l : List UInt8) : Rs := nxS textS l (u3 l)
def u5 (l : List UInt8) : Rs := nxS textS l (u4 l)
def u6 (l : List UInt8) : Rs := nxS textS l (u5 l)
def u7 (l : List UInt8) : Rs := nxS (flagS 1) l (u6 l)
def isV (l : List UInt8) : Nat := nxV 0 (flagS 1) l (u6 l)
def u8 (l : List UInt8) : Rs := if isV l = 1 then nxS vlS l (u7 l) else u7 l
def u9 (l : List UInt8) : Rs := nxS intS l (u8 l)
def u10 (l : List UInt8) : Rs := nxS intS l (u9 l)
def u11 (l : List UInt8) : Rs := nxS histS l (u10 l)
/-- A question. -/
structure Ask where
  client : List UInt8
  seq : Int
  op : Nat
  id : List UInt8
  name : List UInt8
  text : List UInt8
  value : List Node
  int : Int
  token : Int
  events : List Ev
def zA : Ask := ⟨[], 0, 0, [], [], [], [], 0, 0, []⟩
def askX (l : List UInt8) : Ask where
  op := nxV 0 (flagS 255) l u0
  client := nxV [] textS l (u1 l)
  seq := nxV 0 intS l (u2 l)
  id := nxV [] textS l (u3 l)
  name := nxV [] textS l (u4 l)
  text := nxV [] textS l (u5 l)
  value := if isV l = 1 then nxV [] vlS l (u7 l) else []
  int := nxV 0 intS l (u8 l)
  token := nxV 0 intS l (u9 l)
  events := nxV [] histS l (u10 l)
/-- What bytes say: the question, where it ends, 0; or none, where they go wrong, the error. -/
def unpS (l : List UInt8) : Ask × Nat × Int :=
  if 65536 < l.length then (zA, 0, 2) else if (u11 l).e ≠ 0 then (zA, (u11 l).at_, (u11 l).e) else (askX l, (u11 l).at_, 0)
end Go.Proofs.YtaeophaecclnbaaGreatDoor
namespace Go.Proofs.YtaeophaecclnbaaGreatDoor
open Go.RowKit

theorem strB_size (s : List UInt8) : (strB s).size = s.length := rfl
theorem str_index (s : List UInt8) (i : Nat) (hi : i < s.length) (w : World) : (Instr.index 9 (.string (strB s)) (.int .i64 (i : Int))).run Tryz.prog w = .ok (.int .u8 ((byt s i : Nat) : Int)) w := by
  have hz := strB_size s
  have hb : ((strB s)[i]'(by omega)).toNat = byt s i := by
    show (s[i]).toNat = _
    unfold byt
    rw [List.getD, List.getElem?_eq_getElem hi]
    rfl
  rw [run_index_string w 9 _ .i64 i Tryz.underlying9, dif_pos ⟨by omega, by omega⟩]
  have hn : ((i : Int)).toNat = i := by omega
  simp only [hn, hb]
theorem strB_list (s : List UInt8) : (strB s).toList = s := by
  rw [ByteArray.toList_eq]
  rfl
theorem str_nil (s : List UInt8) : (strB s).toList.isEmpty = decide (s.length = 0) := by
  rw [strB_list]
  cases s <;> simp
theorem str_byte (s : List UInt8) (i : Nat) (hi : i < (strB s).size) : ((strB s)[i]'hi).toNat = byt s i := by
  have hi' : i < s.length := hi
  show (s[i]).toNat = _
  unfold byt
  rw [List.getD, List.getElem?_eq_getElem hi']
  rfl
theorem letB_low {s : List UInt8} {i : Nat} : letB s i = (lowB (byt s i) || (decide (0 < i) && digB (byt s i))) := rfl
theorem name_bad {s : List UInt8} {i : Nat} (hi : i < s.length) (h : letB s i = false) : nameS s = false := by
  unfold nameS
  have : (List.range s.length).all (letB s) = false := by
    rw [List.all_eq_false]
    exact ⟨i, List.mem_range.2 hi, by rw [h]; decide⟩
  rw [this, Bool.and_false]
theorem name_good {s : List UInt8} (h0 : 0 < s.length) (h1 : s.length ≤ 24) (h : ∀ i, i < s.length → letB s i = true) : nameS s = true := by
  unfold nameS
  rw [decide_eq_true h0, decide_eq_true h1, List.all_eq_true.2 fun i hi => h i (List.mem_range.1 hi)]
  rfl
theorem name_none {s : List UInt8} (h : s.length = 0 ∨ 24 < s.length) : nameS s = false := by
  unfold nameS
  rcases h with h | h
  · rw [decide_eq_false (show ¬ 0 < s.length by omega)]; rfl
  · rw [decide_eq_false (show ¬ s.length ≤ 24 by omega), Bool.and_false]; rfl
set_option maxRecDepth 100000 in
set_option maxHeartbeats 2000000 in
theorem name_any (s : List UInt8) (hs : (s.length : Int) ≤ 140737488351232) (w : World) : Calls Tryz.prog 146 #[.string (strB s)] w (Ret (.bool (nameS s)) w) := by
  have hz := strB_size s
  have HE := str_nil s
  by_cases h0 : s.length = 0
  · rw [name_none (.inl h0)]
    rw [decide_eq_true h0] at HE
    generalize strB s = S at *
    go_enter Tryz.func146, Tryz.ntmps146
    go_wp2_with fail
    go_ret
    exact ⟨rfl, rfl⟩
  · rw [decide_eq_false h0] at HE
    by_cases h24 : 24 < s.length
    · rw [name_none (.inr h24)]
      generalize strB s = S at *
      go_enter Tryz.func146, Tryz.ntmps146
      go_wp2_with fail
      go_ret
      exact ⟨rfl, rfl⟩
    · have hx0 := fun h => str_byte s 0 h
      have HX := Lib.hid (fun i hi => str_byte s i hi)
      have hc := byt_lt s 0
      by_cases hl : 97 ≤ byt s 0 ∧ byt s 0 ≤ 122
      · have HN := Lib.hid (show letB s 0 = true by rw [letB_low]; unfold lowB; rw [decide_eq_true hl.1, decide_eq_true hl.2]; rfl)
        obtain ⟨hl1, hl2⟩ := hl
        generalize strB s = S at *
        generalize byt s 0 = c at hx0 hl1 hl2 hc
        go_enter Tryz.func146, Tryz.ntmps146
        go_wp2_with fail
        all_goals first | (exfalso; omega) | skip
        go_loopw [24] (fun o wr => ∃ i : Nat, o = .int .i64 i ∧ i ≤ s.length ∧ (∀ j, j < i → letB s j = true) ∧ wr = w) (fun o _ => s.length - (intOf o).toNat)
        case atStart => exact ⟨0, rfl, by omega, fun j hj => absurd hj (by omega), rfl⟩
        case round =>
          obtain ⟨i, rfl, hi, hall, rfl⟩ := hrel
          have HA := Lib.hid hall
          clear hall
          by_cases hlt : i < s.length
          · have hx := fun h => HX.out i h
            have hci := byt_lt s i
            have hsz : i < S.size := by rw [hz]; exact hlt
            by_cases hb : letB s i = true
            · have HB := Lib.hid hb
              have hcase : (97 ≤ byt s i ∧ byt s i ≤ 122) ∨ (48 ≤ byt s i ∧ byt s i ≤ 57) ∨ byt s i = 95 := by
                rw [letB_low] at hb
                unfold lowB digB at hb
                simp only [Bool.or_eq_true, Bool.and_eq_true, decide_eq_true_eq] at hb
                omega
              clear hb
              generalize hcc : byt s i = c2 at *
              clear hcc
              rcases hcase with ⟨q1, q2⟩ | ⟨q1, q2⟩ | rfl
              all_goals
                go_wp2_with fail
                all_goals first
                  | (exfalso; omega)
                  | (go_roundw
                     case rel => exact ⟨i + 1, by go_num, by omega, fun j hj => if hji : j < i then HA.out j hji else (show j = i by omega) ▸ HB.out, by trivial⟩
                     case measure => simp [intOf]; omega)
            · have HB := Lib.hid (name_bad hlt (by simpa using hb))
              have hcase : ¬ (97 ≤ byt s i ∧ byt s i ≤ 122) ∧ (i = 0 ∨ ¬ (48 ≤ byt s i ∧ byt s i ≤ 57)) ∧ (i = 0 ∨ ¬ byt s i = 95) := by
                rw [letB_low] at hb
                unfold lowB digB at hb
                simp only [Bool.or_eq_true, Bool.and_eq_true, decide_eq_true_eq] at hb
                omega
              have hi0 : ¬ i = 0 := fun c => by
                subst c
                exact hb HN.out
              clear hb
              generalize hcc : byt s i = c2 at *
              clear hcc
              have hr : ∀ w, Ret (.bool (nameS s)) w (.returned (.bool false)) w := fun w => ⟨by rw [HB.out], rfl⟩
              go_wp2_with fail
              all_goals first
                | (exfalso; omega)
                | (go_ret
                   exact hr _)
          · go_wp2_with fail
            go_ret
            exact ⟨ret_bool (name_good (by omega) (by omega) (fun j hj => HA.out j (by omega))).symm, rfl⟩
      · have hn : nameS s = false := name_bad (i := 0) (by omega) (by
          rw [letB_low]; unfold lowB
          by_cases hq : 97 ≤ byt s 0
          · rw [decide_eq_false (show ¬ byt s 0 ≤ 122 by omega)]; simp
          · rw [decide_eq_false hq]; simp)
        rw [hn]
        generalize strB s = S at *
        generalize byt s 0 = c at *
        go_enter Tryz.func146, Tryz.ntmps146
        by_cases hq : c < 97
        · go_wp2_with fail
          all_goals
            go_ret
            exact ⟨rfl, rfl⟩
        · have hq2 : 122 < c := by omega
          go_wp2_with fail
          all_goals
            go_ret
            exact ⟨rfl, rfl⟩
end Go.Proofs.YtaeophaecclnbaaGreatDoor

/- A text read as code, walked. -/
import Derived.Test.YtefijgdbnjmifaaDoorUnlF
import Derived.Test.YtefijgdbnjmifaaDoorUnlE
namespace Go.Proofs.YtefijgdbnjmifaaDoor
open Go.RowKit

theorem infoIU : (Tryd.prog.info? 36).map (fun i => (i.zero, i.size, i.bytes)) = some (some (.agg #[.int .u8 0, .int .i64 0, .int .i64 0, .string ⟨#[]⟩]), 4, 40) := by kernel_rfl
theorem OkC.snoc {c : List InsV} {op : Nat} {a int : Int} {text : ByteArray} (h : OkC c) (h1 : op < 256) (h2 : text.size ≤ 9223372036854775807) : OkC (c ++ [⟨op, a, int, text⟩]) := by
  intro k hk
  rw [List.length_append] at hk
  simp only [List.length_cons, List.length_nil] at hk
  by_cases e : k < c.length
  · have g : atV (c ++ [⟨op, a, int, text⟩]) k = atV c k := by unfold atV; simp [List.getD_eq_getElem?_getD, List.getElem?_append_left e]
    rw [g]; exact h k e
  · have e2 : k = c.length := by omega
    have g : atV (c ++ [⟨op, a, int, text⟩]) k = ⟨op, a, int, text⟩ := by subst e2; unfold atV; simp [List.getD_eq_getElem?_getD]
    rw [g]; exact ⟨h1, h2⟩
theorem parseS_in (k : Nat) (l : List UInt8) (hl : l.length ≤ 1048576) : (parseS k l).1.op < 256 ∧ (parseS k l).1.text.size ≤ 1048576 := by
  have ho := opS_lt (sp (wordL k l))
  have h1 := trim_len l (headL k)
  have h2 := cutL_len (Lib.trimPrefix l (headL k)) 32
  have h3 : (restL k l).length ≤ 1048576 := by unfold restL; omega
  unfold parseS parseO
  split
  · exact ⟨by simp only; omega, by show 0 ≤ 1048576; omega⟩
  · refine ⟨by show opS _ < 256; omega, ?_⟩
    have h4 := textL_len (opS (sp (wordL k l))) (behindL (opS (sp (wordL k l))) (restL k l))
    have h5 : (behindL (opS (sp (wordL k l))) (restL k l)).length ≤ (restL k l).length := by
      unfold behindL
      split
      · exact Nat.le_refl _
      · exact (cutL_len _ _).2
    show (textL _ _).size ≤ 1048576
    omega
def strLen : Value → Nat
  | .string s => s.size
  | _ => 0
set_option maxRecDepth 100000 in
set_option maxHeartbeats 4000000 in
theorem unlist_any (s : ByteArray) (hs : s.size ≤ 140737488351232) (w : World) (hp : Pow10 w) (hv : SynVar w) (hr : RangeVar w) (hm : MaxVar w) :
    Calls Tryd.prog 15 #[.string s] w (UPost14 s.data.toList w) := by
  have HP := Lib.hid hp
  have HV := Lib.hid hv
  have HR := Lib.hid hr
  have HM := Lib.hid hm
  obtain ⟨i0, hi, hz0, hz1, hz2⟩ := info_parts infoIU
  have HI0 := Lib.hid hi
  have HZ0 := Lib.hid hz0
  have HZ1 := Lib.hid hz1
  have HZ2 := Lib.hid hz2
  clear hi hz0 hz1 hz2 hp hv hr hm
  have SL : s.data.toList.length = s.size := by simp
  go_enter Tryd.func15, Tryd.ntmps15
  by_cases hbig : 1048576 < s.size
  · have E := Lib.hid (show unlS s.data.toList = ([], 0, 2) by unfold unlS; rw [if_pos (by omega)])
    go_wp2_with fail
    go_ret3
    exact upost_none E.out rfl (Below.refl _ _)
  · have E := Lib.hid (show unlS s.data.toList = unlTo s.data.toList.length [] s.data.toList by unfold unlS; rw [if_neg (by omega)])
    go_wp2_with fail
    go_loopw [0, 5] (fun t v wr => ∃ (n : Nat) (c : List InsV) (l : List UInt8), t = .string (sp l) ∧ l.length ≤ n ∧ l.length ≤ 1048576 ∧ c.length ≤ 8192 ∧ Hid (unlS s.data.toList = unlTo n c l) ∧ OkC c ∧ wr.ownsRow w.heap.size 36 4 v c.length (codeCells c) ∧ Below w.heap.size w wr) (fun t _ _ => strLen t)
    case atStart => exact ⟨s.data.toList.length, [], s.data.toList, rfl, Nat.le_refl _, by omega, by simp, E, fun k hk => absurd hk (by simp), ⟨rfl, .inl ⟨rfl, rfl⟩⟩, Below.refl _ _⟩
    case round =>
      obtain ⟨n, c, l, rfl, hn, hl, hc, hh, hok, ho, hb⟩ := hrel
      have HO := Lib.hid ho
      have HB := Lib.hid hb
      have HOK := Lib.hid hok
      have hsz : (sp l).size = l.length := sp_size l
      clear ho hb hok
      obtain ⟨A0, cc0, rfl⟩ := own_slice HO.out
      by_cases h0 : l.length = 0
      · have U := Lib.hid (hh.out.trans (unlTo_nil h0))
        have CI := Lib.hid (own_code HO.out rfl)
        go_wp2_with fail
        go_loopw [57] (fun i wx => ∃ k : Nat, i = .int .i64 k ∧ k ≤ c.length ∧ Hid (∀ j, j < k → rightI (atV c j).ins c.length = true) ∧ Below wr.heap.size wr wx) (fun i _ => c.length - (intOf i).toNat)
        case atStart => exact ⟨0, rfl, Nat.zero_le _, Lib.hid (fun j hj => absurd hj (by omega)), Below.refl _ _⟩
        case round =>
          obtain ⟨k, rfl, hk, hj, hbx⟩ := hrel
          have HBX := Lib.hid hbx
          clear hbx
          by_cases hlt : k < c.length
          · obtain ⟨b, off, rfl, hbl, hcell⟩ := CI.out (by omega)
            obtain ⟨q0, q1, q2, q3⟩ := hcell k hlt
            have hkk := fun o => HBX.out.cell (p := ⟨b, o, none⟩) hbl
            have q0 := (hkk _).trans q0
            have q1 := (hkk _).trans q1
            have q2 := (hkk _).trans q2
            have q3 := (hkk _).trans q3
            obtain ⟨ok1, ok2⟩ := HOK.out k hlt
            have RA := Lib.hid (fun w => right_any (atV c k) c.length ok1 ok2 w)
            have hsz2 := HBX.out.size
            clear hkk hcell ok1 ok2
            have UB := Lib.hid (fun (h : rightI (atV c k).ins c.length = false) => U.out.trans (unlEnd_bad hlt hj.out h))
            have UN := Lib.hid (fun (h : rightI (atV c k).ins c.length = true) (j : Nat) (hj2 : j < k + 1) => show rightI (atV c j).ins c.length = true from if e : j = k then e ▸ h else hj.out j (by omega))
            generalize atV c k = v at *
            obtain ⟨op, a, int, text⟩ := v
            simp only at q0 q1 q2 q3
            go_wp2_with fail
            refine (RA.out _).mono ?_
            rintro e w2 ⟨rfl, h2⟩
            have HB2 := Lib.hid (bthen' (HBX.out.alloc hsz2 (.cells #[.int .u8 op, .int .i64 a, .int .i64 int, .string text] 36)) h2 (Nat.le_refl _))
            clear h2
            cases hrb : rightI (InsV.ins ⟨op, a, int, text⟩) c.length with
            | false =>
              have UE := Lib.hid (UB.out hrb)
              clear hrb
              go_wp2_with fail
              go_ret3
              exact upost_none UE.out rfl (bthen HB.out HB2.out)
            | true =>
              have UE := Lib.hid (UN.out hrb)
              clear hrb
              go_wp2_with fail
              go_roundw
              case rel => exact ⟨k + 1, by go_num, by omega, Lib.hid UE.out, HB2.out⟩
              case measure => simp [intOf]; omega
          · have UE := Lib.hid (U.out.trans (unlEnd_ok (fun j hj2 => hj.out j (by omega))))
            go_wp2_with fail
            go_ret3
            exact upost_some UE.out rfl (CI.out.below HBX.out (by have := HB.out.size; omega)) (bthen HB.out HBX.out)
      · by_cases hc8 : c.length = 8192
        · have U := Lib.hid (hh.out.trans (unlTo_long (by omega) hn hc8))
          go_wp2_with fail
          go_ret3
          exact upost_none U.out (by omega) HB.out
        · have CL := cutL_len l 10
          go_wp2_with fail
          refine (cut_any l 10 hl _ (HM.out.below HB.out)).mono ?_
          rintro e w1 ⟨rfl, hb1⟩
          have HB1 := Lib.hid (bthen HB.out hb1)
          have HBR := Lib.hid hb1
          clear hb1
          go_wp2_with fail
          have PA : Hid (∀ W, Pow10 W → SynVar W → RangeVar W → MaxVar W → Calls Tryd.prog 35 #[.int .i64 c.length, .string (sp (cutL l 10).1)] W (RetB (.tuple #[(parseS c.length (cutL l 10).1).1.val, .bool (parseS c.length (cutL l 10).1).2]) W)) :=
            Lib.hid (fun W p1 p2 p3 p4 => parse_any c.length hc (sp (cutL l 10).1) (by rw [sp_size]; omega) W p1 p2 p3 p4)
          have LOK : lineOk c.length l = ((cutL l 10).2.2 && (parseS c.length (cutL l 10).1).2 && apartS (parseS c.length (cutL l 10).1).1) := rfl
          have MORE := Lib.hid (fun hb => unlTo_more (n := n) (c := c) (l := l) (by omega) hn hc8 hb)
          have BAD := Lib.hid (fun hb => unlTo_bad (n := n) (c := c) (l := l) (by omega) hn hc8 hb)
          have RL := Lib.hid (fun h => (cutL_rest (l := l) (c := 10) h).1)
          have XB : (parseS c.length (cutL l 10).1).1.op < 256 ∧ (parseS c.length (cutL l 10).1).1.text.size ≤ 1048576 := parseS_in _ _ (by omega)
          generalize parseS c.length (cutL l 10).1 = pp at *
          obtain ⟨⟨op, a, int, text⟩, ok⟩ := pp
          simp only at XB
          have AP := Lib.hid (apart_any ⟨op, a, int, text⟩ XB.1 (by have := XB.2; simp only; omega))
          refine (PA.out _ (HP.out.below HB1.out) (HV.out.below HB1.out) (HR.out.below HB1.out) (HM.out.below HB1.out)).mono ?_
          rintro e w2 ⟨rfl, hb2⟩
          simp only [InsV.val]
          have HB2 := Lib.hid (bthen HB1.out hb2)
          have HBW2 := Lib.hid (bthen HBR.out hb2)
          clear hb2
          generalize (cutL l 10).2.2 = is at *
          cases is with
          | false =>
            have U := Lib.hid (hh.out.trans (BAD.out (by rw [LOK]; rfl)))
            go_wp2_with fail
            go_ret3
            exact upost_none U.out (by omega) (HB2.out.alloc (by have := HB2.out.size; omega) _)
          | true =>
            cases ok with
            | false =>
              have U := Lib.hid (hh.out.trans (BAD.out (by rw [LOK]; rfl)))
              go_wp2_with fail
              go_ret3
              exact upost_none U.out (by omega) (HB2.out.alloc (by have := HB2.out.size; omega) _)
            | true =>
              go_wp2_with fail
              refine (AP.out _).mono ?_
              rintro e w3 ⟨rfl, hb3⟩
              have HB3 := Lib.hid (bthen (HB2.out.alloc (by have := HB2.out.size; omega) _) hb3)
              have k3 := (bcell hb3).1
              have x0 : w3.cell? ⟨w2.heap.size, 0, none⟩ = some (.int .u8 (op : Int)) := (k3 _ 0 (by simp)).trans (World.cell?_alloc_new ..)
              have x1 : w3.cell? ⟨w2.heap.size, 1, none⟩ = some (.int .i64 a) := (k3 _ 1 (by simp)).trans (World.cell?_alloc_new ..)
              have x2 : w3.cell? ⟨w2.heap.size, 2, none⟩ = some (.int .i64 int) := (k3 _ 2 (by simp)).trans (World.cell?_alloc_new ..)
              have x3 : w3.cell? ⟨w2.heap.size, 3, none⟩ = some (.string text) := (k3 _ 3 (by simp)).trans (World.cell?_alloc_new ..)
              have HBW3 := Lib.hid (bthen (HBW2.out.alloc (by have := HBW2.out.size; omega) _) hb3)
              clear hb3 k3
              cases hap : apartS ⟨op, a, int, text⟩ with
              | false =>
                have U := Lib.hid (hh.out.trans (BAD.out (by rw [LOK, hap]; rfl)))
                go_wp2_with fail
                go_ret3
                exact upost_none U.out (by omega) HB3.out
              | true =>
                obtain ⟨m, hm1, hm2⟩ := MORE.out (by rw [LOK, hap]; rfl)
                have U := Lib.hid (hh.out.trans hm2)
                have HRL := RL.out trivial
                go_wp2_with (at_builtin; refine wpList_append_own _ rfl _ _ 22 rfl w.heap.size 36 i0 (.agg #[.int .u8 0, .int .i64 0, .int .i64 0, .string ⟨#[]⟩]) 4 40 Tryd.underlying22 HI0.out HZ0.out HZ1.out HZ2.out rfl (by decide) _ c.length (codeCells c) rfl ?own ⟨w3.heap.size, 0, none⟩ 1 1 (InsV.cells ⟨op, a, int, text⟩) rfl rfl ?c1 ?c2 ?c3 ?c4 ?c5 ?_)
                case own => exact own_below HO.out (bthen HBW3.out (by go_grown))
                case c1 => exact cell_four_new _ _ _ _ _ _ _ (by first | rfl | simp)
                case c2 => intro u hu; simp [InsV.cells] at hu; rcases hu with rfl | rfl | rfl | rfl <;> rfl
                case c3 => unfold maxLen; omega
                case c4 => omega
                case c5 => have := HB3.out.size; simp; omega
                intro v' w4 hown' hgrow _
                have HBW := Lib.hid (show Below w.heap.size w w4 from Below.grown (HB3.out.alloc HB3.out.size _) hgrow (by have := HB3.out.size; simp; omega) (fun q e => own_base HO.out e))
                go_wp2_with fail
                go_roundw
                case rel => exact ⟨m, c ++ [⟨op, a, int, text⟩], (cutL l 10).2.1, rfl, hm1, by omega, by rw [List.length_append]; simp only [List.length_cons, List.length_nil]; omega, U, OkC.snoc HOK.out XB.1 (by have := XB.2; omega), by rw [List.length_append, codeCells_snoc]; exact hown', HBW.out⟩
                case measure => show (sp _).size < (sp _).size; rw [sp_size, sp_size]; exact HRL
end Go.Proofs.YtefijgdbnjmifaaDoor

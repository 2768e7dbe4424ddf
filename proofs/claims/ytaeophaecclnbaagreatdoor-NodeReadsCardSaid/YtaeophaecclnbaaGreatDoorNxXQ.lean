/- The document's reading of a question, walked. Printed by gen_xup.py. -/
import Derived.Test.YtaeophaecclnbaaGreatDoorMgQ
import Derived.Test.YtaeophaecclnbaaGreatDoorMgS
import Derived.Test.YtaeophaecclnbaaGreatDoorMgX
import Derived.Lib.AtoiErrMem
import Derived.Deep.DeepCutAuto
namespace Go.Proofs.YtaeophaecclnbaaGreatDoor
open Go.RowKit

abbrev askZ : List Value := [.string ⟨#[]⟩, .int .i64 0, .int .u8 0, .string ⟨#[]⟩, .string ⟨#[]⟩, .string ⟨#[]⟩, .slice none 0 0, .int .i64 0, .int .i64 0, .slice none 0 0]
/-- While the document reads a question: the answer lies in block w.heap.size, the bytes in the next one, the reader behind them, the question behind that. -/
structure UnR (w W : World) (n cc : Nat) (l : List UInt8) (s : Rs) (cs : List Value) : Prop where
  bel : Below w.heap.size w W
  res : Cs W w.heap.size askZ
  re : RE W (w.heap.size + 1 + 1) (some ⟨w.heap.size + 1, 0, none⟩) n cc l s.at_ s.e
  ask : Cs W (w.heap.size + 1 + 1 + 1) cs
section
variable {w W W' : World} {n cc q : Nat} {l : List UInt8} {s : Rs} {er : Int} {cs : List Value}
theorem UnR.next (h : UnR w W n cc l s cs) (g : GoE (w.heap.size + 1 + 1) q er W W') (hq : q ≤ n) : UnR w W' n cc l ⟨q, er⟩ cs := by
  have hs := h.bel.size
  exact ⟨h.bel.trans (g.below (by omega) hs), h.res.go (by omega) g, g.re h.re hq, h.ask.go (by omega) g⟩
theorem UnR.keep (h : UnR w W n cc l s cs) (g : Below W.heap.size W W') : UnR w W' n cc l s cs := ⟨bthen h.bel g, h.res.keep g, h.re.keep g, h.ask.keep g⟩
theorem Cs.oth {W : World} {k k' i : Nat} {cs : List Value} {v : Value} (h : Cs W k cs) (hk : k ≠ k') : Cs (W.setCell ⟨k', i, none⟩ v) k cs := by
  have hb : (W.setCell ⟨k', i, none⟩ v).heap[k]? = W.heap[k]? := heap_setCell_other _ _ k _ hk
  exact ⟨fun j u hj => (World.cell?_of_block (a := ⟨k, j, none⟩) hb).trans (h.c j u hj), fun j => (World.frozen?_of_block (a := ⟨k, j, none⟩) hb).trans (h.f j), by simpa using h.lt⟩
theorem UnR.set (h : UnR w W n cc l s cs) (i : Nat) (v : Value) : UnR w (W.setCell ⟨w.heap.size + 1 + 1 + 1, i, none⟩ v) n cc l s (cs.set i v) :=
  ⟨h.bel.setCell (p := ⟨w.heap.size + 1 + 1 + 1, i, none⟩) (by show w.heap.size ≤ w.heap.size + 1 + 1 + 1; omega) _, h.res.oth (by omega), h.re.oth (by omega) (fun b off e => by injection e with e; injection e with e _ _; omega), h.ask.set i v⟩
theorem isV_ok (h : isV l = 1) : (Go.Proofs.YtaeophaecclnbaaGreatDoor.u7 l).e = 0 := by
  unfold isV at h
  unfold u7
  by_cases h1 : (u6 l).e = 0
  · rw [nxS_is h1]
    by_cases h2 : (flagS 1 (l.drop (u6 l).at_)).2.2 = 0
    · exact h2
    · rw [nxV_bad h1 h2] at h; exact absurd h (by decide)
  · rw [nxV_no h1] at h; exact absurd h (by decide)
theorem val_nx {s : Rs} (h : s.e = 0) : nxV [] vlS l s = (vlS (l.drop s.at_)).1 := by
  by_cases h1 : (vlS (l.drop s.at_)).2.2 = 0
  · exact nxV_ok h h1
  · rw [nxV_bad h h1, (valR _).none h1]
theorem hist_nx {s : Rs} (h : s.e = 0) : nxV [] histS l s = (histS (l.drop s.at_)).1 := by
  by_cases h1 : (histS (l.drop s.at_)).2.2 = 0
  · exact nxV_ok h h1
  · rw [nxV_bad h h1, hist_none h1]
end
/-- Is there a value? -/
def tV (l : List UInt8) : Bool := decide (isV l = 1)
/-- Behind the value. -/
def CutA (w : World) (n cc : Nat) (l : List UInt8) (wx : World) : Prop := ∃ A1 c1, UnR w wx n cc l (u8 l) [.string (strB (nxV [] textS l (u1 l))), .int .i64 (nxV 0 intS l (u2 l)), .int .u8 ((nxV 0 (flagS 255) l u0 : Nat) : Int), .string (strB (nxV [] textS l (u3 l))), .string (strB (nxV [] textS l (u4 l))), .string (strB (nxV [] textS l (u5 l))), .slice A1 (askX l).value.length c1, .int .i64 0, .int .i64 0, .slice none 0 0] ∧ NodesIn wx A1 (askX l).value ∧ Far (w.heap.size + 1 + 1 + 1 + 1) A1 (askX l).value.length
/-- Behind the events. -/
def CutE (w : World) (n cc : Nat) (l : List UInt8) (A1 : Option Addr) (c1 : Nat) (wx : World) : Prop := ∃ A2 c2, UnR w wx n cc l (u11 l) [.string (strB (nxV [] textS l (u1 l))), .int .i64 (nxV 0 intS l (u2 l)), .int .u8 ((nxV 0 (flagS 255) l u0 : Nat) : Int), .string (strB (nxV [] textS l (u3 l))), .string (strB (nxV [] textS l (u4 l))), .string (strB (nxV [] textS l (u5 l))), .slice A1 (askX l).value.length c1, .int .i64 (nxV 0 intS l (u8 l)), .int .i64 (nxV 0 intS l (u9 l)), .slice A2 (askX l).events.length c2] ∧ NodesIn wx A1 (askX l).value ∧ Far (w.heap.size + 1 + 1 + 1 + 1) A1 (askX l).value.length ∧ ∃ B, w.heap.size + 1 + 1 + 1 < B ∧ EvsR wx B A2 c2 (askX l).events
theorem rvalue_e0 {w : World} {b n cc q : Nat} {l : List UInt8} (h : BS w (some ⟨b, 0, none⟩) n cc l) (hq : q = n) : Calls Tryz.prog 21 #[.slice (some ⟨b, 0, none⟩) (n - q) 0] w (VRet (l.drop q) w) := by
  rw [show n - q = 0 by omega]
  exact rvalue_any (bs_end h hq)
theorem rvalue_d0 {w : World} {b n cc q : Nat} {l : List UInt8} (h : BS w (some ⟨b, 0, none⟩) n cc l) (hq : q ≤ n) : Calls Tryz.prog 21 #[.slice (some ⟨b, q, none⟩) (n - q) (cc - q)] w (VRet (l.drop q) w) := by
  have k := rvalue_any (bs_drop h hq)
  rw [show ((⟨b, 0, none⟩ : Addr).add q) = ⟨b, q, none⟩ by simp [Addr.add]; exact fun h => h.symm] at k
  exact k
theorem runpack_e0 {w : World} {b n cc q : Nat} {l : List UInt8} (h : BS w (some ⟨b, 0, none⟩) n cc l) (hq : q = n) : Calls Tryz.prog 22 #[.slice (some ⟨b, 0, none⟩) (n - q) 0] w (HRet (l.drop q) w) := by
  rw [show n - q = 0 by omega]
  exact runpack_any (bs_end h hq)
theorem runpack_d0 {w : World} {b n cc q : Nat} {l : List UInt8} (h : BS w (some ⟨b, 0, none⟩) n cc l) (hq : q ≤ n) : Calls Tryz.prog 22 #[.slice (some ⟨b, q, none⟩) (n - q) (cc - q)] w (HRet (l.drop q) w) := by
  have k := runpack_any (bs_drop h hq)
  rw [show ((⟨b, 0, none⟩ : Addr).add q) = ⟨b, q, none⟩ by simp [Addr.add]; exact fun h => h.symm] at k
  exact k
theorem UnR.cutA {w W : World} {n cc c1 : Nat} {l : List UInt8} {s : Rs} {cs : List Value} {A1 : Option Addr} {v : List Node} (S : UnR w W n cc l s cs) (e8 : u8 l = s) (eV : (askX l).value = v) (hcs : cs = [.string (strB (nxV [] textS l (u1 l))), .int .i64 (nxV 0 intS l (u2 l)), .int .u8 ((nxV 0 (flagS 255) l u0 : Nat) : Int), .string (strB (nxV [] textS l (u3 l))), .string (strB (nxV [] textS l (u4 l))), .string (strB (nxV [] textS l (u5 l))), .slice none 0 0, .int .i64 0, .int .i64 0, .slice none 0 0]) (hn : NodesIn W A1 v) (hf : Far (w.heap.size + 1 + 1 + 1 + 1) A1 v.length) :
    CutA w n cc l (W.setCell ⟨w.heap.size + 1 + 1 + 1, 6, none⟩ (.slice A1 v.length c1)) := by
  subst hcs
  refine ⟨A1, c1, ?_, ?_, ?_⟩
  · rw [e8, eV]; exact S.set 6 (.slice A1 v.length c1)
  · rw [eV]; exact hn.set hf (by omega)
  · rw [eV]; exact hf
theorem UnR.cutE {w W : World} {n cc c1 c2 : Nat} {l : List UInt8} {s : Rs} {cs : List Value} {A1 A2 : Option Addr} {v : List Ev} (S : UnR w W n cc l s cs) (e11 : u11 l = s) (eE : (askX l).events = v) (hcs : cs = [.string (strB (nxV [] textS l (u1 l))), .int .i64 (nxV 0 intS l (u2 l)), .int .u8 ((nxV 0 (flagS 255) l u0 : Nat) : Int), .string (strB (nxV [] textS l (u3 l))), .string (strB (nxV [] textS l (u4 l))), .string (strB (nxV [] textS l (u5 l))), .slice A1 (askX l).value.length c1, .int .i64 (nxV 0 intS l (u8 l)), .int .i64 (nxV 0 intS l (u9 l)), .slice none 0 0]) (hn : NodesIn W A1 (askX l).value) (hf : Far (w.heap.size + 1 + 1 + 1 + 1) A1 (askX l).value.length) (hev : EvsR W (w.heap.size + 1 + 1 + 1 + 1) A2 c2 v) :
    CutE w n cc l A1 c1 (W.setCell ⟨w.heap.size + 1 + 1 + 1, 9, none⟩ (.slice A2 v.length c2)) := by
  subst hcs
  refine ⟨A2, c2, ?_, hn.set hf (by omega), hf, w.heap.size + 1 + 1 + 1 + 1, by omega, ?_⟩
  · rw [e11, eE]; exact S.set 9 (.slice A2 v.length c2)
  · rw [eE]; exact hev.set (by omega)
set_option maxRecDepth 100000 in
set_option maxHeartbeats 40000000 in
theorem xunpack_any (s : ByteArray) (hs : s.size ≤ 140737488351232) (w : World) : Calls Tryz.prog 5 #[.string s] w (UPost s.data.toList w) := by
  have hl : s.data.toList.length = s.size := by
    rw [Array.length_toList]; rfl
  by_cases hb : 65536 < s.size
  · have EV := Lib.hid (unp_long (l := s.data.toList) (by rw [hl]; exact hb))
    have hd : decide ((65536 : Int) < (s.size : Int)) = true := decide_eq_true (by omega)
    go_enter Tryz.func5, Tryz.ntmps5
    go_wp2_with fail
    refine bodyPost_ret (v := .tuple #[.agg #[.string ⟨#[]⟩, .int .i64 0, .int .u8 0, .string ⟨#[]⟩, .string ⟨#[]⟩, .string ⟨#[]⟩, .slice none 0 0, .int .i64 0, .int .i64 0, .slice none 0 0], .int .i64 0, .int .i64 2]) (by first | (simp [results, Tryz.results5, go_sem]; done) | (simp [results, Tryz.results5, go_sem, *]; done)) rfl (UPost.bad EV.out (by go_grown))
  · have HNL := Lib.hid hb
    have hd : decide ((65536 : Int) < (s.size : Int)) = false := decide_eq_false (by omega)
    have hcv := fun w => Lib.run_convert_string_bytes (P := Tryz.prog) w 9 34 5 s (u := .string) Tryz.underlying9 Tryz.underlying34 Tryz.underlying5
    go_enter Tryz.func5, Tryz.ntmps5
    go_wp2_with fail
    have A0s : (w.alloc (.cells #[.string ⟨#[]⟩, .int .i64 0, .int .u8 0, .string ⟨#[]⟩, .string ⟨#[]⟩, .string ⟨#[]⟩, .slice none 0 0, .int .i64 0, .int .i64 0, .slice none 0 0] 26)).heap.size = w.heap.size + 1 := by simp
    have C0 : Cs (w.alloc (.cells #[.string ⟨#[]⟩, .int .i64 0, .int .u8 0, .string ⟨#[]⟩, .string ⟨#[]⟩, .string ⟨#[]⟩, .slice none 0 0, .int .i64 0, .int .i64 0, .slice none 0 0] 26)) w.heap.size askZ := Cs.new w rfl _ _
    have B0 : Below w.heap.size w (w.alloc (.cells #[.string ⟨#[]⟩, .int .i64 0, .int .u8 0, .string ⟨#[]⟩, .string ⟨#[]⟩, .string ⟨#[]⟩, .slice none 0 0, .int .i64 0, .int .i64 0, .slice none 0 0] 26)) := (Below.refl _ w).alloc (Nat.le_refl _) _
    clear hcv hb
    generalize w.alloc (.cells #[.string ⟨#[]⟩, .int .i64 0, .int .u8 0, .string ⟨#[]⟩, .string ⟨#[]⟩, .string ⟨#[]⟩, .slice none 0 0, .int .i64 0, .int .i64 0, .slice none 0 0] 26) = WA at *
    have BW := bs_text WA 5 s hs
    have BB := Lib.bytesWorld_below WA 5 s
    have BZ := Lib.bytesWorld_size WA 5 s
    have S0 : ∀ W8 W9, W8 = (Lib.bytesWorld WA 5 s).alloc (.cells #[.slice (some ⟨w.heap.size + 1, 0, none⟩) s.size (grownCap WA s.size 0 5), .int .i64 0, .int .i64 0] 50) → W9 = W8.alloc (.cells #[.string ⟨#[]⟩, .int .i64 0, .int .u8 0, .string ⟨#[]⟩, .string ⟨#[]⟩, .string ⟨#[]⟩, .slice none 0 0, .int .i64 0, .int .i64 0, .slice none 0 0] 26) → UnR w W9 s.size (grownCap WA s.size 0 5) s.data.toList u0 askZ := by
      intro W8 W9 e8 e9
      have hz : (Lib.bytesWorld WA 5 s).heap.size = w.heap.size + 1 + 1 := by omega
      have hz8 : W8.heap.size = w.heap.size + 1 + 1 + 1 := by rw [e8, World.size_alloc, hz]
      rw [A0s] at BW
      have b8 : Below (Lib.bytesWorld WA 5 s).heap.size (Lib.bytesWorld WA 5 s) W8 := by rw [e8]; exact (Below.refl _ _).alloc (Nat.le_refl _) _
      have b9 : Below W8.heap.size W8 W9 := by rw [e9]; exact (Below.refl _ _).alloc (Nat.le_refl _) _
      have r8 : RE W8 (w.heap.size + 1 + 1) (some ⟨w.heap.size + 1, 0, none⟩) s.size (grownCap WA s.size 0 5) s.data.toList 0 0 := by
        rw [e8] at b8 ⊢
        exact ⟨by rw [cell_new _ _ hz]; rfl, by rw [cell_new _ _ hz]; rfl, by rw [cell_new _ _ hz]; rfl, frozen_new _ _ hz _ _ _, frozen_new _ _ hz _ _ _, BW.below b8, Nat.zero_le _, fun _ b off e => by injection e with e; injection e with e _ _; omega, by rw [World.size_alloc]; omega, ⟨_, rfl⟩⟩
      exact ⟨bthen (bthen (bthen B0 BB) b8) b9, ((C0.keep BB).keep b8).keep b9, r8.keep b9, by rw [e9]; exact Cs.new _ hz8 _ _⟩
    rw [BZ, A0s]
    have T0 := Lib.hid (S0 _ _ rfl rfl)
    have hlz : s.data.toList.length = s.size := hl
    clear S0 BW BB BZ B0 C0
    generalize ((Lib.bytesWorld WA 5 s).alloc (.cells #[.slice (some ⟨w.heap.size + 1, 0, none⟩) s.size (grownCap WA s.size 0 5), .int .i64 0, .int .i64 0] 50)).alloc (.cells #[.string ⟨#[]⟩, .int .i64 0, .int .u8 0, .string ⟨#[]⟩, .string ⟨#[]⟩, .string ⟨#[]⟩, .slice none 0 0, .int .i64 0, .int .i64 0, .slice none 0 0] 26) = WR at *
    generalize s.data.toList = l at *
    generalize grownCap WA s.size 0 5 = cap at *
    refine (xone_any T0.out.re 255).mono ?_
    rintro e W1 ⟨rfl, g⟩
    have S : UnR w W1 _ _ l (u1 l) _ := T0.out.next g (by have h := @u1_le l; rw [hlz] at h; exact h)
    have a1 := S.ask.c 2 _ rfl
    have af := S.ask.f
    have T1 := Lib.hid (S.set 2 (.int .u8 ((nxV 0 (flagS 255) l u0 : Nat) : Int)))
    clear g S
    go_wp2_with fail
    clear a1 af
    refine (xtext_any T1.out.re).mono ?_
    rintro e W2 ⟨rfl, g⟩
    have S : UnR w W2 _ _ l (u2 l) _ := T1.out.next g (by have h := @u2_le l; rw [hlz] at h; exact h)
    have a1 := S.ask.c 0 _ rfl
    have af := S.ask.f
    have T2 := Lib.hid (S.set 0 (.string (strB (nxV [] textS l (u1 l)))))
    clear g S
    go_wp2_with fail
    clear a1 af
    refine (xint_any T2.out.re).mono ?_
    rintro e W3 ⟨rfl, g⟩
    have S : UnR w W3 _ _ l (u3 l) _ := T2.out.next g (by have h := @u3_le l; rw [hlz] at h; exact h)
    have a1 := S.ask.c 1 _ rfl
    have af := S.ask.f
    have T3 := Lib.hid (S.set 1 (.int .i64 (nxV 0 intS l (u2 l))))
    clear g S
    go_wp2_with fail
    clear a1 af
    refine (xtext_any T3.out.re).mono ?_
    rintro e W4 ⟨rfl, g⟩
    have S : UnR w W4 _ _ l (u4 l) _ := T3.out.next g (by have h := @u4_le l; rw [hlz] at h; exact h)
    have a1 := S.ask.c 3 _ rfl
    have af := S.ask.f
    have T4 := Lib.hid (S.set 3 (.string (strB (nxV [] textS l (u3 l)))))
    clear g S
    go_wp2_with fail
    clear a1 af
    refine (xtext_any T4.out.re).mono ?_
    rintro e W5 ⟨rfl, g⟩
    have S : UnR w W5 _ _ l (u5 l) _ := T4.out.next g (by have h := @u5_le l; rw [hlz] at h; exact h)
    have a1 := S.ask.c 4 _ rfl
    have af := S.ask.f
    have T5 := Lib.hid (S.set 4 (.string (strB (nxV [] textS l (u4 l)))))
    clear g S
    go_wp2_with fail
    clear a1 af
    refine (xtext_any T5.out.re).mono ?_
    rintro e W6 ⟨rfl, g⟩
    have S : UnR w W6 _ _ l (u6 l) _ := T5.out.next g (by have h := @u6_le l; rw [hlz] at h; exact h)
    have a1 := S.ask.c 5 _ rfl
    have af := S.ask.f
    have T6 := Lib.hid (S.set 5 (.string (strB (nxV [] textS l (u5 l)))))
    clear g S
    go_wp2_with fail
    clear a1 af
    refine (xone_any T6.out.re 1).mono ?_
    rintro e W7 ⟨rfl, g⟩
    have T7 := Lib.hid (show UnR w W7 _ _ l (Go.Proofs.YtaeophaecclnbaaGreatDoor.u7 l) _ from T6.out.next g (by have h := @u7_le l; rw [hlz] at h; exact h))
    clear g
    rw [show nxV 0 (flagS 1) l ⟨(u6 l).at_, (u6 l).e⟩ = isV l from rfl]
    have q2 := T7.out.re.c2
    have hx8 := @u8_le l
    rw [hlz] at hx8
    go_upto_region 12 with fail
    go_cut [51] (fun v wx => v = .bool (tV l) ∧ W7 = wx)
    case first =>
      by_cases hv : isV l = 1
      · have hd7 : ((isV l : Int) == 1) = true := by rw [hv]; rfl
        have hb7 : ((Go.Proofs.YtaeophaecclnbaaGreatDoor.u7 l).e == 0) = true := by rw [isV_ok hv]; rfl
        have hdv : true = tV l := (show tV l = true from decide_eq_true hv).symm
        have HDV := Lib.hid hdv
        clear hv hdv
        go_wp2_with fail
        go_meet
        exact ⟨congrArg Value.bool HDV.out, rfl⟩
      · have hd7 : ((isV l : Int) == 1) = false := by
          have : ¬ ((isV l : Int) = 1) := by omega
          simpa using this
        have HDV := Lib.hid (show false = tV l from (show tV l = false from decide_eq_false hv).symm)
        clear hv
        go_wp2_with fail
        go_meet
        exact ⟨congrArg Value.bool HDV.out, rfl⟩
    obtain ⟨rfl, rfl⟩ := hcut
    go_upto_if 51 with fail
    go_cut [] (fun wx => CutA w s.size cap l wx)
    case first =>
      cases htv : tV l with
      | true =>
        have hv : isV l = 1 := of_decide_eq_true htv
        have he := isV_ok hv
        have e8 : Go.Proofs.YtaeophaecclnbaaGreatDoor.u8 l = ⟨(Go.Proofs.YtaeophaecclnbaaGreatDoor.u7 l).at_ + (vlS (l.drop (Go.Proofs.YtaeophaecclnbaaGreatDoor.u7 l).at_)).2.1, (vlS (l.drop (Go.Proofs.YtaeophaecclnbaaGreatDoor.u7 l).at_)).2.2⟩ := (if_pos hv).trans (nxS_is he)
        have eV : (askX l).value = (vlS (l.drop (Go.Proofs.YtaeophaecclnbaaGreatDoor.u7 l).at_)).1 := (if_pos hv).trans (val_nx he)
        clear hv he
        have q0 := T7.out.re.c0
        have q1 := T7.out.re.c1
        have qf1 := T7.out.re.f1
        have qf2 := T7.out.re.f2
        have hlt := T7.out.re.lt
        have hle := T7.out.re.le
        have HBS := Lib.hid T7.out.re.bs
        have hcap := T7.out.re.bs.cap
        have hsm := T7.out.re.bs.small
        have hq := (valR (l.drop (Go.Proofs.YtaeophaecclnbaaGreatDoor.u7 l).at_)).to
        rw [List.length_drop, hlz] at hq
        by_cases hpc : cap = (Go.Proofs.YtaeophaecclnbaaGreatDoor.u7 l).at_
        · have HPN := Lib.hid (show (Go.Proofs.YtaeophaecclnbaaGreatDoor.u7 l).at_ = s.size by omega)
          have HS := Lib.hid (show ∀ w', Below W7.heap.size W7 w' → w'.cell? ⟨w.heap.size + 1 + 1, 0, none⟩ = some (.slice (some ⟨w.heap.size + 1, 0, none⟩) s.size cap) ∧ w'.cell? ⟨w.heap.size + 1 + 1, 1, none⟩ = some (.int .i64 (Go.Proofs.YtaeophaecclnbaaGreatDoor.u7 l).at_) from fun w' hb => ⟨(hb.cell (p := ⟨w.heap.size + 1 + 1, 0, none⟩) hlt).trans q0, (hb.cell (p := ⟨w.heap.size + 1 + 1, 1, none⟩) hlt).trans q1⟩)
          go_wp2_with fail
          go_region_held3 (fun w' => w'.cell? ⟨w.heap.size + 1 + 1, 0, none⟩ = some (.slice (some ⟨w.heap.size + 1, 0, none⟩) s.size cap) ∧ w'.cell? ⟨w.heap.size + 1 + 1, 1, none⟩ = some (.int .i64 (Go.Proofs.YtaeophaecclnbaaGreatDoor.u7 l).at_)) (first | exact HS.out _ (Below.refl _ _).drew | exact HS.out _ (bthen (Below.refl _ _).drew (by assumption))) (first | (go_at_call 21; refine (rvalue_e0 (HBS.out.below (Below.refl _ W7).drew) HPN.out).mono ?_; rintro e w8 ⟨A1, c1, rfl, hn8, hf8, hb⟩))
          replace hb := bthen (Below.refl _ W7).drew hb
          have hw1 : IntKind.i64.wrap (((Go.Proofs.YtaeophaecclnbaaGreatDoor.u7 l).at_ : Int) + ((vlS (l.drop (Go.Proofs.YtaeophaecclnbaaGreatDoor.u7 l).at_)).2.1 : Int)) = ((Go.Proofs.YtaeophaecclnbaaGreatDoor.u7 l).at_ : Int) + ((vlS (l.drop (Go.Proofs.YtaeophaecclnbaaGreatDoor.u7 l).at_)).2.1 : Int) := IntWalk.i64_in _ (by omega)
          have d1 := (hb.cell (p := ⟨w.heap.size + 1 + 1, 1, none⟩) hlt).trans q1
          have d2 := (hb.cell (p := ⟨w.heap.size + 1 + 1, 2, none⟩) hlt).trans q2
          have g1 := (hb.frozen (p := ⟨w.heap.size + 1 + 1, 1, none⟩) hlt).trans qf1
          have g2 := (hb.frozen (p := ⟨w.heap.size + 1 + 1, 2, none⟩) hlt).trans qf2
          have GS := GoE.store (q := (Go.Proofs.YtaeophaecclnbaaGreatDoor.u7 l).at_ + (vlS (l.drop (Go.Proofs.YtaeophaecclnbaaGreatDoor.u7 l).at_)).2.1) (er' := (vlS (l.drop (Go.Proofs.YtaeophaecclnbaaGreatDoor.u7 l).at_)).2.2) d1 d2 (((Go.Proofs.YtaeophaecclnbaaGreatDoor.u7 l).at_ : Int) + ((vlS (l.drop (Go.Proofs.YtaeophaecclnbaaGreatDoor.u7 l).at_)).2.1 : Int)) (by omega)
          have S := (T7.out.keep hb).next GS (by omega)
          have hf9 := hf8.mono (show w.heap.size + 1 + 1 + 1 + 1 ≤ W7.drew.heap.size from T7.out.ask.lt)
          have n9 := hn8.go hf9 (by omega) GS
          have a6 := (T7.out.keep hb).ask.c 6 _ rfl
          have a6f := (T7.out.keep hb).ask.f 6
          have U8 := Lib.hid (UnR.cutA (c1 := c1) S e8 eV rfl n9 hf9)
          clear hb GS S hf8 hn8 n9 hf9
          go_wp2_with fail
          go_meet
          exact U8.out
        · skip
          have HS := Lib.hid (show ∀ w', Below W7.heap.size W7 w' → w'.cell? ⟨w.heap.size + 1 + 1, 0, none⟩ = some (.slice (some ⟨w.heap.size + 1, 0, none⟩) s.size cap) ∧ w'.cell? ⟨w.heap.size + 1 + 1, 1, none⟩ = some (.int .i64 (Go.Proofs.YtaeophaecclnbaaGreatDoor.u7 l).at_) from fun w' hb => ⟨(hb.cell (p := ⟨w.heap.size + 1 + 1, 0, none⟩) hlt).trans q0, (hb.cell (p := ⟨w.heap.size + 1 + 1, 1, none⟩) hlt).trans q1⟩)
          go_wp2_with fail
          go_region_held3 (fun w' => w'.cell? ⟨w.heap.size + 1 + 1, 0, none⟩ = some (.slice (some ⟨w.heap.size + 1, 0, none⟩) s.size cap) ∧ w'.cell? ⟨w.heap.size + 1 + 1, 1, none⟩ = some (.int .i64 (Go.Proofs.YtaeophaecclnbaaGreatDoor.u7 l).at_)) (first | exact HS.out _ (Below.refl _ _).drew | exact HS.out _ (bthen (Below.refl _ _).drew (by assumption))) (first | (go_at_call 21; refine (rvalue_d0 (HBS.out.below (Below.refl _ W7).drew) hle).mono ?_; rintro e w8 ⟨A1, c1, rfl, hn8, hf8, hb⟩))
          replace hb := bthen (Below.refl _ W7).drew hb
          have hw1 : IntKind.i64.wrap (((Go.Proofs.YtaeophaecclnbaaGreatDoor.u7 l).at_ : Int) + ((vlS (l.drop (Go.Proofs.YtaeophaecclnbaaGreatDoor.u7 l).at_)).2.1 : Int)) = ((Go.Proofs.YtaeophaecclnbaaGreatDoor.u7 l).at_ : Int) + ((vlS (l.drop (Go.Proofs.YtaeophaecclnbaaGreatDoor.u7 l).at_)).2.1 : Int) := IntWalk.i64_in _ (by omega)
          have d1 := (hb.cell (p := ⟨w.heap.size + 1 + 1, 1, none⟩) hlt).trans q1
          have d2 := (hb.cell (p := ⟨w.heap.size + 1 + 1, 2, none⟩) hlt).trans q2
          have g1 := (hb.frozen (p := ⟨w.heap.size + 1 + 1, 1, none⟩) hlt).trans qf1
          have g2 := (hb.frozen (p := ⟨w.heap.size + 1 + 1, 2, none⟩) hlt).trans qf2
          have GS := GoE.store (q := (Go.Proofs.YtaeophaecclnbaaGreatDoor.u7 l).at_ + (vlS (l.drop (Go.Proofs.YtaeophaecclnbaaGreatDoor.u7 l).at_)).2.1) (er' := (vlS (l.drop (Go.Proofs.YtaeophaecclnbaaGreatDoor.u7 l).at_)).2.2) d1 d2 (((Go.Proofs.YtaeophaecclnbaaGreatDoor.u7 l).at_ : Int) + ((vlS (l.drop (Go.Proofs.YtaeophaecclnbaaGreatDoor.u7 l).at_)).2.1 : Int)) (by omega)
          have S := (T7.out.keep hb).next GS (by omega)
          have hf9 := hf8.mono (show w.heap.size + 1 + 1 + 1 + 1 ≤ W7.drew.heap.size from T7.out.ask.lt)
          have n9 := hn8.go hf9 (by omega) GS
          have a6 := (T7.out.keep hb).ask.c 6 _ rfl
          have a6f := (T7.out.keep hb).ask.f 6
          have U8 := Lib.hid (UnR.cutA (c1 := c1) S e8 eV rfl n9 hf9)
          clear hb GS S hf8 hn8 n9 hf9
          go_wp2_with fail
          go_meet
          exact U8.out
      | false =>
        have hv : ¬ isV l = 1 := of_decide_eq_false htv
        have e8 : Go.Proofs.YtaeophaecclnbaaGreatDoor.u8 l = Go.Proofs.YtaeophaecclnbaaGreatDoor.u7 l := if_neg hv
        have eX : (askX l).value = [] := if_neg hv
        have U8 := Lib.hid (show CutA w s.size cap l W7 from ⟨none, 0, by rw [e8, eX]; exact T7.out, by rw [eX]; exact NodesIn.nil, by rw [eX]; exact Far.nil⟩)
        clear hv e8 eX
        go_wp2_with fail
        go_meet
        exact U8.out
    obtain ⟨A1, c1, S8, n8, f8⟩ := hcut
    have T8 := Lib.hid S8
    have N8 := Lib.hid (And.intro n8 f8)
    clear S8 n8 f8 T7 q2
    go_wp2_with fail
    refine (xint_any T8.out.re).mono ?_
    rintro e W9 ⟨rfl, g⟩
    have S : UnR w W9 _ _ l (Go.Proofs.YtaeophaecclnbaaGreatDoor.u9 l) _ := T8.out.next g (by have h := @u9_le l; rw [hlz] at h; exact h)
    have n9 := N8.out.1.go N8.out.2 (by omega) g
    have a1 := S.ask.c 7 _ rfl
    have af := S.ask.f
    have T9 := Lib.hid (S.set 7 (.int .i64 (nxV 0 intS l (Go.Proofs.YtaeophaecclnbaaGreatDoor.u8 l))))
    have N9 := Lib.hid (show NodesIn (W9.setCell ⟨w.heap.size + 1 + 1 + 1, 7, none⟩ (.int .i64 (nxV 0 intS l (Go.Proofs.YtaeophaecclnbaaGreatDoor.u8 l)))) _ (askX l).value ∧ Far (w.heap.size + 1 + 1 + 1 + 1) _ (askX l).value.length from ⟨n9.set N8.out.2 (by omega), N8.out.2⟩)
    clear g S n9
    go_wp2_with fail
    clear a1 af
    refine (xint_any T9.out.re).mono ?_
    rintro e W10 ⟨rfl, g⟩
    have S : UnR w W10 _ _ l (Go.Proofs.YtaeophaecclnbaaGreatDoor.u10 l) _ := T9.out.next g (by have h := @u10_le l; rw [hlz] at h; exact h)
    have n9 := N9.out.1.go N9.out.2 (by omega) g
    have a1 := S.ask.c 8 _ rfl
    have af := S.ask.f
    have q2 := S.re.c2
    have q2b := (World.cell?_of_block (a := ⟨w.heap.size + 1 + 1, 2, none⟩) (heap_setCell_other W10 ⟨w.heap.size + 1 + 1 + 1, 8, none⟩ (w.heap.size + 1 + 1) (.int .i64 (nxV 0 intS l (Go.Proofs.YtaeophaecclnbaaGreatDoor.u9 l))) (by show w.heap.size + 1 + 1 ≠ w.heap.size + 1 + 1 + 1; omega))).trans q2
    have TX := Lib.hid (S.set 8 (.int .i64 (nxV 0 intS l (Go.Proofs.YtaeophaecclnbaaGreatDoor.u9 l))))
    have N10 := Lib.hid (show NodesIn (W10.setCell ⟨w.heap.size + 1 + 1 + 1, 8, none⟩ (.int .i64 (nxV 0 intS l (Go.Proofs.YtaeophaecclnbaaGreatDoor.u9 l)))) _ (askX l).value ∧ Far (w.heap.size + 1 + 1 + 1 + 1) _ (askX l).value.length from ⟨n9.set N9.out.2 (by omega), N9.out.2⟩)
    clear g S n9
    go_upto_if 92 with fail
    clear a1 af q2 q2b
    have T10 := TX
    generalize W10.setCell ⟨w.heap.size + 1 + 1 + 1, 8, none⟩ (.int .i64 (nxV 0 intS l (Go.Proofs.YtaeophaecclnbaaGreatDoor.u9 l))) = WX at *
    clear TX
    go_cut [] (fun wx => CutE w s.size cap l A1 c1 wx)
    case first =>
      by_cases he : (Go.Proofs.YtaeophaecclnbaaGreatDoor.u10 l).e = 0
      · have hd10 : decide ((Go.Proofs.YtaeophaecclnbaaGreatDoor.u10 l).e = 0) = true := decide_eq_true he
        have hb10 : ((Go.Proofs.YtaeophaecclnbaaGreatDoor.u10 l).e == 0) = true := by rw [he]; rfl
        have eE : (askX l).events = (histS (l.drop (Go.Proofs.YtaeophaecclnbaaGreatDoor.u10 l).at_)).1 := hist_nx he
        have e11 : Go.Proofs.YtaeophaecclnbaaGreatDoor.u11 l = ⟨(Go.Proofs.YtaeophaecclnbaaGreatDoor.u10 l).at_ + (histS (l.drop (Go.Proofs.YtaeophaecclnbaaGreatDoor.u10 l).at_)).2.1, (histS (l.drop (Go.Proofs.YtaeophaecclnbaaGreatDoor.u10 l).at_)).2.2⟩ := nxS_is he
        have q0 := T10.out.re.c0
        have q1 := T10.out.re.c1
        have q2 := T10.out.re.c2
        have qf1 := T10.out.re.f1
        have qf2 := T10.out.re.f2
        have hlt := T10.out.re.lt
        have hle := T10.out.re.le
        have HBS := Lib.hid T10.out.re.bs
        have hcap := T10.out.re.bs.cap
        have hsm := T10.out.re.bs.small
        have hq := hist_pos (l := l.drop (Go.Proofs.YtaeophaecclnbaaGreatDoor.u10 l).at_) (by rw [List.length_drop]; omega)
        rw [List.length_drop, hlz] at hq
        by_cases hpc : cap = (Go.Proofs.YtaeophaecclnbaaGreatDoor.u10 l).at_
        · have HPN := Lib.hid (show (Go.Proofs.YtaeophaecclnbaaGreatDoor.u10 l).at_ = s.size by omega)
          have HS := Lib.hid (show ∀ w', Below WX.heap.size WX w' → w'.cell? ⟨w.heap.size + 1 + 1, 0, none⟩ = some (.slice (some ⟨w.heap.size + 1, 0, none⟩) s.size cap) ∧ w'.cell? ⟨w.heap.size + 1 + 1, 1, none⟩ = some (.int .i64 (Go.Proofs.YtaeophaecclnbaaGreatDoor.u10 l).at_) from fun w' hb => ⟨(hb.cell (p := ⟨w.heap.size + 1 + 1, 0, none⟩) hlt).trans q0, (hb.cell (p := ⟨w.heap.size + 1 + 1, 1, none⟩) hlt).trans q1⟩)
          go_wp2_with fail
          go_region_held3 (fun w' => w'.cell? ⟨w.heap.size + 1 + 1, 0, none⟩ = some (.slice (some ⟨w.heap.size + 1, 0, none⟩) s.size cap) ∧ w'.cell? ⟨w.heap.size + 1 + 1, 1, none⟩ = some (.int .i64 (Go.Proofs.YtaeophaecclnbaaGreatDoor.u10 l).at_)) (first | exact HS.out _ (Below.refl _ _).drew | exact HS.out _ (bthen (Below.refl _ _).drew (by assumption))) (first | (go_at_call 22; refine (runpack_e0 (HBS.out.below (Below.refl _ WX).drew) HPN.out).mono ?_; rintro e w8 ⟨A2, c2, rfl, hev, hb⟩))
          replace hb := bthen (Below.refl _ WX).drew hb
          have hw1 : IntKind.i64.wrap (((Go.Proofs.YtaeophaecclnbaaGreatDoor.u10 l).at_ : Int) + ((histS (l.drop (Go.Proofs.YtaeophaecclnbaaGreatDoor.u10 l).at_)).2.1 : Int)) = ((Go.Proofs.YtaeophaecclnbaaGreatDoor.u10 l).at_ : Int) + ((histS (l.drop (Go.Proofs.YtaeophaecclnbaaGreatDoor.u10 l).at_)).2.1 : Int) := IntWalk.i64_in _ (by omega)
          have d1 := (hb.cell (p := ⟨w.heap.size + 1 + 1, 1, none⟩) hlt).trans q1
          have d2 := (hb.cell (p := ⟨w.heap.size + 1 + 1, 2, none⟩) hlt).trans q2
          have g1 := (hb.frozen (p := ⟨w.heap.size + 1 + 1, 1, none⟩) hlt).trans qf1
          have g2 := (hb.frozen (p := ⟨w.heap.size + 1 + 1, 2, none⟩) hlt).trans qf2
          have GS := GoE.store (q := (Go.Proofs.YtaeophaecclnbaaGreatDoor.u10 l).at_ + (histS (l.drop (Go.Proofs.YtaeophaecclnbaaGreatDoor.u10 l).at_)).2.1) (er' := (histS (l.drop (Go.Proofs.YtaeophaecclnbaaGreatDoor.u10 l).at_)).2.2) d1 d2 (((Go.Proofs.YtaeophaecclnbaaGreatDoor.u10 l).at_ : Int) + ((histS (l.drop (Go.Proofs.YtaeophaecclnbaaGreatDoor.u10 l).at_)).2.1 : Int)) (by omega)
          have S := (T10.out.keep hb).next GS (by omega)
          have n9 := (N10.out.1.keep hb).go N10.out.2 (by omega) GS
          have ev9 := EvsR.go (hev.mono' (show w.heap.size + 1 + 1 + 1 + 1 ≤ WX.drew.heap.size from T10.out.ask.lt)) (by omega) GS
          have a9 := (T10.out.keep hb).ask.c 9 _ rfl
          have a9f := (T10.out.keep hb).ask.f 9
          have U11 := Lib.hid (UnR.cutE (c1 := c1) (c2 := c2) S e11 eE rfl n9 N10.out.2 ev9)
          clear hb GS S hev n9 ev9
          go_wp2_with fail
          go_meet
          exact U11.out
        · skip
          have HS := Lib.hid (show ∀ w', Below WX.heap.size WX w' → w'.cell? ⟨w.heap.size + 1 + 1, 0, none⟩ = some (.slice (some ⟨w.heap.size + 1, 0, none⟩) s.size cap) ∧ w'.cell? ⟨w.heap.size + 1 + 1, 1, none⟩ = some (.int .i64 (Go.Proofs.YtaeophaecclnbaaGreatDoor.u10 l).at_) from fun w' hb => ⟨(hb.cell (p := ⟨w.heap.size + 1 + 1, 0, none⟩) hlt).trans q0, (hb.cell (p := ⟨w.heap.size + 1 + 1, 1, none⟩) hlt).trans q1⟩)
          go_wp2_with fail
          go_region_held3 (fun w' => w'.cell? ⟨w.heap.size + 1 + 1, 0, none⟩ = some (.slice (some ⟨w.heap.size + 1, 0, none⟩) s.size cap) ∧ w'.cell? ⟨w.heap.size + 1 + 1, 1, none⟩ = some (.int .i64 (Go.Proofs.YtaeophaecclnbaaGreatDoor.u10 l).at_)) (first | exact HS.out _ (Below.refl _ _).drew | exact HS.out _ (bthen (Below.refl _ _).drew (by assumption))) (first | (go_at_call 22; refine (runpack_d0 (HBS.out.below (Below.refl _ WX).drew) hle).mono ?_; rintro e w8 ⟨A2, c2, rfl, hev, hb⟩))
          replace hb := bthen (Below.refl _ WX).drew hb
          have hw1 : IntKind.i64.wrap (((Go.Proofs.YtaeophaecclnbaaGreatDoor.u10 l).at_ : Int) + ((histS (l.drop (Go.Proofs.YtaeophaecclnbaaGreatDoor.u10 l).at_)).2.1 : Int)) = ((Go.Proofs.YtaeophaecclnbaaGreatDoor.u10 l).at_ : Int) + ((histS (l.drop (Go.Proofs.YtaeophaecclnbaaGreatDoor.u10 l).at_)).2.1 : Int) := IntWalk.i64_in _ (by omega)
          have d1 := (hb.cell (p := ⟨w.heap.size + 1 + 1, 1, none⟩) hlt).trans q1
          have d2 := (hb.cell (p := ⟨w.heap.size + 1 + 1, 2, none⟩) hlt).trans q2
          have g1 := (hb.frozen (p := ⟨w.heap.size + 1 + 1, 1, none⟩) hlt).trans qf1
          have g2 := (hb.frozen (p := ⟨w.heap.size + 1 + 1, 2, none⟩) hlt).trans qf2
          have GS := GoE.store (q := (Go.Proofs.YtaeophaecclnbaaGreatDoor.u10 l).at_ + (histS (l.drop (Go.Proofs.YtaeophaecclnbaaGreatDoor.u10 l).at_)).2.1) (er' := (histS (l.drop (Go.Proofs.YtaeophaecclnbaaGreatDoor.u10 l).at_)).2.2) d1 d2 (((Go.Proofs.YtaeophaecclnbaaGreatDoor.u10 l).at_ : Int) + ((histS (l.drop (Go.Proofs.YtaeophaecclnbaaGreatDoor.u10 l).at_)).2.1 : Int)) (by omega)
          have S := (T10.out.keep hb).next GS (by omega)
          have n9 := (N10.out.1.keep hb).go N10.out.2 (by omega) GS
          have ev9 := EvsR.go (hev.mono' (show w.heap.size + 1 + 1 + 1 + 1 ≤ WX.drew.heap.size from T10.out.ask.lt)) (by omega) GS
          have a9 := (T10.out.keep hb).ask.c 9 _ rfl
          have a9f := (T10.out.keep hb).ask.f 9
          have U11 := Lib.hid (UnR.cutE (c1 := c1) (c2 := c2) S e11 eE rfl n9 N10.out.2 ev9)
          clear hb GS S hev n9 ev9
          go_wp2_with fail
          go_meet
          exact U11.out
      · have hd10 : decide ((Go.Proofs.YtaeophaecclnbaaGreatDoor.u10 l).e = 0) = false := decide_eq_false he
        have hb10 : ((Go.Proofs.YtaeophaecclnbaaGreatDoor.u10 l).e == 0) = false := by simpa using he
        have e11 : Go.Proofs.YtaeophaecclnbaaGreatDoor.u11 l = Go.Proofs.YtaeophaecclnbaaGreatDoor.u10 l := nxS_no he
        have eE : (askX l).events = [] := nxV_no he
        have U11 := Lib.hid (show CutE w s.size cap l A1 c1 WX from ⟨none, 0, by rw [e11, eE]; exact T10.out, N10.out.1, N10.out.2, _, Nat.lt_succ_self _, by rw [eE]; exact EvsR.nil⟩)
        go_wp2_with fail
        go_meet
        exact U11.out
    obtain ⟨A2, c2, S11, n11, f11, B, hB, hE⟩ := hcut
    have T11 := Lib.hid S11
    have N11 := Lib.hid (And.intro n11 f11)
    have E11 := Lib.hid (And.intro hB hE)
    have q1 := S11.re.c1
    have q2 := S11.re.c2
    have qf1 := S11.re.f1
    have qf2 := S11.re.f2
    have r0 := S11.res.c 0 _ rfl
    have r1 := S11.res.c 1 _ rfl
    have r2 := S11.res.c 2 _ rfl
    have r3 := S11.res.c 3 _ rfl
    have r4 := S11.res.c 4 _ rfl
    have r5 := S11.res.c 5 _ rfl
    have r6 := S11.res.c 6 _ rfl
    have r7 := S11.res.c 7 _ rfl
    have r8 := S11.res.c 8 _ rfl
    have r9 := S11.res.c 9 _ rfl
    have rf := S11.res.f
    have y0 := S11.ask.c 0 _ rfl
    have y1 := S11.ask.c 1 _ rfl
    have y2 := S11.ask.c 2 _ rfl
    have y3 := S11.ask.c 3 _ rfl
    have y4 := S11.ask.c 4 _ rfl
    have y5 := S11.ask.c 5 _ rfl
    have y6 := S11.ask.c 6 _ rfl
    have y7 := S11.ask.c 7 _ rfl
    have y8 := S11.ask.c 8 _ rfl
    have y9 := S11.ask.c 9 _ rfl
    clear S11 n11 f11 hB hE T10 N10
    have hlw := T11.out.ask.lt
    have hne : w.heap.size + 1 + 1 ≠ w.heap.size := by omega
    have hn3 : w.heap.size + 1 + 1 + 1 ≠ w.heap.size := by omega
    by_cases he : (Go.Proofs.YtaeophaecclnbaaGreatDoor.u11 l).e = 0
    · have hd11 : ((Go.Proofs.YtaeophaecclnbaaGreatDoor.u11 l).e != 0) = false := by rw [he]; rfl
      have HE := Lib.hid he
      clear he
      go_upto_region 27 with fail
      refine region_ref (hcode := rfl) (show Cs wc (w.heap.size + 1 + 1 + 1) [.string (strB (nxV [] textS l (Go.Proofs.YtaeophaecclnbaaGreatDoor.u1 l))), .int .i64 (nxV 0 intS l (Go.Proofs.YtaeophaecclnbaaGreatDoor.u2 l)), .int .u8 ((nxV 0 (flagS 255) l u0 : Nat) : Int), .string (strB (nxV [] textS l (Go.Proofs.YtaeophaecclnbaaGreatDoor.u3 l))), .string (strB (nxV [] textS l (Go.Proofs.YtaeophaecclnbaaGreatDoor.u4 l))), .string (strB (nxV [] textS l (Go.Proofs.YtaeophaecclnbaaGreatDoor.u5 l))), .slice A1 (askX l).value.length c1, .int .i64 (nxV 0 intS l (Go.Proofs.YtaeophaecclnbaaGreatDoor.u8 l)), .int .i64 (nxV 0 intS l (Go.Proofs.YtaeophaecclnbaaGreatDoor.u9 l)), .slice A2 (askX l).events.length c2] from T11.out.ask) (show Cs wc w.heap.size askZ from T11.out.res) rfl q1 hne hn3 ?_
      go_wp2_with fail
      refine ret_ref (show Cs _ w.heap.size [.string (strB (nxV [] textS l (Go.Proofs.YtaeophaecclnbaaGreatDoor.u1 l))), .int .i64 (nxV 0 intS l (Go.Proofs.YtaeophaecclnbaaGreatDoor.u2 l)), .int .u8 ((nxV 0 (flagS 255) l u0 : Nat) : Int), .string (strB (nxV [] textS l (Go.Proofs.YtaeophaecclnbaaGreatDoor.u3 l))), .string (strB (nxV [] textS l (Go.Proofs.YtaeophaecclnbaaGreatDoor.u4 l))), .string (strB (nxV [] textS l (Go.Proofs.YtaeophaecclnbaaGreatDoor.u5 l))), .slice A1 (askX l).value.length c1, .int .i64 (nxV 0 intS l (Go.Proofs.YtaeophaecclnbaaGreatDoor.u8 l)), .int .i64 (nxV 0 intS l (Go.Proofs.YtaeophaecclnbaaGreatDoor.u9 l)), .slice A2 (askX l).events.length c2] from full10 T11.out.res rfl) ?_
      have hu := unp_ok (l := l) (by rw [hlz]; exact HNL.out) HE.out
      obtain ⟨hB, hE⟩ := E11.out
      have hb0 := T11.out.bel
      refine ⟨A1, c1, A2, c2, ?_, ?_, ?_, by go_grown⟩
      · rw [hu]; rfl
      · rw [hu]
        have hlt3 : w.heap.size < w.heap.size + 1 + 1 + 1 + 1 := by omega
        refine NodesIn.keep ?_ ((Below.refl _ _).drew)
        repeat (with_reducible refine NodesIn.set (B := w.heap.size + 1 + 1 + 1 + 1) ?_ N11.out.2 hlt3)
        exact N11.out.1
      · rw [hu]
        refine EvsR.evs (B := B) (cap := c2) ?_
        have hB0 : w.heap.size < B := by omega
        refine EvsR.below ?_ ((Below.refl _ _).drew)
        repeat (with_reducible refine EvsR.set ?_ hB0)
        exact hE
    · have hd11 : ((Go.Proofs.YtaeophaecclnbaaGreatDoor.u11 l).e != 0) = true := bne_iff_ne.2 he
      have HE := Lib.hid he
      clear he
      have KA := Lib.hid (show (fun w' : World => w'.cell? ⟨w.heap.size + 1 + 1, 1, none⟩ = some (.int .i64 (Go.Proofs.YtaeophaecclnbaaGreatDoor.u11 l).at_) ∧ w'.cell? ⟨w.heap.size + 1 + 1, 2, none⟩ = some (.int .i64 (Go.Proofs.YtaeophaecclnbaaGreatDoor.u11 l).e)) wc.drew from ⟨cell_drew q1, cell_drew q2⟩)
      have KB := Lib.hid (show (fun w' : World => w'.cell? ⟨w.heap.size + 1 + 1, 1, none⟩ = some (.int .i64 (Go.Proofs.YtaeophaecclnbaaGreatDoor.u11 l).at_) ∧ w'.cell? ⟨w.heap.size + 1 + 1, 2, none⟩ = some (.int .i64 (Go.Proofs.YtaeophaecclnbaaGreatDoor.u11 l).e)) (World.drew (World.setCell (World.setCell (World.setCell (World.setCell (World.setCell (World.setCell (World.setCell (World.setCell (World.setCell (World.setCell wc ⟨w.heap.size, 0, none⟩ (.string ⟨#[]⟩)) ⟨w.heap.size, 1, none⟩ (.int .i64 0)) ⟨w.heap.size, 2, none⟩ (.int .u8 0)) ⟨w.heap.size, 3, none⟩ (.string ⟨#[]⟩)) ⟨w.heap.size, 4, none⟩ (.string ⟨#[]⟩)) ⟨w.heap.size, 5, none⟩ (.string ⟨#[]⟩)) ⟨w.heap.size, 6, none⟩ (.slice none 0 0)) ⟨w.heap.size, 7, none⟩ (.int .i64 0)) ⟨w.heap.size, 8, none⟩ (.int .i64 0)) ⟨w.heap.size, 9, none⟩ (.slice none 0 0))) from ⟨cell_drew (far10 q1 hne), cell_drew (far10 q2 hne)⟩)
      have KC := Lib.hid (show (fun w' : World => w'.cell? ⟨w.heap.size + 1 + 1, 1, none⟩ = some (.int .i64 (Go.Proofs.YtaeophaecclnbaaGreatDoor.u11 l).at_) ∧ w'.cell? ⟨w.heap.size + 1 + 1, 2, none⟩ = some (.int .i64 (Go.Proofs.YtaeophaecclnbaaGreatDoor.u11 l).e)) (World.setCell (World.setCell (World.setCell (World.setCell (World.setCell (World.setCell (World.setCell (World.setCell (World.setCell (World.setCell wc.drew ⟨w.heap.size, 0, none⟩ (.string ⟨#[]⟩)) ⟨w.heap.size, 1, none⟩ (.int .i64 0)) ⟨w.heap.size, 2, none⟩ (.int .u8 0)) ⟨w.heap.size, 3, none⟩ (.string ⟨#[]⟩)) ⟨w.heap.size, 4, none⟩ (.string ⟨#[]⟩)) ⟨w.heap.size, 5, none⟩ (.string ⟨#[]⟩)) ⟨w.heap.size, 6, none⟩ (.slice none 0 0)) ⟨w.heap.size, 7, none⟩ (.int .i64 0)) ⟨w.heap.size, 8, none⟩ (.int .i64 0)) ⟨w.heap.size, 9, none⟩ (.slice none 0 0)) from ⟨far10 (cell_drew q1) hne, far10 (cell_drew q2) hne⟩)
      go_wp2_with fail
      go_region_held3 (fun w' => w'.cell? ⟨w.heap.size + 1 + 1, 1, none⟩ = some (.int .i64 (Go.Proofs.YtaeophaecclnbaaGreatDoor.u11 l).at_) ∧ w'.cell? ⟨w.heap.size + 1 + 1, 2, none⟩ = some (.int .i64 (Go.Proofs.YtaeophaecclnbaaGreatDoor.u11 l).e)) (first | with_reducible exact KA.out | with_reducible exact KB.out | with_reducible exact KC.out) (fail)
      go_wp2_with fail
      refine bodyPost_ret (v := .tuple #[.agg #[.string ⟨#[]⟩, .int .i64 0, .int .u8 0, .string ⟨#[]⟩, .string ⟨#[]⟩, .string ⟨#[]⟩, .slice none 0 0, .int .i64 0, .int .i64 0, .slice none 0 0], .int .i64 ((Go.Proofs.YtaeophaecclnbaaGreatDoor.u11 l).at_ : Nat), .int .i64 (Go.Proofs.YtaeophaecclnbaaGreatDoor.u11 l).e]) (by first | (simp [results, Tryz.results5, go_sem]; done) | (simp [results, Tryz.results5, go_sem, *]; done)) rfl (UPost.bad (unp_bad (by rw [hlz]; exact HNL.out) HE.out) (by have hb0 := T11.out.bel; go_grown))
end Go.Proofs.YtaeophaecclnbaaGreatDoor

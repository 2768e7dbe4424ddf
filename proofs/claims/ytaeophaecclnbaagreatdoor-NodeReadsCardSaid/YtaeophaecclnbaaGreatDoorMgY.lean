/- NodeReads: both readings of a text are the same question, the same place, the same error. NodeReads: from the walk to the row's post. NodeReads: the row's claim, lifted. -/
import Derived.Test.YtaeophaecclnbaaGreatDoorMgQ
import Derived.Test.YtaeophaecclnbaaGreatDoorNxXQ
import Derived.Test.YtaeophaecclnbaaGreatDoorNxMQ
import Derived.Test.YtaeophaecclnbaaGreatDoorNxWQ
import Derived.Deep.DeepCutAuto
import Derived.Test.YtaeophaecclnbaaGreatDoorFrame
import Derived.Test.YtaeophaecclnbaaGreatDoorNrW
namespace Go.Proofs.YtaeophaecclnbaaGreatDoor
open Go.RowKit

theorem unp_evlen (l : List UInt8) : (unpS l).1.events.length ≤ 4096 := by
  by_cases h : 65536 < l.length
  · rw [unp_long h]; exact Nat.zero_le _
  · by_cases he : (u11 l).e = 0
    · rw [unp_ok h he]
      show (nxV [] histS l (u10 l)).length ≤ 4096
      by_cases h1 : (u10 l).e = 0
      · by_cases h2 : (histS (l.drop (u10 l).at_)).2.2 = 0
        · rw [nxV_ok h1 h2]
          exact (histR (by rw [List.length_drop]; omega)).len
        · rw [nxV_bad h1 h2]; exact Nat.zero_le _
      · rw [nxV_no h1]; exact Nat.zero_le _
    · rw [unp_bad h he]; exact Nat.zero_le _
/-- Both readings of a text that is not too long. -/
theorem reads_two (s : ByteArray) (hs : s.size ≤ 140737488351232) :
    ∃ (x : Ask) (q : Nat) (er : Int), (x.value = [] ∨ Right x.value) ∧ (∀ e, e ∈ x.events → OkEv e) ∧ x.events.length ≤ 4096 ∧
      (∀ w : World, Calls Tryz.prog 4 #[.string s] w (fun e w' => ∃ A1 c1 A2 c2, e = .returned (.tuple #[askV x A1 c1 A2 c2, .int .i64 (q : Int), .int .i64 er]) ∧ NodesIn w' A1 x.value ∧ EvsIn w' A2 x.events ∧ Below w.heap.size w w')) ∧
      (∀ w : World, Calls Tryz.prog 5 #[.string s] w (fun e w' => ∃ A1 c1 A2 c2, e = .returned (.tuple #[askV x A1 c1 A2 c2, .int .i64 (q : Int), .int .i64 er]) ∧ NodesIn w' A1 x.value ∧ EvsIn w' A2 x.events ∧ Below w.heap.size w w')) :=
  ⟨(unpS s.data.toList).1, (unpS s.data.toList).2.1, (unpS s.data.toList).2.2, unp_value _, unp_events _, unp_evlen _, fun w => nunpack_any s hs w, fun w => xunpack_any s hs w⟩
/-- Behind the cut of a long text. -/
def CutS (w : World) (v : Value) (wx : World) : Prop := ∃ s : ByteArray, v = .string s ∧ s.size ≤ 140737488351232 ∧ wx = w
set_option maxRecDepth 100000 in
set_option maxHeartbeats 4000000 in
theorem reads_law (s : ByteArray) (w : World) : Calls Tryz.prog 3 #[.string s] w (RetB (.bool true) w) := by
  go_enter Tryz.func3, Tryz.ntmps3
  go_upto_if 11 with fail
  go_cut [0] (fun v wx => CutS w v wx)
  case first =>
    by_cases hb : 70000 < s.size
    · have hd : decide ((70000 : Int) < (s.size : Int)) = true := decide_eq_true (by omega)
      go_wp2_with fail
      go_meet
      exact ⟨s.extract 0 70000, rfl, by rw [ByteArray.size_extract]; omega, rfl⟩
    · have hd : decide ((70000 : Int) < (s.size : Int)) = false := decide_eq_false (by omega)
      go_wp2_with fail
      go_meet
      exact ⟨s, rfl, by omega, rfl⟩
  obtain ⟨t, rfl, ht, rfl⟩ := hcut
  obtain ⟨x, q, er, hv, he, hn, N1, N2⟩ := reads_two t ht
  have HA := Lib.hid N1
  have HB := Lib.hid N2
  have HV := Lib.hid (And.intro hv (And.intro he hn))
  have q1 : ((q : Int) == (q : Int)) = true := beq_self_eq_true _
  have q2 : (er == er) = true := beq_self_eq_true _
  clear N1 N2 hv he hn ht
  go_wp2_with fail
  refine (HA.out _).mono ?_
  rintro e w1 ⟨A1, c1, A2, c2, rfl, n1, e1, b1⟩
  have P1 := Lib.hid (And.intro n1 (And.intro e1 b1))
  clear n1 e1 b1
  unfold askV
  go_wp2_with fail
  refine (HB.out _).mono ?_
  rintro e w2 ⟨B1, d1, B2, d2, rfl, n2, e2, b2⟩
  have S1 := (Cs.new w1 rfl [.string (strB x.client), .int .i64 x.seq, .int .u8 (x.op : Int), .string (strB x.id), .string (strB x.name), .string (strB x.text), .slice A1 x.value.length c1, .int .i64 x.int, .int .i64 x.token, .slice A2 x.events.length c2] 26).keep b2
  have P2 := Lib.hid (And.intro n2 (And.intro e2 (bthen ((Below.refl w1.heap.size w1).alloc (Nat.le_refl _) _) b2)))
  have y0 := S1.c 0 _ rfl
  have y1 := S1.c 1 _ rfl
  have y2 := S1.c 2 _ rfl
  have y3 := S1.c 3 _ rfl
  have y4 := S1.c 4 _ rfl
  have y5 := S1.c 5 _ rfl
  have y6 := S1.c 6 _ rfl
  have y7 := S1.c 7 _ rfl
  have y8 := S1.c 8 _ rfl
  have y9 := S1.c 9 _ rfl
  have yl := S1.lt
  clear n2 e2 b2 S1
  unfold askV
  go_wp2_with fail
  have P3 := Lib.hid (show ∀ o : Obj, Below w2.heap.size w2 (w2.alloc o) from fun o => (Below.refl _ w2).alloc (Nat.le_refl _) o)
  refine (sameask_any (x := x) (A1 := A1) (a1 := c1) (A2 := A2) (a2 := c2) (B1 := B1) (b1 := d1) (B2 := B2) (b2 := d2) HV.out.1 HV.out.2.1 HV.out.2.2 ((P1.out.1.keep P2.out.2.2).keep (P3.out _)) ((P1.out.2.1.keep P2.out.2.2).keep (P3.out _)) (P2.out.1.keep (P3.out _)) (P2.out.2.1.keep (P3.out _))).mono ?_
  rintro e w3 ⟨rfl, b3⟩
  have P4 := Lib.hid (bthen (bthen (bthen P1.out.2.2 P2.out.2.2) (P3.out _)) b3)
  clear b3
  go_wp2_with fail
  refine (wakes_any _).mono ?_
  rintro e w4 ⟨rfl, b4⟩
  have P5 := Lib.hid (bthen P4.out b4)
  clear b4
  go_wp2_with fail
  go_ret
  exact ⟨rfl, P5.out⟩
end Go.Proofs.YtaeophaecclnbaaGreatDoor
namespace Go.Proofs.YtaeophaecclnbaaGreatDoor
namespace nodeReads
open Go.RowKit Go.ChangeShapes Go.WideShapes Go.ChangeAt
open Go.ChangeMaps (open_string)

set_option maxRecDepth 100000 in
theorem contract (H : Type) (enc : TypeId × Value → H) (W : World) (base : Nat) (args : Array Value) (ds gs : List (DataW H)) (before : List MemPlace)
    (hval : ∀ (j : Nat) t v, Tryz.f3.params[j]? = some t → args[j]? = some v → Value.okWide Tryz.prog W .any base t v)
    (hW : DataW.Whole enc Tryz.prog Tryz.f3.params.toList Rows.nodeReadsSpec.vars false W args.toList ds gs before) (_hLH : laidMetH Tryz.prog Rows.nodeReadsRow.laid W) (_hS : W.ShapedOpen Tryz.prog) :
    Calls Tryz.prog 3 args W fun e W' => ∃ v, e = .returned v ∧ Rows.nodeReadsSpec.post enc Tryz.prog Tryz.f3 false true false false W args v W' := by
  have hW' := hW
  obtain ⟨p, q, hA0, hV, rfl, hfz, hnd⟩ := hW
  have hA : DataW.TrodAll enc Tryz.prog W 0 (fun _ => true) true Tryz.f3.params.toList args.toList ds p := hA0
  rw [Tryz.params3] at hA hval
  obtain ⟨v0, vs0, d0, ds0, p0, q0, hargs, rfl, rfl, h0, r0⟩ := trodAll_cons hA
  obtain ⟨rfl, rfl, rfl⟩ := trodAll_nil r0
  obtain rfl : args = #[v0] := by cases args; simp_all
  obtain ⟨rfl, rfl⟩ := trodVars_none hV
  obtain ⟨a0, rfl, rfl, rfl, w0⟩ := open_string Tryz.underlying9 (hval 0 9 v0 rfl rfl) h0
  clear hA0
  refine (reads_law a0 W).mono fun e W' ⟨he, hb⟩ => ⟨_, he, law_post (by kernel_rfl) rfl rfl rfl hW' hb⟩

end nodeReads
end Go.Proofs.YtaeophaecclnbaaGreatDoor
namespace Go.Proofs.YtaeophaecclnbaaGreatDoor
namespace nodeReads
open Go.RowKit Go.ChangeShapes Go.WideShapes Go.ChangeAt
open Go.ChangeMaps (open_string)

set_option maxRecDepth 100000 in
theorem lifted (os : Os) (started : os.Started) (H : Type) (enc : TypeId × Value → H) (F : Stop.Interp) :
    ReturnsInHanded {} Tryz.checked os 3 .any ((OpenSpec.ofChange Rows.nodeReadsSpec).preRow enc Tryz.prog Tryz.f3 Rows.nodeReadsRow.domain false Rows.nodeReadsRow.laid) (((OpenSpec.ofChange Rows.nodeReadsSpec).at F).post enc Tryz.prog Tryz.f3 false true false false) := by
  refine returnsInHanded_of_row (C := Tryz.checked) (s := OpenSpec.ofChange Rows.nodeReadsSpec) own started (by kernel_rfl) Tryz.func3
    (fits os enc) ?_
  intro W base args ds gs before hval hW _ _ _ hL hS _
  exact contract H enc W base args ds gs before hval hW hL hS

end nodeReads
end Go.Proofs.YtaeophaecclnbaaGreatDoor

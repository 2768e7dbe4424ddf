/- Code's text, the program's, walked. -/
import Derived.Test.YtefijgdbnjmifaaGreatDoorLstB
import Derived.Test.YtefijgdbnjmifaaGreatDoorBldA
namespace Go.Proofs.YtefijgdbnjmifaaGreatDoor
open Go.RowKit

theorem lineS_len (k : Nat) (hk : k ≤ 8192) (x : InsV) (ha0 : 0 ≤ x.a) (ha8 : x.a ≤ 8192) (hi0 : -9223372036854775808 ≤ x.int) (hi1 : x.int ≤ 9223372036854775807) : (lineS k x).length ≤ 100 + 4 * x.text.size := by
  have h1 := itoa_len (a := (k : Int)) (by omega) (by omega)
  have h2 := wordK_len x.op
  have h3 : (headTx k x.op).length ≤ 30 := by
    unfold headTx
    rw [List.length_append, List.length_cons]
    have e : (wordK x.op).data.toList.length = (wordK x.op).size := by simp
    omega
  have h4 : (aTx x.op x.a).length ≤ 22 := by
    unfold aTx; split
    · exact Nat.zero_le _
    · have := itoa_len (a := x.a) (by omega) (by omega)
      simp only [List.length_cons]; omega
  have h5 : (iTx x.op x.int).length ≤ 22 := by
    unfold iTx; split
    · have := itoa_len hi0 hi1
      simp only [List.length_cons]; omega
    · exact Nat.zero_le _
  have e : x.text.data.toList.length = x.text.size := by simp
  have h6 : (tTx x.op x.text).length ≤ 3 + 4 * x.text.size := by
    unfold tTx; split
    · exact Nat.zero_le _
    · split
      · have := quotedS_len x.text.data.toList
        simp only [List.length_cons]; omega
      · simp only [List.length_cons]; omega
  unfold lineS
  simp only [List.length_append]
  omega
theorem listTo_len {c : List InsV} (hr : ∀ k, k < c.length → rightI (atV c k).ins c.length = true) (hl : c.length ≤ 8192) (hi : OkI c) : ∀ k, k ≤ c.length → (listTo c k).length ≤ 101 * k + 4 * textsTo c k := by
  intro k
  induction k with
  | zero => intro _; exact Nat.zero_le _
  | succ k ih =>
    intro hk
    have h1 := ih (by omega)
    have h2 := right_nn (hr k (by omega)) (by omega)
    have h3 := lineS_len k (by omega) (atV c k) h2.1 h2.2 (hi k (by omega)).1 (hi k (by omega)).2
    show (listTo c k ++ (lineS k (atV c k) ++ [10])).length ≤ 101 * (k + 1) + 4 * (textsTo c k + (atV c k).text.size)
    simp only [List.length_append, List.length_cons, List.length_nil]
    omega
/-- Code's text, or none. -/
def listV (c : List InsV) : List UInt8 := if mayS c = 0 then listS c else []
/-- What telling code's text comes to. -/
def LiPost (c : List InsV) (w : World) (e : Ending) (w' : World) : Prop :=
  e = .returned (.tuple #[.string (sp (listV c)), .int .i64 (mayS c)]) ∧ Below w.heap.size w w'
theorem li_bad {c : List InsV} {w w' : World} (h : ¬ mayS c = 0) (hb : Below w.heap.size w w') {z : Int} (hz : mayS c = z) : LiPost c w (.returned (.tuple #[.string ⟨#[]⟩, .int .i64 z])) w' := by
  subst hz
  exact ⟨by unfold listV; rw [if_neg h]; rfl, hb⟩
theorem li_good {c : List InsV} {w w' : World} {s : ByteArray} (h : mayS c = 0) (hs : s = sp (listS c)) (hb : Below w.heap.size w w') : LiPost c w (.returned (.tuple #[.string s, .int .i64 0])) w' :=
  ⟨by unfold listV; rw [if_pos h, h, hs], hb⟩
set_option maxRecDepth 100000 in
set_option maxHeartbeats 2000000 in
theorem list_any {w : World} {A : Option Addr} {n cc : Nat} {cs : List InsV} (hcode : CodeIn w A cs) (hl : cs.length = n) (hok : OkC cs) (hoi : OkI cs) (hn : n ≤ 9223372036854775807) (ht : n ≤ 8192 → textsTo cs n ≤ 1048576) (hp : Pow10 w) :
    Calls Tryz.prog 8 #[.slice A n cc] w (LiPost cs w) := by
  have HC := Lib.hid hcode
  have HL := Lib.hid hl
  have HO := Lib.hid hok
  have HOI := Lib.hid hoi
  have HT := Lib.hid ht
  have HP := Lib.hid hp
  clear hcode hl hok hoi ht hp
  go_enter Tryz.func8, Tryz.ntmps8
  go_wp2_with fail
  refine (all_may HC.out HL.out HO.out hn).mono ?_
  rintro e w1 ⟨rfl, hb1⟩
  have HB1 := Lib.hid hb1
  clear hb1
  by_cases hm : mayS cs = 0
  · have hmb : (mayS cs != 0) = false := by rw [hm]; rfl
    obtain ⟨hl8, hri⟩ := may_ok hm
    have HM := Lib.hid hm
    have HRI := Lib.hid hri
    have hn8 : n ≤ 8192 := by have := HL.out; omega
    have HTT := Lib.hid (HT.out hn8)
    have hz1 := HB1.out.size
    clear hm hri hl8
    go_wp2_with fail
    go_loopw [15] (fun i wr => ∃ k : Nat, i = .int .i64 k ∧ k ≤ n ∧ Bld w.heap.size w1.heap.size (listTo cs k) wr ∧ Below w.heap.size w wr) (fun i _ => n - (intOf i).toNat)
    case atStart => exact ⟨0, rfl, Nat.zero_le _, (Bld.fresh w1).base_le hz1, by exact HB1.out.alloc hz1 _⟩
    case round =>
      obtain ⟨k, rfl, hk, hbl, hbw⟩ := hrel
      have HV := Lib.hid hbl
      have HB := Lib.hid hbw
      clear hbl
      by_cases hlt : k < n
      · obtain ⟨b, off, rfl, hbl, hcell⟩ := HC.out (by rw [HL.out]; omega)
        obtain ⟨q0, q1, q2, q3⟩ := hcell k (by rw [HL.out]; omega)
        have hkk := fun o => hbw.cell (p := ⟨b, o, none⟩) hbl
        have q0 := (hkk _).trans q0
        have q1 := (hkk _).trans q1
        have q2 := (hkk _).trans q2
        have q3 := (hkk _).trans q3
        obtain ⟨ok1, ok2⟩ := HO.out k (by rw [HL.out]; omega)
        obtain ⟨oi1, oi2⟩ := HOI.out k (by rw [HL.out]; omega)
        have RN := right_nn (HRI.out k (by rw [HL.out]; omega)) (by have := HL.out; omega)
        have LN := Lib.hid (listTo_len HRI.out (by have := HL.out; omega) HOI.out (k + 1) (by rw [HL.out]; omega))
        have LT := Lib.hid (show textsTo cs (k + 1) ≤ 1048576 from Nat.le_trans (textsTo_mono cs (show k + 1 ≤ n by omega)) HTT.out)
        have LX := Lib.hid (show (atV cs k).text.size ≤ 1048576 from by have := LT.out; have e : textsTo cs (k + 1) = textsTo cs k + (atV cs k).text.size := rfl; omega)
        have ST := Lib.hid (show listTo cs (k + 1) = listTo cs k ++ (lineS k (atV cs k) ++ [10]) from rfl)
        have SZ := Lib.hid (show (listTo cs k).length + (lineS k (atV cs k)).length + 1 ≤ 8000000 by
          have h1 := LN.out
          rw [ST.out] at h1
          simp only [List.length_append, List.length_cons, List.length_nil] at h1
          have := LT.out
          omega)
        have LA := Lib.hid (fun w hp => line_any k (by omega) (atV cs k) ok1 RN.1 (Int.le_trans (show (atV cs k).a ≤ 8192 from RN.2) (by decide)) oi1 oi2 LX.out w hp)
        have hsz := hbw.size
        clear hkk hcell hbw LN LT LX RN ok1 ok2 oi1 oi2
        generalize lineS k (atV cs k) = ln at *
        generalize atV cs k = x at *
        obtain ⟨op, a, int, text⟩ := x
        simp only at q0 q1 q2 q3
        go_wp2_with fail
        refine (LA.out _ (by exact HP.out.below (HB.out.alloc hsz _))).mono ?_
        rintro e w3 ⟨rfl, hb3⟩
        have HB3 := Lib.hid (bthen' (HB.out.alloc hsz (.cells #[.int .u8 op, .int .i64 a, .int .i64 int, .string text] 40)) hb3 (Nat.le_refl _))
        have HV3 := Lib.hid ((HV.out.keep ((Below.refl _ wr).alloc (Nat.le_refl _) (.cells #[.int .u8 op, .int .i64 a, .int .i64 int, .string text] 40))).keep hb3)
        have hz3 := HB3.out.size
        clear hb3
        go_wp2_with fail
        refine (write_string w.heap.size w1.heap.size (listTo cs k) (sp ln) _ HV3.out (by rw [sp_size]; have := SZ.out; omega) hz3).mono ?_
        rintro e w4 ⟨rfl, hv4, hb4⟩
        have HV4 := Lib.hid hv4
        have SPL := Lib.hid (show (sp ln).data.toList.length = ln.length by simp [sp])
        have HB4 := Lib.hid (HB3.out.trans hb4)
        have hz4 := HB4.out.size
        clear hv4 hb4
        go_wp2_with fail
        refine (write_byte w.heap.size w1.heap.size (listTo cs k ++ (sp ln).data.toList) 10 (by rfl) _ HV4.out (by rw [List.length_append, SPL.out]; have := SZ.out; omega) hz4).mono ?_
        rintro e w5 ⟨rfl, hv5, hb5⟩
        have HV5 := Lib.hid (show Bld w.heap.size w1.heap.size (listTo cs (k + 1)) w5 by rw [ST.out, ← List.append_assoc]; exact hv5)
        have HB5 := Lib.hid (HB4.out.trans hb5)
        clear hv5 hb5
        go_wp2_with fail
        go_roundw
        case rel => exact ⟨k + 1, by go_num, by omega, HV5.out, HB5.out⟩
        case measure => simp [intOf]; omega
      · have KB := Lib.hid (show Bld w.heap.size w1.heap.size (listS cs) wr by unfold listS; rw [HL.out, show n = k by omega]; exact HV.out)
        have hsz := hbw.size
        go_wp2_with fail
        refine (Tryz.Builder_String_any w.heap.size w1.heap.size (listS cs) _ (by exact KB.out) hsz).mono ?_
        rintro e w3 ⟨rfl, hb3⟩
        go_wp2_with fail
        go_ret2
        exact li_good HM.out rfl (HB.out.trans hb3)
  · have hmb : (mayS cs != 0) = true := bne_iff_ne.2 hm
    have HM := Lib.hid hm
    clear hm
    go_wp2_with fail
    go_ret2
    exact li_bad HM.out HB1.out rfl
end Go.Proofs.YtefijgdbnjmifaaGreatDoor

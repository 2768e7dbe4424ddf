/- compile: goer.all and goer.next, walked. -/
import Derived.Test.YtjfdokoigkdciaaPlnA
import Derived.Test.YtjfdokoigkdciaaCplL
import Derived.Deep.RegionHeld3
namespace Go.Proofs.Ytjfdokoigkdciaa
open Go.RowKit

/-- The next tree's code is laid down, whatever stands ahead of it. -/
def NextH (x : GB) (f : Nat) : Prop := ∀ (at_ nx : Nat) (may : Nat → Bool) (code : List InsV) (w : World), CW x code at_ w → Rt x.cs f at_ nx may → (atV x.cs at_).op ≠ 2 → code.length + 3 * (x.cs.length - at_) ≤ 90000 →
  Calls Try.prog 13 #[.pointer (some ⟨x.gb, 0, none⟩)] w (KPost x (.tuple #[]) (code ++ (compS x.cs x.so f at_ code.length).1) nx w)
theorem callS_snoc (nf : Nat → Nat → List InsV × Nat) : ∀ (k at_ fr : Nat), callS nf (k + 1) at_ fr = ((callS nf k at_ fr).1 ++ (nf (callS nf k at_ fr).2 (fr + (callS nf k at_ fr).1.length)).1, (nf (callS nf k at_ fr).2 (fr + (callS nf k at_ fr).1.length)).2)
  | 0, at_, fr => by simp [callS]
  | k + 1, at_, fr => by
    rw [callS, callS_snoc nf k]
    simp only [callS, List.length_append, List.append_assoc, Nat.add_assoc]
theorem CW.setAt {x : GB} (hd : GD x) {code : List InsV} {at_ : Nat} {w : World} (h : CW x code at_ w) (v : Nat) : CW x code v (w.setCell ⟨x.gb, 3, none⟩ (.int .i64 (v : Int))) ∧ GK x.gb x.base w (w.setCell ⟨x.gb, 3, none⟩ (.int .i64 (v : Int))) := by
  obtain ⟨u, h0, ho⟩ := h.c0
  have lo : ∀ k, k < x.base → k ≠ x.gb → (w.setCell ⟨x.gb, 3, none⟩ (.int .i64 (v : Int))).heap[k]? = w.heap[k]? := fun k _ hn => Below.heap_setCell _ _ _ _ hn
  refine ⟨⟨⟨u, (World.cell?_setCell_other _ _ _ _ (by simp)).trans h0, ownsRow_setCell_below ho hd.lt _⟩, (World.cell?_setCell_other _ _ _ _ (by simp)).trans h.c1, (World.cell?_setCell_other _ _ _ _ (by simp)).trans h.c2, World.cell?_setCell_same _ _ _ h.c3, fun o => by rw [World.frozen?_setCell]; exact h.fz o, ?_, h.ro.block (lo _ hd.sb.1 hd.sb.2), by have := h.hb; simp [World.setCell]; omega⟩, GK.setG 3 _⟩
  intro hl
  obtain ⟨b, off, e, hb, hc⟩ := h.cd hl
  obtain ⟨hb1, hb2⟩ := hd.cb hl b off e
  have hk := fun o => World.cell?_of_block (w := w) (a := ⟨b, o, none⟩) (lo b hb1 hb2)
  exact ⟨b, off, e, by simp [World.setCell]; omega, fun k hkk => by
    obtain ⟨g1, g2, g3, g4⟩ := hc k hkk
    exact ⟨(hk _).trans g1, (hk _).trans g2, (hk _).trans g3, (hk _).trans g4⟩⟩
theorem RowI.at {w : World} {rb cap : Nat} {l : List Int} (h : RowI w rb cap l) {k : Nat} (hk : k < l.length) : w.cell? ⟨rb, k, none⟩ = some (.int .i64 (l.getD k 0)) := by
  obtain ⟨cur, h1, _, h3⟩ := h
  rw [Lib.cell_of_heap h1, ← Array.getElem?_toList]
  have : (cur.toList.take l.length)[k]? = some (.int .i64 (l.getD k 0)) := by
    rw [h3, List.getElem?_map, List.getD_eq_getElem?_getD, List.getElem?_eq_getElem hk]; rfl
  rwa [List.getElem?_take_of_lt hk] at this
theorem fill_mid (p q : List InsV) (op : Nat) : fillS (p ++ [insO op] ++ q) p.length = p ++ [insA op ((p.length + 1 + q.length : Nat) : Int)] ++ q := by
  unfold fillS
  have e : atV (p ++ [insO op] ++ q) p.length = insO op := by unfold atV; simp [List.getD]
  rw [e, List.append_assoc, List.set_append_right _ _ (Nat.le_refl _), Nat.sub_self, List.append_assoc]
  simp [insA, insO, Nat.add_assoc, Nat.add_comm q.length 1]
set_option maxRecDepth 100000 in
set_option maxHeartbeats 4000000 in
theorem all_any (x : GB) (f : Nat) (ih : NextH x f) (ks : Nat → Nat) (n : Nat) (pk : Nat) (hp : pk ≠ 0) (nn : Int) (hnn : nn = (n : Int)) (hn : n ≤ 2048) (hk : ∀ i, i < n → Rt x.cs f (ks i) (ks (i + 1)) (partOk pk i nn)) (code : List InsV) (w : World)
    (h : CW x code (ks 0) w) (hr : code.length + 3 * (x.cs.length - ks 0) ≤ 90000) :
    Calls Try.prog 23 #[.pointer (some ⟨x.gb, 0, none⟩), .int .i64 nn] w (KPost x (.tuple #[]) (code ++ (callS (compS x.cs x.so f) n (ks 0) code.length).1) (ks n) w) := by
  subst hnn
  have HC := Lib.hid (fun i (hi : i ≤ n) => callS_ok (cs := x.cs) (nf := compS x.cs x.so f) (ks := ks) (n := i) (fun j fr hj => comp_ok x.cs x.so f (ks j) (ks (j + 1)) _ (hk j (by omega)) (part_no hp (tw_form (rt_ok (hk j (by omega)))).1) fr) i 0 code.length (by omega))
  have H := Lib.hid h
  have HK := Lib.hid hk
  have IH := Lib.hid ih
  have HP := Lib.hid hp
  clear h hk ih hp
  go_enter Try.func23, Try.ntmps23
  go_wp2_with fail
  go_loopw [5] (fun i wl => ∃ k : Nat, i = .int .i64 (k : Int) ∧ k ≤ n ∧ CW x (code ++ (callS (compS x.cs x.so f) k (ks 0) code.length).1) (ks k) wl ∧ GK x.gb x.base w wl) (fun i _ => n - (intOf i).toNat)
  case atStart => exact ⟨0, rfl, Nat.zero_le _, by unfold callS; rw [List.append_nil]; exact H.out, GK.refl _ _ _⟩
  case round =>
    obtain ⟨k, rfl, hkn, hc, hg⟩ := hrel
    have H1 := Lib.hid hc
    have K1 := Lib.hid hg
    clear hc hg
    by_cases hlt : k < n
    · have c1 : decide ((k : Int) < (n : Int)) = true := decide_eq_true (by omega)
      have c2 : decide (k < n) = true := decide_eq_true hlt
      have hcp := HC.out k (by omega)
      have hrt := HK.out k hlt
      have hl := hrt.lt
      have HCN := Lib.hid (IH.out (ks k) (ks (k + 1)) _ _ wr H1.out hrt (part_no HP.out (tw_form (rt_ok hrt)).1) (by rw [List.length_append]; have := hcp.l; have := hcp.le; omega))
      have E := Lib.hid (show (callS (compS x.cs x.so f) (k + 1) (ks 0) code.length).1 = (callS (compS x.cs x.so f) k (ks 0) code.length).1 ++ (compS x.cs x.so f (ks k) (code ++ (callS (compS x.cs x.so f) k (ks 0) code.length).1).length).1 by
        rw [callS_snoc, hcp.e, List.length_append])
      clear hcp hrt hl
      go_wp2_with fail
      refine HCN.out.mono ?_
      rintro e w2 ⟨rfl, g1, g2⟩
      have G1 := Lib.hid g1
      have G2 := Lib.hid g2
      clear g1 g2
      go_wp2_with fail
      go_roundw
      case rel => exact ⟨k + 1, by go_num, by omega, by rw [E.out, ← List.append_assoc]; exact G1.out, K1.out.trans G2.out⟩
      case measure => simp [intOf]; omega
    · obtain rfl : k = n := by omega
      have c2 : decide (k < k) = false := decide_eq_false (by omega)
      go_wp2_with fail
      go_end0
      exact ⟨rfl, H1.out, K1.out⟩
/-- What the head of goer.next reads. -/
structure HeldN (w : World) (x : GB) (cb co at_ op : Nat) (a int : Int) (text : ByteArray) (sv : Int) : Prop where
  d1 : w.cell? ⟨x.gb, 1, none⟩ = some (.slice (some ⟨cb, co, none⟩) x.cs.length x.c)
  d2 : w.cell? ⟨x.gb, 2, none⟩ = some (.slice (some ⟨x.sl, 0, none⟩) x.so.length x.cap)
  d3 : w.cell? ⟨x.gb, 3, none⟩ = some (.int .i64 (at_ : Int))
  e0 : w.cell? ⟨cb, co + at_ * 4, none⟩ = some (.int .u8 (op : Int))
  e1 : w.cell? ⟨cb, co + at_ * 4 + 1, none⟩ = some (.int .i64 a)
  e2 : w.cell? ⟨cb, co + at_ * 4 + 2, none⟩ = some (.int .i64 int)
  e3 : w.cell? ⟨cb, co + at_ * 4 + 3, none⟩ = some (.string text)
  e4 : w.cell? ⟨x.sl, at_, none⟩ = some (.int .i64 sv)
theorem HeldN.alloc {w : World} {x : GB} {cb co at_ op : Nat} {a int : Int} {text : ByteArray} {sv : Int} (h : HeldN w x cb co at_ op a int text sv) (h1 : x.gb < w.heap.size) (h2 : cb < w.heap.size) (h3 : x.sl < w.heap.size) (o : Obj) : HeldN (w.alloc o) x cb co at_ op a int text sv :=
  ⟨(World.cell?_alloc_lt _ _ _ h1).trans h.d1, (World.cell?_alloc_lt _ _ _ h1).trans h.d2, (World.cell?_alloc_lt _ _ _ h1).trans h.d3, (World.cell?_alloc_lt _ _ _ h2).trans h.e0, (World.cell?_alloc_lt _ _ _ h2).trans h.e1, (World.cell?_alloc_lt _ _ _ h2).trans h.e2, (World.cell?_alloc_lt _ _ _ h2).trans h.e3, (World.cell?_alloc_lt _ _ _ h3).trans h.e4⟩
theorem HeldN.all {w : World} {x : GB} {cb co at_ op : Nat} {a int : Int} {text : ByteArray} {sv : Int} (h : HeldN w x cb co at_ op a int text sv) : w.cell? ⟨x.gb, 1, none⟩ = some (.slice (some ⟨cb, co, none⟩) x.cs.length x.c) ∧ w.cell? ⟨x.gb, 2, none⟩ = some (.slice (some ⟨x.sl, 0, none⟩) x.so.length x.cap) ∧ w.cell? ⟨x.gb, 3, none⟩ = some (.int .i64 (at_ : Int)) ∧ w.cell? ⟨cb, co + at_ * 4, none⟩ = some (.int .u8 (op : Int)) ∧ w.cell? ⟨cb, co + at_ * 4 + 1, none⟩ = some (.int .i64 a) ∧ w.cell? ⟨cb, co + at_ * 4 + 2, none⟩ = some (.int .i64 int) ∧ w.cell? ⟨cb, co + at_ * 4 + 3, none⟩ = some (.string text) ∧ w.cell? ⟨x.sl, at_, none⟩ = some (.int .i64 sv) :=
  ⟨h.d1, h.d2, h.d3, h.e0, h.e1, h.e2, h.e3, h.e4⟩
theorem tw_kidsC {x : InsV} {may : Nat → Bool} (h : okTw x may = true) : 0 ≤ x.a ∧ x.a ≤ 2048 := by
  obtain ⟨_, h1, h2⟩ := tw_form h
  have : 0 ≤ (formS x.op).lo ∧ (formS x.op).hi ≤ 2048 := by
    unfold formS
    generalize formN x.op = n
    unfold formR
    split <;> decide
  omega
theorem op_z {x : GB} (hd : GD x) {code : List InsV} {at_ : Nat} {w : World} (h : CW x code at_ w) (hl : code.length ≤ 100000) (op : Nat) (z : Int) (hz : z = (op : Int)) :
    Calls Try.prog 19 #[.pointer (some ⟨x.gb, 0, none⟩), .int .u8 z] w (KPost x (.tuple #[]) (code ++ [insO op]) at_ w) := by subst hz; exact op_any hd h hl op
theorem hole_z {x : GB} (hd : GD x) {code : List InsV} {at_ : Nat} {w : World} (h : CW x code at_ w) (hl : code.length ≤ 100000) (op : Nat) (z : Int) (hz : z = (op : Int)) :
    Calls Try.prog 20 #[.pointer (some ⟨x.gb, 0, none⟩), .int .u8 z] w (HPost x code op at_ w) := by subst hz; exact hole_any hd h hl op
theorem put_z {x : GB} (hd : GD x) {code : List InsV} {at_ : Nat} {w : World} (h : CW x code at_ w) (hl : code.length ≤ 100000) (v : Int) :
    Calls Try.prog 22 #[.pointer (some ⟨x.gb, 0, none⟩), .agg #[.int .u8 1, .int .i64 v, .int .i64 0, .string ⟨#[]⟩]] w fun e w' => e = .returned (.int .i64 (code.length : Int)) ∧ CW x (code ++ [insA 1 v]) at_ w' ∧ GK x.gb x.base w w' := put_any hd h hl (insA 1 v)
set_option maxRecDepth 100000 in
set_option maxHeartbeats 4000000 in
theorem next_rest (x : GB) (hd : GD x) (f : Nat) (ih : NextH x f) (at_ nx : Nat) (may : Nat → Bool) (code : List InsV) (w : World) (h : CW x code at_ w) (hr : Rt x.cs (f + 1) at_ nx may) (hno : (atV x.cs at_).op ≠ 2) (hrm : code.length + 3 * (x.cs.length - at_) ≤ 90000) (ho : (atV x.cs at_).op ≠ 1 ∧ (atV x.cs at_).op ≠ 6 ∧ (atV x.cs at_).op ≠ 7 ∧ (atV x.cs at_).op ≠ 30 ∧ (atV x.cs at_).op ≠ 31 ∧ (atV x.cs at_).op ≠ 53) :
    Calls Try.prog 13 #[.pointer (some ⟨x.gb, 0, none⟩)] w (KPost x (.tuple #[]) (code ++ (compS x.cs x.so (f + 1) at_ code.length).1) nx w) := by
  have hmf : ∀ (fn : Fn) (first cap : Array Value) (w : World), (Instr.makeFunc fn first cap).run Try.prog w = .ok (.func fn first cap) w := fun _ _ _ _ => rfl
  have hnxl := hr.lt
  obtain ⟨hlt, htw, ks, k0, k1, k2⟩ := hr
  have hlen := hd.len
  have hsz := hd.sz
  obtain ⟨cb, co, hA, hcb, hck⟩ := h.cd (by omega)
  obtain ⟨e0, e1, e2, e3⟩ := hck at_ hlt
  have e4 := h.ro.at (k := at_) (by omega)
  have E := Lib.hid (show compS x.cs x.so (f + 1) at_ code.length = ((callS (compS x.cs x.so f) (atV x.cs at_).a.toNat (at_ + 1) code.length).1 ++ plainI (atV x.cs at_) (x.so.getD at_ 0), (callS (compS x.cs x.so f) (atV x.cs at_).a.toNat (at_ + 1) code.length).2) by rw [compS]; simp only; rw [if_neg ho.1, if_neg ho.2.1, if_neg ho.2.2.1, if_neg (by omega), if_neg ho.2.2.2.2.2])
  obtain ⟨_, hlo, hhi⟩ := tw_form htw
  have hab := tw_kidsC htw
  have HIS := Lib.hid (tw_is htw)
  generalize compS x.cs x.so (f + 1) at_ code.length = rr at *
  generalize htq : atV x.cs at_ = tw at *
  obtain ⟨op, a, int, text⟩ := tw
  simp only at e0 e1 e2 e3 hlo hhi k1 k2 ho E HIS hno hab
  generalize x.so.getD at_ 0 = sv at *
  have d1 := h.c1
  have d2 := h.c2
  have d3 := h.c3
  have g1 := h.fz 3
  have hgl := World.block_lt_of_cell? w _ d3
  simp only at hgl
  have hsl := h.ro.lt
  rw [hA] at d1
  have HH := Lib.hid h
  have IH := Lib.hid ih
  have HD := Lib.hid hd
  have KS0 := Lib.hid k0
  have KS1 := Lib.hid k1
  have KS2 := Lib.hid k2
  have HTQ := Lib.hid htq
  have HSZ := Lib.hid hsz
  have hx1 : decide ((at_ : Int) < (x.cs.length : Int)) = true := decide_eq_true (by omega)
  have hx2 : decide ((at_ : Int) < (x.so.length : Int)) = true := decide_eq_true (by omega)
  have hx3 : decide (at_ < x.cs.length) = true := decide_eq_true (by omega)
  have hx4 : decide (at_ < x.so.length) = true := decide_eq_true (by omega)
  have hx5 : at_ < x.so.length := by omega
  have o1 : ((op : Int) == 1) = false := by simp; omega
  have o6 : ((op : Int) == 6) = false := by simp; omega
  have o7 : ((op : Int) == 7) = false := by simp; omega
  have o30 : ((op : Int) == 30) = false := by simp; omega
  have o31 : ((op : Int) == 31) = false := by simp; omega
  have o53 : ((op : Int) == 53) = false := by simp; omega
  have HO := Lib.hid ho
  have HNO := Lib.hid hno
  clear hck h hd k0 k1 k2 ih hA htw htq hsz ho hno
  go_enter_defers Try.func13, Try.ntmps13
  have HFA := Lib.hid (show ∀ o : Obj, HeldN (w.alloc o) x cb co at_ op a int text sv from fun o => HeldN.alloc ⟨d1, d2, d3, e0, e1, e2, e3, e4⟩ hgl hcb hsl o)
  have HFW := Lib.hid (show HeldN w x cb co at_ op a int text sv from ⟨d1, d2, d3, e0, e1, e2, e3, e4⟩)
  go_upto_region 0 with fail
  go_region_held3 (fun w' => w'.cell? ⟨x.gb, 1, none⟩ = some (.slice (some ⟨cb, co, none⟩) x.cs.length x.c) ∧ w'.cell? ⟨x.gb, 2, none⟩ = some (.slice (some ⟨x.sl, 0, none⟩) x.so.length x.cap) ∧ w'.cell? ⟨x.gb, 3, none⟩ = some (.int .i64 (at_ : Int)) ∧ w'.cell? ⟨cb, co + at_ * 4, none⟩ = some (.int .u8 (op : Int)) ∧ w'.cell? ⟨cb, co + at_ * 4 + 1, none⟩ = some (.int .i64 a) ∧ w'.cell? ⟨cb, co + at_ * 4 + 2, none⟩ = some (.int .i64 int) ∧ w'.cell? ⟨cb, co + at_ * 4 + 3, none⟩ = some (.string text) ∧ w'.cell? ⟨x.sl, at_, none⟩ = some (.int .i64 sv))
    (first | exact HFW.out.all | exact (HFA.out _).all) (first | fail)
  obtain ⟨wa, hwa⟩ : ∃ wa, wa = (w.alloc (.cells #[.int .u8 (op : Int), .int .i64 a, .int .i64 int, .string text] 31)).drew := ⟨_, rfl⟩
  have hba : Below w.heap.size w wa := by rw [hwa]; exact ((Below.refl _ w).alloc (Nat.le_refl _) _).drew
  have hbx : wa.heap[w.heap.size]? = some (.cells #[.int .u8 (op : Int), .int .i64 a, .int .i64 int, .string text] 31 (0, 0)) := by rw [hwa]; exact heap_alloc_new _ _
  rw [← hwa]
  clear hwa
  have HDA := Lib.hid (HH.out.low HD.out hba)
  have d3 := HDA.out.c3
  have g1 := HDA.out.fz 3
  have hgl := Nat.lt_of_lt_of_le hgl hba.size
  go_upto_region 2 with fail
  obtain ⟨wn, hwn⟩ : ∃ wn, wn = wa.setCell ⟨x.gb, 3, none⟩ (.int .i64 ((at_ : Int) + 1)) := ⟨_, rfl⟩
  obtain ⟨g1, g2⟩ := HDA.out.setAt HD.out (at_ + 1)
  rw [show ((at_ + 1 : Nat) : Int) = (at_ : Int) + 1 by omega, ← hwn] at g1 g2
  rw [← hwn]
  have HNG := Lib.hid (show w.heap.size ≠ x.gb by have := HH.out.hb; have := HD.out.lt; omega)
  have HX1 := Lib.hid (g2.high _ _ _ (by decide) HNG.out hbx)
  have H1 := Lib.hid g1
  have K1 := Lib.hid ((GK.of_below (gb := x.gb) (base := x.base) hba).trans g2)
  clear hwn hbx hba g1 g2 d1 d2 d3 e0 e1 e2 e3 e4 HDA HFA HFW
  clear hx1 hx2 hx3 hx4 hx5 hgl hcb hsl
  have y0 : wn.cell? ⟨w.heap.size, 0, none⟩ = some (.int .u8 (op : Int)) := by rw [Lib.cell_of_heap HX1.out]; rfl
  have y1 : wn.cell? ⟨w.heap.size, 1, none⟩ = some (.int .i64 a) := by rw [Lib.cell_of_heap HX1.out]; rfl
  go_wp2_with fail
  have hp := form_pk HO.out.1
  have RM := Lib.hid hrm
  have HCP := Lib.hid (callS_ok (cs := x.cs) (nf := compS x.cs x.so f) (ks := ks) (n := a.toNat) (fun j fr hj => comp_ok x.cs x.so f (ks j) (ks (j + 1)) _ (KS2.out j hj) (part_no hp (tw_form (rt_ok (KS2.out j hj))).1) fr) a.toNat 0 code.length (by omega))
  refine (all_any x f IH.out ks a.toNat _ hp a (by omega) (by omega) KS2.out code wn (by rw [KS0.out]; exact H1.out) (by rw [KS0.out]; omega)).mono ?_
  rintro e w5 ⟨rfl, g1, g2⟩
  have HX5 := g2.high _ _ _ (by decide) HNG.out HX1.out
  have z0 : w5.cell? ⟨w.heap.size, 0, none⟩ = some (.int .u8 (op : Int)) := by rw [Lib.cell_of_heap HX5]; rfl
  have z1 : w5.cell? ⟨w.heap.size, 1, none⟩ = some (.int .i64 a) := by rw [Lib.cell_of_heap HX5]; rfl
  have z2 : w5.cell? ⟨w.heap.size, 2, none⟩ = some (.int .i64 int) := by rw [Lib.cell_of_heap HX5]; rfl
  have z3 : w5.cell? ⟨w.heap.size, 3, none⟩ = some (.string text) := by rw [Lib.cell_of_heap HX5]; rfl
  have G1 := Lib.hid g1
  have G2 := Lib.hid (K1.out.trans g2)
  clear g1 g2 HX5 y0 y1
  go_wp2_with fail
  refine (plain_any HD.out G1.out (by rw [List.length_append, KS0.out]; have := HCP.out.l; rw [KS0.out, KS1.out] at this; omega) op a int text sv).mono ?_
  rintro e w6 ⟨rfl, g1, g2⟩
  have G3 := Lib.hid g1
  have G4 := Lib.hid (G2.out.trans g2)
  clear g1 g2
  go_wp2_with fail
  refine ⟨_, results_none rfl _ _ _, rfl, ?_, G4.out⟩
  rw [E.out]
  have G5 := G3.out
  rw [KS0.out, KS1.out, List.append_assoc] at G5
  exact G5
set_option maxRecDepth 100000 in
set_option maxHeartbeats 4000000 in
theorem next_7 (x : GB) (hd : GD x) (f : Nat) (ih : NextH x f) (at_ nx : Nat) (may : Nat → Bool) (code : List InsV) (w : World) (h : CW x code at_ w) (hr : Rt x.cs (f + 1) at_ nx may) (hno : (atV x.cs at_).op ≠ 2) (hrm : code.length + 3 * (x.cs.length - at_) ≤ 90000) (ho : (atV x.cs at_).op = 7) :
    Calls Try.prog 13 #[.pointer (some ⟨x.gb, 0, none⟩)] w (KPost x (.tuple #[]) (code ++ (compS x.cs x.so (f + 1) at_ code.length).1) nx w) := by
  have hmf : ∀ (fn : Fn) (first cap : Array Value) (w : World), (Instr.makeFunc fn first cap).run Try.prog w = .ok (.func fn first cap) w := fun _ _ _ _ => rfl
  have hnxl := hr.lt
  obtain ⟨hlt, htw, ks, k0, k1, k2⟩ := hr
  have hlen := hd.len
  have hsz := hd.sz
  obtain ⟨cb, co, hA, hcb, hck⟩ := h.cd (by omega)
  obtain ⟨e0, e1, e2, e3⟩ := hck at_ hlt
  have e4 := h.ro.at (k := at_) (by omega)
  have kid := fun i fr (hi : i < (atV x.cs at_).a.toNat) => comp_ok x.cs x.so f (ks i) (ks (i + 1)) _ (k2 i hi) (part_no (form_pk (by rw [ho]; decide)) (tw_form (rt_ok (k2 i hi))).1) fr
  have kno := fun i (hi : i < (atV x.cs at_).a.toNat) => part_no (form_pk (by rw [ho]; decide)) (tw_form (rt_ok (k2 i hi))).1
  have hkn : (atV x.cs at_).a.toNat = 2 := by have h2 := (tw_form htw).2; rw [show formS (atV x.cs at_).op = ⟨1, 2, 2, 3⟩ by rw [ho]; rfl] at h2; simp only at h2; omega
  have hnx : ks 2 = nx := by rw [← k1, hkn]
  have Ca : Cp x.cs (at_ + 1) (ks 1) (compS x.cs x.so f (at_ + 1) (code.length)) := by have := kid 0 (code.length) (by omega); rw [k0] at this; exact this
  have Ra := Lib.hid (show Rt x.cs f (at_ + 1) (ks 1) _ by have := k2 0 (by omega); rw [k0] at this; exact this)
  have Na := Lib.hid (show (atV x.cs (at_ + 1)).op ≠ 2 by have := kno 0 (by omega); rw [k0] at this; exact this)
  obtain ⟨qa, hca⟩ : ∃ r, r = (compS x.cs x.so f (at_ + 1) (code.length)).1 := ⟨_, rfl⟩
  have HCa := Lib.hid hca
  have Cb : Cp x.cs (ks 1) (nx) (compS x.cs x.so f (ks 1) (code.length + qa.length + 1)) := by have := kid 1 (code.length + qa.length + 1) (by omega);  rw [show 1 + 1 = 2 from rfl, hnx] at this; exact this
  have Rb := Lib.hid (show Rt x.cs f (ks 1) (nx) _ by have := k2 1 (by omega);  rw [show 1 + 1 = 2 from rfl, hnx] at this; exact this)
  have Nb := Lib.hid (show (atV x.cs (ks 1)).op ≠ 2 by have := kno 1 (by omega);  exact this)
  obtain ⟨qb, hcb⟩ : ∃ r, r = (compS x.cs x.so f (ks 1) (code.length + qa.length + 1)).1 := ⟨_, rfl⟩
  have HCb := Lib.hid hcb
  have LB := Lib.hid (show at_ + 1 ≤ ks 1 ∧ qa.length ≤ 3 * (ks 1 - (at_ + 1)) ∧ ks 1 ≤ nx ∧ qb.length ≤ 3 * (nx - (ks 1)) from ⟨Ca.le, by rw [hca]; exact Ca.l, Cb.le, by rw [hcb]; exact Cb.l⟩)
  have E := Lib.hid (show compS x.cs x.so (f + 1) at_ code.length = (qa ++ [insA 2 ((code.length + qa.length + 1 + qb.length + 1 : Nat) : Int)] ++ qb ++ [insA 1 ((code.length : Nat) : Int)], nx) by rw [compS]; simp only; rw [if_neg (by omega), if_neg (by omega), if_pos ho, Ca.e, ← hca, Cb.e, ← hcb])
  obtain ⟨_, hlo, hhi⟩ := tw_form htw
  have hab := tw_kidsC htw
  have HIS := Lib.hid (tw_is htw)
  generalize compS x.cs x.so (f + 1) at_ code.length = rr at *
  generalize htq : atV x.cs at_ = tw at *
  obtain ⟨op, a, int, text⟩ := tw
  simp only at e0 e1 e2 e3 hlo hhi k1 k2 ho E HIS hno hab
  generalize x.so.getD at_ 0 = sv at *
  have d1 := h.c1
  have d2 := h.c2
  have d3 := h.c3
  have g1 := h.fz 3
  have hgl := World.block_lt_of_cell? w _ d3
  simp only at hgl
  have hsl := h.ro.lt
  rw [hA] at d1
  have HH := Lib.hid h
  have IH := Lib.hid ih
  have HD := Lib.hid hd
  have KS0 := Lib.hid k0
  have KS1 := Lib.hid k1
  have KS2 := Lib.hid k2
  have HTQ := Lib.hid htq
  have HSZ := Lib.hid hsz
  have hx1 : decide ((at_ : Int) < (x.cs.length : Int)) = true := decide_eq_true (by omega)
  have hx2 : decide ((at_ : Int) < (x.so.length : Int)) = true := decide_eq_true (by omega)
  have hx3 : decide (at_ < x.cs.length) = true := decide_eq_true (by omega)
  have hx4 : decide (at_ < x.so.length) = true := decide_eq_true (by omega)
  have hx5 : at_ < x.so.length := by omega
  have o1 : ((op : Int) == 1) = false := by simp; omega
  have o6 : ((op : Int) == 6) = false := by simp; omega
  have o7 : ((op : Int) == 7) = true := by simp; omega
  have HO := Lib.hid ho
  have HNO := Lib.hid hno
  clear hck h hd k0 k1 k2 ih hA htw htq hsz ho hno
  clear Ca hca Cb hcb kid kno hkn hnx
  go_enter_defers Try.func13, Try.ntmps13
  have HFA := Lib.hid (show ∀ o : Obj, HeldN (w.alloc o) x cb co at_ op a int text sv from fun o => HeldN.alloc ⟨d1, d2, d3, e0, e1, e2, e3, e4⟩ hgl hcb hsl o)
  have HFW := Lib.hid (show HeldN w x cb co at_ op a int text sv from ⟨d1, d2, d3, e0, e1, e2, e3, e4⟩)
  go_upto_region 0 with fail
  go_region_held3 (fun w' => w'.cell? ⟨x.gb, 1, none⟩ = some (.slice (some ⟨cb, co, none⟩) x.cs.length x.c) ∧ w'.cell? ⟨x.gb, 2, none⟩ = some (.slice (some ⟨x.sl, 0, none⟩) x.so.length x.cap) ∧ w'.cell? ⟨x.gb, 3, none⟩ = some (.int .i64 (at_ : Int)) ∧ w'.cell? ⟨cb, co + at_ * 4, none⟩ = some (.int .u8 (op : Int)) ∧ w'.cell? ⟨cb, co + at_ * 4 + 1, none⟩ = some (.int .i64 a) ∧ w'.cell? ⟨cb, co + at_ * 4 + 2, none⟩ = some (.int .i64 int) ∧ w'.cell? ⟨cb, co + at_ * 4 + 3, none⟩ = some (.string text) ∧ w'.cell? ⟨x.sl, at_, none⟩ = some (.int .i64 sv))
    (first | exact HFW.out.all | exact (HFA.out _).all) (first | fail)
  obtain ⟨wa, hwa⟩ : ∃ wa, wa = (w.alloc (.cells #[.int .u8 (op : Int), .int .i64 a, .int .i64 int, .string text] 31)).drew := ⟨_, rfl⟩
  have hba : Below w.heap.size w wa := by rw [hwa]; exact ((Below.refl _ w).alloc (Nat.le_refl _) _).drew
  have hbx : wa.heap[w.heap.size]? = some (.cells #[.int .u8 (op : Int), .int .i64 a, .int .i64 int, .string text] 31 (0, 0)) := by rw [hwa]; exact heap_alloc_new _ _
  rw [← hwa]
  clear hwa
  have HDA := Lib.hid (HH.out.low HD.out hba)
  have d3 := HDA.out.c3
  have g1 := HDA.out.fz 3
  have hgl := Nat.lt_of_lt_of_le hgl hba.size
  go_upto_region 2 with fail
  obtain ⟨wn, hwn⟩ : ∃ wn, wn = wa.setCell ⟨x.gb, 3, none⟩ (.int .i64 ((at_ : Int) + 1)) := ⟨_, rfl⟩
  obtain ⟨g1, g2⟩ := HDA.out.setAt HD.out (at_ + 1)
  rw [show ((at_ + 1 : Nat) : Int) = (at_ : Int) + 1 by omega, ← hwn] at g1 g2
  rw [← hwn]
  have HNG := Lib.hid (show w.heap.size ≠ x.gb by have := HH.out.hb; have := HD.out.lt; omega)
  have HX1 := Lib.hid (g2.high _ _ _ (by decide) HNG.out hbx)
  have H1 := Lib.hid g1
  have K1 := Lib.hid ((GK.of_below (gb := x.gb) (base := x.base) hba).trans g2)
  clear hwn hbx hba g1 g2 d1 d2 d3 e0 e1 e2 e3 e4 HDA HFA HFW
  clear hx1 hx2 hx3 hx4 hx5 hgl hcb hsl
  have y0 : wn.cell? ⟨w.heap.size, 0, none⟩ = some (.int .u8 (op : Int)) := by rw [Lib.cell_of_heap HX1.out]; rfl
  have y1 : wn.cell? ⟨w.heap.size, 1, none⟩ = some (.int .i64 a) := by rw [Lib.cell_of_heap HX1.out]; rfl
  go_wp2_with fail
  refine (here_any H1.out).mono ?_
  rintro e w0 ⟨rfl, rfl⟩
  go_wp2_with fail
  refine (IH.out _ _ _ _ _ H1.out Ra.out Na.out (by obtain ⟨lb0, lb1, lb2, lb3⟩ := LB.out; omega)).mono ?_
  rintro e w12 ⟨rfl, g1, g2⟩
  rw [← HCa.out] at g1
  have H2 := Lib.hid g1
  have K2 := Lib.hid (K1.out.trans g2)
  have X2 := Lib.hid (g2.high _ _ _ (by decide) HNG.out HX1.out)
  clear g1 g2
  go_wp2_with fail
  refine (hole_z HD.out H2.out (by obtain ⟨lb0, lb1, lb2, lb3⟩ := LB.out; simp <;> omega) 2 2 rfl).mono ?_
  rintro e w13 ⟨pbp, ibp, rfl, g1, g2, g3⟩
  simp only [holeF]
  have HQp := Lib.hid g3
  have H3 := Lib.hid g1
  have K3 := Lib.hid (K2.out.trans g2)
  have X3 := Lib.hid (g2.high _ _ _ (by decide) HNG.out X2.out)
  clear g1 g2 g3
  go_wp2_with fail
  refine (IH.out _ _ _ _ _ H3.out Rb.out Nb.out (by obtain ⟨lb0, lb1, lb2, lb3⟩ := LB.out; simp <;> omega)).mono ?_
  rintro e w14 ⟨rfl, g1, g2⟩
  rw [show (code ++ qa ++ [insO 2]).length = code.length + qa.length + 1 by simp <;> omega] at g1
  rw [← HCb.out] at g1
  have H4 := Lib.hid g1
  have K4 := Lib.hid (K3.out.trans g2)
  have X4 := Lib.hid (g2.high _ _ _ (by decide) HNG.out X3.out)
  have HQp := Lib.hid (HQp.out.keep g2)
  clear g1 g2
  go_wp2_with fail
  refine (put_z HD.out H4.out (by obtain ⟨lb0, lb1, lb2, lb3⟩ := LB.out; simp <;> omega) ((code.length : Nat) : Int)).mono ?_
  rintro e w15 ⟨rfl, g1, g2⟩
  have H5 := Lib.hid g1
  have K5 := Lib.hid (K4.out.trans g2)
  have X5 := Lib.hid (g2.high _ _ _ (by decide) HNG.out X4.out)
  have HQp := Lib.hid (HQp.out.keep g2)
  clear g1 g2
  go_wp2_with fail
  refine (fill_any HD.out H5.out HQp.out (by simp <;> omega) (by obtain ⟨lb0, lb1, lb2, lb3⟩ := LB.out; simp <;> omega)).mono ?_
  rintro e w16 ⟨rfl, g1, g2⟩
  rw [show (code ++ qa ++ [insO 2] ++ qb ++ [insA 1 ((code.length : Nat) : Int)]) = (code ++ qa) ++ [insO 2] ++ (qb ++ [insA 1 ((code.length : Nat) : Int)]) by simp, fill_mid, show (code ++ qa).length + 1 + (qb ++ [insA 1 ((code.length : Nat) : Int)]).length = code.length + qa.length + 1 + qb.length + 1 by simp <;> omega] at g1
  have H6 := Lib.hid g1
  have K6 := Lib.hid (K5.out.trans g2)
  have X6 := Lib.hid (g2.high _ _ _ (by decide) HNG.out X5.out)
  clear g1 g2
  go_wp2_with fail
  refine ⟨_, results_none rfl _ _ _, rfl, ?_, K6.out⟩
  rw [E.out]
  have G5 := H6.out
  simpa using G5
set_option maxRecDepth 100000 in
set_option maxHeartbeats 4000000 in
theorem next_30 (x : GB) (hd : GD x) (f : Nat) (ih : NextH x f) (at_ nx : Nat) (may : Nat → Bool) (code : List InsV) (w : World) (h : CW x code at_ w) (hr : Rt x.cs (f + 1) at_ nx may) (hno : (atV x.cs at_).op ≠ 2) (hrm : code.length + 3 * (x.cs.length - at_) ≤ 90000) (ho : (atV x.cs at_).op = 30) :
    Calls Try.prog 13 #[.pointer (some ⟨x.gb, 0, none⟩)] w (KPost x (.tuple #[]) (code ++ (compS x.cs x.so (f + 1) at_ code.length).1) nx w) := by
  have hmf : ∀ (fn : Fn) (first cap : Array Value) (w : World), (Instr.makeFunc fn first cap).run Try.prog w = .ok (.func fn first cap) w := fun _ _ _ _ => rfl
  have hnxl := hr.lt
  obtain ⟨hlt, htw, ks, k0, k1, k2⟩ := hr
  have hlen := hd.len
  have hsz := hd.sz
  obtain ⟨cb, co, hA, hcb, hck⟩ := h.cd (by omega)
  obtain ⟨e0, e1, e2, e3⟩ := hck at_ hlt
  have e4 := h.ro.at (k := at_) (by omega)
  have kid := fun i fr (hi : i < (atV x.cs at_).a.toNat) => comp_ok x.cs x.so f (ks i) (ks (i + 1)) _ (k2 i hi) (part_no (form_pk (by rw [ho]; decide)) (tw_form (rt_ok (k2 i hi))).1) fr
  have kno := fun i (hi : i < (atV x.cs at_).a.toNat) => part_no (form_pk (by rw [ho]; decide)) (tw_form (rt_ok (k2 i hi))).1
  have hkn : (atV x.cs at_).a.toNat = 2 := by have h2 := (tw_form htw).2; rw [show formS (atV x.cs at_).op = ⟨1, 2, 2, 4⟩ by rw [ho]; rfl] at h2; simp only at h2; omega
  have hnx : ks 2 = nx := by rw [← k1, hkn]
  have Ca : Cp x.cs (at_ + 1) (ks 1) (compS x.cs x.so f (at_ + 1) (code.length)) := by have := kid 0 (code.length) (by omega); rw [k0] at this; exact this
  have Ra := Lib.hid (show Rt x.cs f (at_ + 1) (ks 1) _ by have := k2 0 (by omega); rw [k0] at this; exact this)
  have Na := Lib.hid (show (atV x.cs (at_ + 1)).op ≠ 2 by have := kno 0 (by omega); rw [k0] at this; exact this)
  obtain ⟨qa, hca⟩ : ∃ r, r = (compS x.cs x.so f (at_ + 1) (code.length)).1 := ⟨_, rfl⟩
  have HCa := Lib.hid hca
  have Cb : Cp x.cs (ks 1) (nx) (compS x.cs x.so f (ks 1) (code.length + qa.length + 1)) := by have := kid 1 (code.length + qa.length + 1) (by omega);  rw [show 1 + 1 = 2 from rfl, hnx] at this; exact this
  have Rb := Lib.hid (show Rt x.cs f (ks 1) (nx) _ by have := k2 1 (by omega);  rw [show 1 + 1 = 2 from rfl, hnx] at this; exact this)
  have Nb := Lib.hid (show (atV x.cs (ks 1)).op ≠ 2 by have := kno 1 (by omega);  exact this)
  obtain ⟨qb, hcb⟩ : ∃ r, r = (compS x.cs x.so f (ks 1) (code.length + qa.length + 1)).1 := ⟨_, rfl⟩
  have HCb := Lib.hid hcb
  have LB := Lib.hid (show at_ + 1 ≤ ks 1 ∧ qa.length ≤ 3 * (ks 1 - (at_ + 1)) ∧ ks 1 ≤ nx ∧ qb.length ≤ 3 * (nx - (ks 1)) from ⟨Ca.le, by rw [hca]; exact Ca.l, Cb.le, by rw [hcb]; exact Cb.l⟩)
  have E := Lib.hid (show compS x.cs x.so (f + 1) at_ code.length = (qa ++ [insA 3 ((code.length + qa.length + 1 + qb.length + 1 : Nat) : Int)] ++ qb ++ [insO 5], nx) by rw [compS]; simp only; rw [if_neg (by omega), if_neg (by omega), if_neg (by omega), if_pos (by omega), if_neg (by omega), Ca.e, ← hca, Cb.e, ← hcb])
  obtain ⟨_, hlo, hhi⟩ := tw_form htw
  have hab := tw_kidsC htw
  have HIS := Lib.hid (tw_is htw)
  generalize compS x.cs x.so (f + 1) at_ code.length = rr at *
  generalize htq : atV x.cs at_ = tw at *
  obtain ⟨op, a, int, text⟩ := tw
  simp only at e0 e1 e2 e3 hlo hhi k1 k2 ho E HIS hno hab
  generalize x.so.getD at_ 0 = sv at *
  have d1 := h.c1
  have d2 := h.c2
  have d3 := h.c3
  have g1 := h.fz 3
  have hgl := World.block_lt_of_cell? w _ d3
  simp only at hgl
  have hsl := h.ro.lt
  rw [hA] at d1
  have HH := Lib.hid h
  have IH := Lib.hid ih
  have HD := Lib.hid hd
  have KS0 := Lib.hid k0
  have KS1 := Lib.hid k1
  have KS2 := Lib.hid k2
  have HTQ := Lib.hid htq
  have HSZ := Lib.hid hsz
  have hx1 : decide ((at_ : Int) < (x.cs.length : Int)) = true := decide_eq_true (by omega)
  have hx2 : decide ((at_ : Int) < (x.so.length : Int)) = true := decide_eq_true (by omega)
  have hx3 : decide (at_ < x.cs.length) = true := decide_eq_true (by omega)
  have hx4 : decide (at_ < x.so.length) = true := decide_eq_true (by omega)
  have hx5 : at_ < x.so.length := by omega
  have o1 : ((op : Int) == 1) = false := by simp; omega
  have o6 : ((op : Int) == 6) = false := by simp; omega
  have o7 : ((op : Int) == 7) = false := by simp; omega
  have o30 : ((op : Int) == 30) = true := by simp; omega
  have o31 : ((op : Int) == 31) = false := by simp; omega
  have HO := Lib.hid ho
  have HNO := Lib.hid hno
  clear hck h hd k0 k1 k2 ih hA htw htq hsz ho hno
  clear Ca hca Cb hcb kid kno hkn hnx
  go_enter_defers Try.func13, Try.ntmps13
  have HFA := Lib.hid (show ∀ o : Obj, HeldN (w.alloc o) x cb co at_ op a int text sv from fun o => HeldN.alloc ⟨d1, d2, d3, e0, e1, e2, e3, e4⟩ hgl hcb hsl o)
  have HFW := Lib.hid (show HeldN w x cb co at_ op a int text sv from ⟨d1, d2, d3, e0, e1, e2, e3, e4⟩)
  go_upto_region 0 with fail
  go_region_held3 (fun w' => w'.cell? ⟨x.gb, 1, none⟩ = some (.slice (some ⟨cb, co, none⟩) x.cs.length x.c) ∧ w'.cell? ⟨x.gb, 2, none⟩ = some (.slice (some ⟨x.sl, 0, none⟩) x.so.length x.cap) ∧ w'.cell? ⟨x.gb, 3, none⟩ = some (.int .i64 (at_ : Int)) ∧ w'.cell? ⟨cb, co + at_ * 4, none⟩ = some (.int .u8 (op : Int)) ∧ w'.cell? ⟨cb, co + at_ * 4 + 1, none⟩ = some (.int .i64 a) ∧ w'.cell? ⟨cb, co + at_ * 4 + 2, none⟩ = some (.int .i64 int) ∧ w'.cell? ⟨cb, co + at_ * 4 + 3, none⟩ = some (.string text) ∧ w'.cell? ⟨x.sl, at_, none⟩ = some (.int .i64 sv))
    (first | exact HFW.out.all | exact (HFA.out _).all) (first | fail)
  obtain ⟨wa, hwa⟩ : ∃ wa, wa = (w.alloc (.cells #[.int .u8 (op : Int), .int .i64 a, .int .i64 int, .string text] 31)).drew := ⟨_, rfl⟩
  have hba : Below w.heap.size w wa := by rw [hwa]; exact ((Below.refl _ w).alloc (Nat.le_refl _) _).drew
  have hbx : wa.heap[w.heap.size]? = some (.cells #[.int .u8 (op : Int), .int .i64 a, .int .i64 int, .string text] 31 (0, 0)) := by rw [hwa]; exact heap_alloc_new _ _
  rw [← hwa]
  clear hwa
  have HDA := Lib.hid (HH.out.low HD.out hba)
  have d3 := HDA.out.c3
  have g1 := HDA.out.fz 3
  have hgl := Nat.lt_of_lt_of_le hgl hba.size
  go_upto_region 2 with fail
  obtain ⟨wn, hwn⟩ : ∃ wn, wn = wa.setCell ⟨x.gb, 3, none⟩ (.int .i64 ((at_ : Int) + 1)) := ⟨_, rfl⟩
  obtain ⟨g1, g2⟩ := HDA.out.setAt HD.out (at_ + 1)
  rw [show ((at_ + 1 : Nat) : Int) = (at_ : Int) + 1 by omega, ← hwn] at g1 g2
  rw [← hwn]
  have HNG := Lib.hid (show w.heap.size ≠ x.gb by have := HH.out.hb; have := HD.out.lt; omega)
  have HX1 := Lib.hid (g2.high _ _ _ (by decide) HNG.out hbx)
  have H1 := Lib.hid g1
  have K1 := Lib.hid ((GK.of_below (gb := x.gb) (base := x.base) hba).trans g2)
  clear hwn hbx hba g1 g2 d1 d2 d3 e0 e1 e2 e3 e4 HDA HFA HFW
  clear hx1 hx2 hx3 hx4 hx5 hgl hcb hsl
  have y0 : wn.cell? ⟨w.heap.size, 0, none⟩ = some (.int .u8 (op : Int)) := by rw [Lib.cell_of_heap HX1.out]; rfl
  have y1 : wn.cell? ⟨w.heap.size, 1, none⟩ = some (.int .i64 a) := by rw [Lib.cell_of_heap HX1.out]; rfl
  go_wp2_with fail
  refine (IH.out _ _ _ _ _ H1.out Ra.out Na.out (by obtain ⟨lb0, lb1, lb2, lb3⟩ := LB.out; omega)).mono ?_
  rintro e w12 ⟨rfl, g1, g2⟩
  rw [← HCa.out] at g1
  have H2 := Lib.hid g1
  have K2 := Lib.hid (K1.out.trans g2)
  have X2 := Lib.hid (g2.high _ _ _ (by decide) HNG.out HX1.out)
  clear g1 g2
  have z0 : w12.cell? ⟨w.heap.size, 0, none⟩ = some (.int .u8 (op : Int)) := by rw [Lib.cell_of_heap X2.out]; rfl
  go_wp2_with fail
  refine (hole_z HD.out H2.out (by obtain ⟨lb0, lb1, lb2, lb3⟩ := LB.out; simp <;> omega) 3 3 rfl).mono ?_
  rintro e w13 ⟨pbp, ibp, rfl, g1, g2, g3⟩
  simp only [holeF]
  have HQp := Lib.hid g3
  have H3 := Lib.hid g1
  have K3 := Lib.hid (K2.out.trans g2)
  have X3 := Lib.hid (g2.high _ _ _ (by decide) HNG.out X2.out)
  clear g1 g2 g3
  go_wp2_with fail
  refine (IH.out _ _ _ _ _ H3.out Rb.out Nb.out (by obtain ⟨lb0, lb1, lb2, lb3⟩ := LB.out; simp <;> omega)).mono ?_
  rintro e w14 ⟨rfl, g1, g2⟩
  rw [show (code ++ qa ++ [insO 3]).length = code.length + qa.length + 1 by simp <;> omega] at g1
  rw [← HCb.out] at g1
  have H4 := Lib.hid g1
  have K4 := Lib.hid (K3.out.trans g2)
  have X4 := Lib.hid (g2.high _ _ _ (by decide) HNG.out X3.out)
  have HQp := Lib.hid (HQp.out.keep g2)
  clear g1 g2
  go_wp2_with fail
  refine (op_z HD.out H4.out (by obtain ⟨lb0, lb1, lb2, lb3⟩ := LB.out; simp <;> omega) 5 5 rfl).mono ?_
  rintro e w15 ⟨rfl, g1, g2⟩
  have H5 := Lib.hid g1
  have K5 := Lib.hid (K4.out.trans g2)
  have X5 := Lib.hid (g2.high _ _ _ (by decide) HNG.out X4.out)
  have HQp := Lib.hid (HQp.out.keep g2)
  clear g1 g2
  go_wp2_with fail
  refine leaves_cons (f := 34) (args := #[.pointer (some ⟨pbp, 0, none⟩), .pointer (some ⟨ibp, 0, none⟩)]) (by simp) (by simp [go_sem]) ?_
  refine (fillD_any HD.out H5.out HQp.out (by simp <;> omega) (by obtain ⟨lb0, lb1, lb2, lb3⟩ := LB.out; simp <;> omega) _).mono ?_
  rintro e u' wz ⟨rfl, rfl, g1, g2⟩
  rw [show (code ++ qa ++ [insO 3] ++ qb ++ [insO 5]) = (code ++ qa) ++ [insO 3] ++ (qb ++ [insO 5]) by simp, fill_mid, show (code ++ qa).length + 1 + (qb ++ [insO 5]).length = code.length + qa.length + 1 + qb.length + 1 by simp <;> omega] at g1
  refine ⟨_, results_none rfl _ _ _, rfl, ?_, K5.out.trans g2⟩
  rw [E.out]
  have G5 := g1
  simpa using G5
set_option maxRecDepth 100000 in
set_option maxHeartbeats 4000000 in
theorem next_31 (x : GB) (hd : GD x) (f : Nat) (ih : NextH x f) (at_ nx : Nat) (may : Nat → Bool) (code : List InsV) (w : World) (h : CW x code at_ w) (hr : Rt x.cs (f + 1) at_ nx may) (hno : (atV x.cs at_).op ≠ 2) (hrm : code.length + 3 * (x.cs.length - at_) ≤ 90000) (ho : (atV x.cs at_).op = 31) :
    Calls Try.prog 13 #[.pointer (some ⟨x.gb, 0, none⟩)] w (KPost x (.tuple #[]) (code ++ (compS x.cs x.so (f + 1) at_ code.length).1) nx w) := by
  have hmf : ∀ (fn : Fn) (first cap : Array Value) (w : World), (Instr.makeFunc fn first cap).run Try.prog w = .ok (.func fn first cap) w := fun _ _ _ _ => rfl
  have hnxl := hr.lt
  obtain ⟨hlt, htw, ks, k0, k1, k2⟩ := hr
  have hlen := hd.len
  have hsz := hd.sz
  obtain ⟨cb, co, hA, hcb, hck⟩ := h.cd (by omega)
  obtain ⟨e0, e1, e2, e3⟩ := hck at_ hlt
  have e4 := h.ro.at (k := at_) (by omega)
  have kid := fun i fr (hi : i < (atV x.cs at_).a.toNat) => comp_ok x.cs x.so f (ks i) (ks (i + 1)) _ (k2 i hi) (part_no (form_pk (by rw [ho]; decide)) (tw_form (rt_ok (k2 i hi))).1) fr
  have kno := fun i (hi : i < (atV x.cs at_).a.toNat) => part_no (form_pk (by rw [ho]; decide)) (tw_form (rt_ok (k2 i hi))).1
  have hkn : (atV x.cs at_).a.toNat = 2 := by have h2 := (tw_form htw).2; rw [show formS (atV x.cs at_).op = ⟨1, 2, 2, 4⟩ by rw [ho]; rfl] at h2; simp only at h2; omega
  have hnx : ks 2 = nx := by rw [← k1, hkn]
  have Ca : Cp x.cs (at_ + 1) (ks 1) (compS x.cs x.so f (at_ + 1) (code.length)) := by have := kid 0 (code.length) (by omega); rw [k0] at this; exact this
  have Ra := Lib.hid (show Rt x.cs f (at_ + 1) (ks 1) _ by have := k2 0 (by omega); rw [k0] at this; exact this)
  have Na := Lib.hid (show (atV x.cs (at_ + 1)).op ≠ 2 by have := kno 0 (by omega); rw [k0] at this; exact this)
  obtain ⟨qa, hca⟩ : ∃ r, r = (compS x.cs x.so f (at_ + 1) (code.length)).1 := ⟨_, rfl⟩
  have HCa := Lib.hid hca
  have Cb : Cp x.cs (ks 1) (nx) (compS x.cs x.so f (ks 1) (code.length + qa.length + 1)) := by have := kid 1 (code.length + qa.length + 1) (by omega);  rw [show 1 + 1 = 2 from rfl, hnx] at this; exact this
  have Rb := Lib.hid (show Rt x.cs f (ks 1) (nx) _ by have := k2 1 (by omega);  rw [show 1 + 1 = 2 from rfl, hnx] at this; exact this)
  have Nb := Lib.hid (show (atV x.cs (ks 1)).op ≠ 2 by have := kno 1 (by omega);  exact this)
  obtain ⟨qb, hcb⟩ : ∃ r, r = (compS x.cs x.so f (ks 1) (code.length + qa.length + 1)).1 := ⟨_, rfl⟩
  have HCb := Lib.hid hcb
  have LB := Lib.hid (show at_ + 1 ≤ ks 1 ∧ qa.length ≤ 3 * (ks 1 - (at_ + 1)) ∧ ks 1 ≤ nx ∧ qb.length ≤ 3 * (nx - (ks 1)) from ⟨Ca.le, by rw [hca]; exact Ca.l, Cb.le, by rw [hcb]; exact Cb.l⟩)
  have E := Lib.hid (show compS x.cs x.so (f + 1) at_ code.length = (qa ++ [insA 4 ((code.length + qa.length + 1 + qb.length + 1 : Nat) : Int)] ++ qb ++ [insO 5], nx) by rw [compS]; simp only; rw [if_neg (by omega), if_neg (by omega), if_neg (by omega), if_pos (by omega), if_pos ho, Ca.e, ← hca, Cb.e, ← hcb])
  obtain ⟨_, hlo, hhi⟩ := tw_form htw
  have hab := tw_kidsC htw
  have HIS := Lib.hid (tw_is htw)
  generalize compS x.cs x.so (f + 1) at_ code.length = rr at *
  generalize htq : atV x.cs at_ = tw at *
  obtain ⟨op, a, int, text⟩ := tw
  simp only at e0 e1 e2 e3 hlo hhi k1 k2 ho E HIS hno hab
  generalize x.so.getD at_ 0 = sv at *
  have d1 := h.c1
  have d2 := h.c2
  have d3 := h.c3
  have g1 := h.fz 3
  have hgl := World.block_lt_of_cell? w _ d3
  simp only at hgl
  have hsl := h.ro.lt
  rw [hA] at d1
  have HH := Lib.hid h
  have IH := Lib.hid ih
  have HD := Lib.hid hd
  have KS0 := Lib.hid k0
  have KS1 := Lib.hid k1
  have KS2 := Lib.hid k2
  have HTQ := Lib.hid htq
  have HSZ := Lib.hid hsz
  have hx1 : decide ((at_ : Int) < (x.cs.length : Int)) = true := decide_eq_true (by omega)
  have hx2 : decide ((at_ : Int) < (x.so.length : Int)) = true := decide_eq_true (by omega)
  have hx3 : decide (at_ < x.cs.length) = true := decide_eq_true (by omega)
  have hx4 : decide (at_ < x.so.length) = true := decide_eq_true (by omega)
  have hx5 : at_ < x.so.length := by omega
  have o1 : ((op : Int) == 1) = false := by simp; omega
  have o6 : ((op : Int) == 6) = false := by simp; omega
  have o7 : ((op : Int) == 7) = false := by simp; omega
  have o30 : ((op : Int) == 30) = false := by simp; omega
  have o31 : ((op : Int) == 31) = true := by simp; omega
  have HO := Lib.hid ho
  have HNO := Lib.hid hno
  clear hck h hd k0 k1 k2 ih hA htw htq hsz ho hno
  clear Ca hca Cb hcb kid kno hkn hnx
  go_enter_defers Try.func13, Try.ntmps13
  have HFA := Lib.hid (show ∀ o : Obj, HeldN (w.alloc o) x cb co at_ op a int text sv from fun o => HeldN.alloc ⟨d1, d2, d3, e0, e1, e2, e3, e4⟩ hgl hcb hsl o)
  have HFW := Lib.hid (show HeldN w x cb co at_ op a int text sv from ⟨d1, d2, d3, e0, e1, e2, e3, e4⟩)
  go_upto_region 0 with fail
  go_region_held3 (fun w' => w'.cell? ⟨x.gb, 1, none⟩ = some (.slice (some ⟨cb, co, none⟩) x.cs.length x.c) ∧ w'.cell? ⟨x.gb, 2, none⟩ = some (.slice (some ⟨x.sl, 0, none⟩) x.so.length x.cap) ∧ w'.cell? ⟨x.gb, 3, none⟩ = some (.int .i64 (at_ : Int)) ∧ w'.cell? ⟨cb, co + at_ * 4, none⟩ = some (.int .u8 (op : Int)) ∧ w'.cell? ⟨cb, co + at_ * 4 + 1, none⟩ = some (.int .i64 a) ∧ w'.cell? ⟨cb, co + at_ * 4 + 2, none⟩ = some (.int .i64 int) ∧ w'.cell? ⟨cb, co + at_ * 4 + 3, none⟩ = some (.string text) ∧ w'.cell? ⟨x.sl, at_, none⟩ = some (.int .i64 sv))
    (first | exact HFW.out.all | exact (HFA.out _).all) (first | fail)
  obtain ⟨wa, hwa⟩ : ∃ wa, wa = (w.alloc (.cells #[.int .u8 (op : Int), .int .i64 a, .int .i64 int, .string text] 31)).drew := ⟨_, rfl⟩
  have hba : Below w.heap.size w wa := by rw [hwa]; exact ((Below.refl _ w).alloc (Nat.le_refl _) _).drew
  have hbx : wa.heap[w.heap.size]? = some (.cells #[.int .u8 (op : Int), .int .i64 a, .int .i64 int, .string text] 31 (0, 0)) := by rw [hwa]; exact heap_alloc_new _ _
  rw [← hwa]
  clear hwa
  have HDA := Lib.hid (HH.out.low HD.out hba)
  have d3 := HDA.out.c3
  have g1 := HDA.out.fz 3
  have hgl := Nat.lt_of_lt_of_le hgl hba.size
  go_upto_region 2 with fail
  obtain ⟨wn, hwn⟩ : ∃ wn, wn = wa.setCell ⟨x.gb, 3, none⟩ (.int .i64 ((at_ : Int) + 1)) := ⟨_, rfl⟩
  obtain ⟨g1, g2⟩ := HDA.out.setAt HD.out (at_ + 1)
  rw [show ((at_ + 1 : Nat) : Int) = (at_ : Int) + 1 by omega, ← hwn] at g1 g2
  rw [← hwn]
  have HNG := Lib.hid (show w.heap.size ≠ x.gb by have := HH.out.hb; have := HD.out.lt; omega)
  have HX1 := Lib.hid (g2.high _ _ _ (by decide) HNG.out hbx)
  have H1 := Lib.hid g1
  have K1 := Lib.hid ((GK.of_below (gb := x.gb) (base := x.base) hba).trans g2)
  clear hwn hbx hba g1 g2 d1 d2 d3 e0 e1 e2 e3 e4 HDA HFA HFW
  clear hx1 hx2 hx3 hx4 hx5 hgl hcb hsl
  have y0 : wn.cell? ⟨w.heap.size, 0, none⟩ = some (.int .u8 (op : Int)) := by rw [Lib.cell_of_heap HX1.out]; rfl
  have y1 : wn.cell? ⟨w.heap.size, 1, none⟩ = some (.int .i64 a) := by rw [Lib.cell_of_heap HX1.out]; rfl
  go_wp2_with fail
  refine (IH.out _ _ _ _ _ H1.out Ra.out Na.out (by obtain ⟨lb0, lb1, lb2, lb3⟩ := LB.out; omega)).mono ?_
  rintro e w12 ⟨rfl, g1, g2⟩
  rw [← HCa.out] at g1
  have H2 := Lib.hid g1
  have K2 := Lib.hid (K1.out.trans g2)
  have X2 := Lib.hid (g2.high _ _ _ (by decide) HNG.out HX1.out)
  clear g1 g2
  have z0 : w12.cell? ⟨w.heap.size, 0, none⟩ = some (.int .u8 (op : Int)) := by rw [Lib.cell_of_heap X2.out]; rfl
  go_wp2_with fail
  refine (hole_z HD.out H2.out (by obtain ⟨lb0, lb1, lb2, lb3⟩ := LB.out; simp <;> omega) 4 4 rfl).mono ?_
  rintro e w13 ⟨pbp, ibp, rfl, g1, g2, g3⟩
  simp only [holeF]
  have HQp := Lib.hid g3
  have H3 := Lib.hid g1
  have K3 := Lib.hid (K2.out.trans g2)
  have X3 := Lib.hid (g2.high _ _ _ (by decide) HNG.out X2.out)
  clear g1 g2 g3
  go_wp2_with fail
  refine (IH.out _ _ _ _ _ H3.out Rb.out Nb.out (by obtain ⟨lb0, lb1, lb2, lb3⟩ := LB.out; simp <;> omega)).mono ?_
  rintro e w14 ⟨rfl, g1, g2⟩
  rw [show (code ++ qa ++ [insO 4]).length = code.length + qa.length + 1 by simp <;> omega] at g1
  rw [← HCb.out] at g1
  have H4 := Lib.hid g1
  have K4 := Lib.hid (K3.out.trans g2)
  have X4 := Lib.hid (g2.high _ _ _ (by decide) HNG.out X3.out)
  have HQp := Lib.hid (HQp.out.keep g2)
  clear g1 g2
  go_wp2_with fail
  refine (op_z HD.out H4.out (by obtain ⟨lb0, lb1, lb2, lb3⟩ := LB.out; simp <;> omega) 5 5 rfl).mono ?_
  rintro e w15 ⟨rfl, g1, g2⟩
  have H5 := Lib.hid g1
  have K5 := Lib.hid (K4.out.trans g2)
  have X5 := Lib.hid (g2.high _ _ _ (by decide) HNG.out X4.out)
  have HQp := Lib.hid (HQp.out.keep g2)
  clear g1 g2
  go_wp2_with fail
  refine leaves_cons (f := 34) (args := #[.pointer (some ⟨pbp, 0, none⟩), .pointer (some ⟨ibp, 0, none⟩)]) (by simp) (by simp [go_sem]) ?_
  refine (fillD_any HD.out H5.out HQp.out (by simp <;> omega) (by obtain ⟨lb0, lb1, lb2, lb3⟩ := LB.out; simp <;> omega) _).mono ?_
  rintro e u' wz ⟨rfl, rfl, g1, g2⟩
  rw [show (code ++ qa ++ [insO 4] ++ qb ++ [insO 5]) = (code ++ qa) ++ [insO 4] ++ (qb ++ [insO 5]) by simp, fill_mid, show (code ++ qa).length + 1 + (qb ++ [insO 5]).length = code.length + qa.length + 1 + qb.length + 1 by simp <;> omega] at g1
  refine ⟨_, results_none rfl _ _ _, rfl, ?_, K5.out.trans g2⟩
  rw [E.out]
  have G5 := g1
  simpa using G5
set_option maxRecDepth 100000 in
set_option maxHeartbeats 4000000 in
theorem next_53 (x : GB) (hd : GD x) (f : Nat) (ih : NextH x f) (at_ nx : Nat) (may : Nat → Bool) (code : List InsV) (w : World) (h : CW x code at_ w) (hr : Rt x.cs (f + 1) at_ nx may) (hno : (atV x.cs at_).op ≠ 2) (hrm : code.length + 3 * (x.cs.length - at_) ≤ 90000) (ho : (atV x.cs at_).op = 53) :
    Calls Try.prog 13 #[.pointer (some ⟨x.gb, 0, none⟩)] w (KPost x (.tuple #[]) (code ++ (compS x.cs x.so (f + 1) at_ code.length).1) nx w) := by
  have hmf : ∀ (fn : Fn) (first cap : Array Value) (w : World), (Instr.makeFunc fn first cap).run Try.prog w = .ok (.func fn first cap) w := fun _ _ _ _ => rfl
  have hnxl := hr.lt
  obtain ⟨hlt, htw, ks, k0, k1, k2⟩ := hr
  have hlen := hd.len
  have hsz := hd.sz
  obtain ⟨cb, co, hA, hcb, hck⟩ := h.cd (by omega)
  obtain ⟨e0, e1, e2, e3⟩ := hck at_ hlt
  have e4 := h.ro.at (k := at_) (by omega)
  have kid := fun i fr (hi : i < (atV x.cs at_).a.toNat) => comp_ok x.cs x.so f (ks i) (ks (i + 1)) _ (k2 i hi) (part_no (form_pk (by rw [ho]; decide)) (tw_form (rt_ok (k2 i hi))).1) fr
  have kno := fun i (hi : i < (atV x.cs at_).a.toNat) => part_no (form_pk (by rw [ho]; decide)) (tw_form (rt_ok (k2 i hi))).1
  have hkn : (atV x.cs at_).a.toNat = 1 := by have h2 := (tw_form htw).2; rw [show formS (atV x.cs at_).op = ⟨1, 1, 1, 5⟩ by rw [ho]; rfl] at h2; simp only at h2; omega
  have hnx : ks 1 = nx := by rw [← k1, hkn]
  have Cb : Cp x.cs (at_ + 1) (nx) (compS x.cs x.so f (at_ + 1) (code.length + 2)) := by have := kid 0 (code.length + 2) (by omega); rw [k0] at this; rw [show 0 + 1 = 1 from rfl, hnx] at this; exact this
  have Rb := Lib.hid (show Rt x.cs f (at_ + 1) (nx) _ by have := k2 0 (by omega); rw [k0] at this; rw [show 0 + 1 = 1 from rfl, hnx] at this; exact this)
  have Nb := Lib.hid (show (atV x.cs (at_ + 1)).op ≠ 2 by have := kno 0 (by omega); rw [k0] at this; exact this)
  obtain ⟨qb, hcb⟩ : ∃ r, r = (compS x.cs x.so f (at_ + 1) (code.length + 2)).1 := ⟨_, rfl⟩
  have HCb := Lib.hid hcb
  have LB := Lib.hid (show at_ + 1 ≤ nx ∧ qb.length ≤ 3 * (nx - (at_ + 1)) from ⟨Cb.le, by rw [hcb]; exact Cb.l⟩)
  have E := Lib.hid (show compS x.cs x.so (f + 1) at_ code.length = ([insA 53 ((code.length + 2 : Nat) : Int), insA 1 ((code.length + 2 + qb.length + 1 : Nat) : Int)] ++ qb ++ [insO 28], nx) by rw [compS]; simp only; rw [if_neg (by omega), if_neg (by omega), if_neg (by omega), if_neg (by omega), if_pos ho, Cb.e, ← hcb])
  obtain ⟨_, hlo, hhi⟩ := tw_form htw
  have hab := tw_kidsC htw
  have HIS := Lib.hid (tw_is htw)
  generalize compS x.cs x.so (f + 1) at_ code.length = rr at *
  generalize htq : atV x.cs at_ = tw at *
  obtain ⟨op, a, int, text⟩ := tw
  simp only at e0 e1 e2 e3 hlo hhi k1 k2 ho E HIS hno hab
  generalize x.so.getD at_ 0 = sv at *
  have d1 := h.c1
  have d2 := h.c2
  have d3 := h.c3
  have g1 := h.fz 3
  have hgl := World.block_lt_of_cell? w _ d3
  simp only at hgl
  have hsl := h.ro.lt
  rw [hA] at d1
  have HH := Lib.hid h
  have IH := Lib.hid ih
  have HD := Lib.hid hd
  have KS0 := Lib.hid k0
  have KS1 := Lib.hid k1
  have KS2 := Lib.hid k2
  have HTQ := Lib.hid htq
  have HSZ := Lib.hid hsz
  have hx1 : decide ((at_ : Int) < (x.cs.length : Int)) = true := decide_eq_true (by omega)
  have hx2 : decide ((at_ : Int) < (x.so.length : Int)) = true := decide_eq_true (by omega)
  have hx3 : decide (at_ < x.cs.length) = true := decide_eq_true (by omega)
  have hx4 : decide (at_ < x.so.length) = true := decide_eq_true (by omega)
  have hx5 : at_ < x.so.length := by omega
  have o1 : ((op : Int) == 1) = false := by simp; omega
  have o6 : ((op : Int) == 6) = false := by simp; omega
  have o7 : ((op : Int) == 7) = false := by simp; omega
  have o30 : ((op : Int) == 30) = false := by simp; omega
  have o31 : ((op : Int) == 31) = false := by simp; omega
  have o53 : ((op : Int) == 53) = true := by simp; omega
  have HO := Lib.hid ho
  have HNO := Lib.hid hno
  clear hck h hd k0 k1 k2 ih hA htw htq hsz ho hno
  clear Cb hcb kid kno hkn hnx
  go_enter_defers Try.func13, Try.ntmps13
  have HFA := Lib.hid (show ∀ o : Obj, HeldN (w.alloc o) x cb co at_ op a int text sv from fun o => HeldN.alloc ⟨d1, d2, d3, e0, e1, e2, e3, e4⟩ hgl hcb hsl o)
  have HFW := Lib.hid (show HeldN w x cb co at_ op a int text sv from ⟨d1, d2, d3, e0, e1, e2, e3, e4⟩)
  go_upto_region 0 with fail
  go_region_held3 (fun w' => w'.cell? ⟨x.gb, 1, none⟩ = some (.slice (some ⟨cb, co, none⟩) x.cs.length x.c) ∧ w'.cell? ⟨x.gb, 2, none⟩ = some (.slice (some ⟨x.sl, 0, none⟩) x.so.length x.cap) ∧ w'.cell? ⟨x.gb, 3, none⟩ = some (.int .i64 (at_ : Int)) ∧ w'.cell? ⟨cb, co + at_ * 4, none⟩ = some (.int .u8 (op : Int)) ∧ w'.cell? ⟨cb, co + at_ * 4 + 1, none⟩ = some (.int .i64 a) ∧ w'.cell? ⟨cb, co + at_ * 4 + 2, none⟩ = some (.int .i64 int) ∧ w'.cell? ⟨cb, co + at_ * 4 + 3, none⟩ = some (.string text) ∧ w'.cell? ⟨x.sl, at_, none⟩ = some (.int .i64 sv))
    (first | exact HFW.out.all | exact (HFA.out _).all) (first | fail)
  obtain ⟨wa, hwa⟩ : ∃ wa, wa = (w.alloc (.cells #[.int .u8 (op : Int), .int .i64 a, .int .i64 int, .string text] 31)).drew := ⟨_, rfl⟩
  have hba : Below w.heap.size w wa := by rw [hwa]; exact ((Below.refl _ w).alloc (Nat.le_refl _) _).drew
  have hbx : wa.heap[w.heap.size]? = some (.cells #[.int .u8 (op : Int), .int .i64 a, .int .i64 int, .string text] 31 (0, 0)) := by rw [hwa]; exact heap_alloc_new _ _
  rw [← hwa]
  clear hwa
  have HDA := Lib.hid (HH.out.low HD.out hba)
  have d3 := HDA.out.c3
  have g1 := HDA.out.fz 3
  have hgl := Nat.lt_of_lt_of_le hgl hba.size
  go_upto_region 2 with fail
  obtain ⟨wn, hwn⟩ : ∃ wn, wn = wa.setCell ⟨x.gb, 3, none⟩ (.int .i64 ((at_ : Int) + 1)) := ⟨_, rfl⟩
  obtain ⟨g1, g2⟩ := HDA.out.setAt HD.out (at_ + 1)
  rw [show ((at_ + 1 : Nat) : Int) = (at_ : Int) + 1 by omega, ← hwn] at g1 g2
  rw [← hwn]
  have HNG := Lib.hid (show w.heap.size ≠ x.gb by have := HH.out.hb; have := HD.out.lt; omega)
  have HX1 := Lib.hid (g2.high _ _ _ (by decide) HNG.out hbx)
  have H1 := Lib.hid g1
  have K1 := Lib.hid ((GK.of_below (gb := x.gb) (base := x.base) hba).trans g2)
  clear hwn hbx hba g1 g2 d1 d2 d3 e0 e1 e2 e3 e4 HDA HFA HFW
  clear hx1 hx2 hx3 hx4 hx5 hgl hcb hsl
  have y0 : wn.cell? ⟨w.heap.size, 0, none⟩ = some (.int .u8 (op : Int)) := by rw [Lib.cell_of_heap HX1.out]; rfl
  have y1 : wn.cell? ⟨w.heap.size, 1, none⟩ = some (.int .i64 a) := by rw [Lib.cell_of_heap HX1.out]; rfl
  go_wp2_with fail
  refine (hole_z HD.out H1.out (by obtain ⟨lb0, lb1⟩ := LB.out; omega) 53 53 rfl).mono ?_
  rintro e w12 ⟨pbp, ibp, rfl, g1, g2, g3⟩
  simp only [holeF]
  have HQp := Lib.hid g3
  have H2 := Lib.hid g1
  have K2 := Lib.hid (K1.out.trans g2)
  have X2 := Lib.hid (g2.high _ _ _ (by decide) HNG.out HX1.out)
  clear g1 g2 g3
  go_wp2_with fail
  refine (hole_z HD.out H2.out (by obtain ⟨lb0, lb1⟩ := LB.out; simp <;> omega) 1 1 rfl).mono ?_
  rintro e w13 ⟨pbe, ibe, rfl, g1, g2, g3⟩
  simp only [holeF]
  have HQe := Lib.hid g3
  have H3 := Lib.hid g1
  have K3 := Lib.hid (K2.out.trans g2)
  have X3 := Lib.hid (g2.high _ _ _ (by decide) HNG.out X2.out)
  have HQp := Lib.hid (HQp.out.keep g2)
  clear g1 g2 g3
  go_wp2_with fail
  refine (fill_any HD.out H3.out HQp.out (by simp <;> omega) (by obtain ⟨lb0, lb1⟩ := LB.out; simp <;> omega)).mono ?_
  rintro e w14 ⟨rfl, g1, g2⟩
  rw [show (code ++ [insO 53] ++ [insO 1]) = (code) ++ [insO 53] ++ ([insO 1]) by simp, fill_mid, show (code).length + 1 + ([insO 1]).length = code.length + 2 by simp <;> omega] at g1
  have H4 := Lib.hid g1
  have K4 := Lib.hid (K3.out.trans g2)
  have X4 := Lib.hid (g2.high _ _ _ (by decide) HNG.out X3.out)
  have HQe := Lib.hid (HQe.out.keep g2)
  clear g1 g2
  go_wp2_with fail
  refine (IH.out _ _ _ _ _ H4.out Rb.out Nb.out (by obtain ⟨lb0, lb1⟩ := LB.out; simp <;> omega)).mono ?_
  rintro e w15 ⟨rfl, g1, g2⟩
  rw [show ((code) ++ [insA 53 ((code.length + 2 : Nat) : Int)] ++ ([insO 1])).length = code.length + 2 by simp <;> omega] at g1
  rw [← HCb.out] at g1
  have H5 := Lib.hid g1
  have K5 := Lib.hid (K4.out.trans g2)
  have X5 := Lib.hid (g2.high _ _ _ (by decide) HNG.out X4.out)
  have HQe := Lib.hid (HQe.out.keep g2)
  clear g1 g2
  go_wp2_with fail
  refine (op_z HD.out H5.out (by obtain ⟨lb0, lb1⟩ := LB.out; simp <;> omega) 28 28 rfl).mono ?_
  rintro e w16 ⟨rfl, g1, g2⟩
  have H6 := Lib.hid g1
  have K6 := Lib.hid (K5.out.trans g2)
  have X6 := Lib.hid (g2.high _ _ _ (by decide) HNG.out X5.out)
  have HQe := Lib.hid (HQe.out.keep g2)
  clear g1 g2
  go_wp2_with fail
  refine leaves_cons (f := 34) (args := #[.pointer (some ⟨pbe, 0, none⟩), .pointer (some ⟨ibe, 0, none⟩)]) (by simp) (by simp [go_sem]) ?_
  refine (fillD_any HD.out H6.out HQe.out (by simp <;> omega) (by obtain ⟨lb0, lb1⟩ := LB.out; simp <;> omega) _).mono ?_
  rintro e u' wz ⟨rfl, rfl, g1, g2⟩
  rw [show (code ++ [insO 53]).length = (code ++ [insA 53 ((code.length + 2 : Nat) : Int)]).length by simp] at g1
  rw [show ((code) ++ [insA 53 ((code.length + 2 : Nat) : Int)] ++ ([insO 1]) ++ qb ++ [insO 28]) = (code ++ [insA 53 ((code.length + 2 : Nat) : Int)]) ++ [insO 1] ++ (qb ++ [insO 28]) by simp, fill_mid, show (code ++ [insA 53 ((code.length + 2 : Nat) : Int)]).length + 1 + (qb ++ [insO 28]).length = code.length + 2 + qb.length + 1 by simp <;> omega] at g1
  refine ⟨_, results_none rfl _ _ _, rfl, ?_, K6.out.trans g2⟩
  rw [E.out]
  have G5 := g1
  simpa using G5
set_option maxRecDepth 100000 in
set_option maxHeartbeats 4000000 in
theorem next_62 (x : GB) (hd : GD x) (f : Nat) (ih : NextH x f) (at_ nx : Nat) (may : Nat → Bool) (code : List InsV) (w : World) (h : CW x code at_ w) (hr : Rt x.cs (f + 1) at_ nx may) (hno : (atV x.cs at_).op ≠ 2) (hrm : code.length + 3 * (x.cs.length - at_) ≤ 90000) (ho : (atV x.cs at_).op = 6 ∧ (atV x.cs at_).a ≠ 3) :
    Calls Try.prog 13 #[.pointer (some ⟨x.gb, 0, none⟩)] w (KPost x (.tuple #[]) (code ++ (compS x.cs x.so (f + 1) at_ code.length).1) nx w) := by
  have hmf : ∀ (fn : Fn) (first cap : Array Value) (w : World), (Instr.makeFunc fn first cap).run Try.prog w = .ok (.func fn first cap) w := fun _ _ _ _ => rfl
  have hnxl := hr.lt
  obtain ⟨hlt, htw, ks, k0, k1, k2⟩ := hr
  have hlen := hd.len
  have hsz := hd.sz
  obtain ⟨cb, co, hA, hcb, hck⟩ := h.cd (by omega)
  obtain ⟨e0, e1, e2, e3⟩ := hck at_ hlt
  have e4 := h.ro.at (k := at_) (by omega)
  have kid := fun i fr (hi : i < (atV x.cs at_).a.toNat) => comp_ok x.cs x.so f (ks i) (ks (i + 1)) _ (k2 i hi) (part_no (form_pk (by rw [ho.1]; decide)) (tw_form (rt_ok (k2 i hi))).1) fr
  have kno := fun i (hi : i < (atV x.cs at_).a.toNat) => part_no (form_pk (by rw [ho.1]; decide)) (tw_form (rt_ok (k2 i hi))).1
  have hkn : (atV x.cs at_).a.toNat = 2 := by have h2 := (tw_form htw).2; rw [show formS (atV x.cs at_).op = ⟨1, 2, 3, 3⟩ by rw [ho.1]; rfl] at h2; simp only at h2; omega
  have hnx : ks 2 = nx := by rw [← k1, hkn]
  have Ca : Cp x.cs (at_ + 1) (ks 1) (compS x.cs x.so f (at_ + 1) (code.length)) := by have := kid 0 (code.length) (by omega); rw [k0] at this; exact this
  have Ra := Lib.hid (show Rt x.cs f (at_ + 1) (ks 1) _ by have := k2 0 (by omega); rw [k0] at this; exact this)
  have Na := Lib.hid (show (atV x.cs (at_ + 1)).op ≠ 2 by have := kno 0 (by omega); rw [k0] at this; exact this)
  obtain ⟨qa, hca⟩ : ∃ r, r = (compS x.cs x.so f (at_ + 1) (code.length)).1 := ⟨_, rfl⟩
  have HCa := Lib.hid hca
  have Cb : Cp x.cs (ks 1) (nx) (compS x.cs x.so f (ks 1) (code.length + qa.length + 1)) := by have := kid 1 (code.length + qa.length + 1) (by omega);  rw [show 1 + 1 = 2 from rfl, hnx] at this; exact this
  have Rb := Lib.hid (show Rt x.cs f (ks 1) (nx) _ by have := k2 1 (by omega);  rw [show 1 + 1 = 2 from rfl, hnx] at this; exact this)
  have Nb := Lib.hid (show (atV x.cs (ks 1)).op ≠ 2 by have := kno 1 (by omega);  exact this)
  obtain ⟨qb, hcb⟩ : ∃ r, r = (compS x.cs x.so f (ks 1) (code.length + qa.length + 1)).1 := ⟨_, rfl⟩
  have HCb := Lib.hid hcb
  have LB := Lib.hid (show at_ + 1 ≤ ks 1 ∧ qa.length ≤ 3 * (ks 1 - (at_ + 1)) ∧ ks 1 ≤ nx ∧ qb.length ≤ 3 * (nx - (ks 1)) from ⟨Ca.le, by rw [hca]; exact Ca.l, Cb.le, by rw [hcb]; exact Cb.l⟩)
  have E := Lib.hid (show compS x.cs x.so (f + 1) at_ code.length = (qa ++ [insA 2 ((code.length + qa.length + 1 + qb.length : Nat) : Int)] ++ qb, nx) by rw [compS]; simp only; rw [if_neg (by omega), if_pos ho.1, if_neg ho.2, Ca.e, ← hca, Cb.e, ← hcb])
  obtain ⟨_, hlo, hhi⟩ := tw_form htw
  have hab := tw_kidsC htw
  have HIS := Lib.hid (tw_is htw)
  generalize compS x.cs x.so (f + 1) at_ code.length = rr at *
  generalize htq : atV x.cs at_ = tw at *
  obtain ⟨op, a, int, text⟩ := tw
  simp only at e0 e1 e2 e3 hlo hhi k1 k2 ho E HIS hno hab
  generalize x.so.getD at_ 0 = sv at *
  have d1 := h.c1
  have d2 := h.c2
  have d3 := h.c3
  have g1 := h.fz 3
  have hgl := World.block_lt_of_cell? w _ d3
  simp only at hgl
  have hsl := h.ro.lt
  rw [hA] at d1
  have HH := Lib.hid h
  have IH := Lib.hid ih
  have HD := Lib.hid hd
  have KS0 := Lib.hid k0
  have KS1 := Lib.hid k1
  have KS2 := Lib.hid k2
  have HTQ := Lib.hid htq
  have HSZ := Lib.hid hsz
  have hx1 : decide ((at_ : Int) < (x.cs.length : Int)) = true := decide_eq_true (by omega)
  have hx2 : decide ((at_ : Int) < (x.so.length : Int)) = true := decide_eq_true (by omega)
  have hx3 : decide (at_ < x.cs.length) = true := decide_eq_true (by omega)
  have hx4 : decide (at_ < x.so.length) = true := decide_eq_true (by omega)
  have hx5 : at_ < x.so.length := by omega
  have o1 : ((op : Int) == 1) = false := by simp; omega
  have o6 : ((op : Int) == 6) = true := by simp; omega
  have HO := Lib.hid ho
  have HNO := Lib.hid hno
  clear hck h hd k0 k1 k2 ih hA htw htq hsz ho hno
  clear Ca hca Cb hcb kid kno hkn hnx
  go_enter_defers Try.func13, Try.ntmps13
  have HFA := Lib.hid (show ∀ o : Obj, HeldN (w.alloc o) x cb co at_ op a int text sv from fun o => HeldN.alloc ⟨d1, d2, d3, e0, e1, e2, e3, e4⟩ hgl hcb hsl o)
  have HFW := Lib.hid (show HeldN w x cb co at_ op a int text sv from ⟨d1, d2, d3, e0, e1, e2, e3, e4⟩)
  go_upto_region 0 with fail
  go_region_held3 (fun w' => w'.cell? ⟨x.gb, 1, none⟩ = some (.slice (some ⟨cb, co, none⟩) x.cs.length x.c) ∧ w'.cell? ⟨x.gb, 2, none⟩ = some (.slice (some ⟨x.sl, 0, none⟩) x.so.length x.cap) ∧ w'.cell? ⟨x.gb, 3, none⟩ = some (.int .i64 (at_ : Int)) ∧ w'.cell? ⟨cb, co + at_ * 4, none⟩ = some (.int .u8 (op : Int)) ∧ w'.cell? ⟨cb, co + at_ * 4 + 1, none⟩ = some (.int .i64 a) ∧ w'.cell? ⟨cb, co + at_ * 4 + 2, none⟩ = some (.int .i64 int) ∧ w'.cell? ⟨cb, co + at_ * 4 + 3, none⟩ = some (.string text) ∧ w'.cell? ⟨x.sl, at_, none⟩ = some (.int .i64 sv))
    (first | exact HFW.out.all | exact (HFA.out _).all) (first | fail)
  obtain ⟨wa, hwa⟩ : ∃ wa, wa = (w.alloc (.cells #[.int .u8 (op : Int), .int .i64 a, .int .i64 int, .string text] 31)).drew := ⟨_, rfl⟩
  have hba : Below w.heap.size w wa := by rw [hwa]; exact ((Below.refl _ w).alloc (Nat.le_refl _) _).drew
  have hbx : wa.heap[w.heap.size]? = some (.cells #[.int .u8 (op : Int), .int .i64 a, .int .i64 int, .string text] 31 (0, 0)) := by rw [hwa]; exact heap_alloc_new _ _
  rw [← hwa]
  clear hwa
  have HDA := Lib.hid (HH.out.low HD.out hba)
  have d3 := HDA.out.c3
  have g1 := HDA.out.fz 3
  have hgl := Nat.lt_of_lt_of_le hgl hba.size
  go_upto_region 2 with fail
  obtain ⟨wn, hwn⟩ : ∃ wn, wn = wa.setCell ⟨x.gb, 3, none⟩ (.int .i64 ((at_ : Int) + 1)) := ⟨_, rfl⟩
  obtain ⟨g1, g2⟩ := HDA.out.setAt HD.out (at_ + 1)
  rw [show ((at_ + 1 : Nat) : Int) = (at_ : Int) + 1 by omega, ← hwn] at g1 g2
  rw [← hwn]
  have HNG := Lib.hid (show w.heap.size ≠ x.gb by have := HH.out.hb; have := HD.out.lt; omega)
  have HX1 := Lib.hid (g2.high _ _ _ (by decide) HNG.out hbx)
  have H1 := Lib.hid g1
  have K1 := Lib.hid ((GK.of_below (gb := x.gb) (base := x.base) hba).trans g2)
  clear hwn hbx hba g1 g2 d1 d2 d3 e0 e1 e2 e3 e4 HDA HFA HFW
  clear hx1 hx2 hx3 hx4 hx5 hgl hcb hsl
  have y0 : wn.cell? ⟨w.heap.size, 0, none⟩ = some (.int .u8 (op : Int)) := by rw [Lib.cell_of_heap HX1.out]; rfl
  have y1 : wn.cell? ⟨w.heap.size, 1, none⟩ = some (.int .i64 a) := by rw [Lib.cell_of_heap HX1.out]; rfl
  go_wp2_with fail
  refine (IH.out _ _ _ _ _ H1.out Ra.out Na.out (by obtain ⟨lb0, lb1, lb2, lb3⟩ := LB.out; omega)).mono ?_
  rintro e w12 ⟨rfl, g1, g2⟩
  rw [← HCa.out] at g1
  have H2 := Lib.hid g1
  have K2 := Lib.hid (K1.out.trans g2)
  have X2 := Lib.hid (g2.high _ _ _ (by decide) HNG.out HX1.out)
  clear g1 g2
  go_wp2_with fail
  refine (hole_z HD.out H2.out (by obtain ⟨lb0, lb1, lb2, lb3⟩ := LB.out; simp <;> omega) 2 2 rfl).mono ?_
  rintro e w13 ⟨pbp, ibp, rfl, g1, g2, g3⟩
  simp only [holeF]
  have HQp := Lib.hid g3
  have H3 := Lib.hid g1
  have K3 := Lib.hid (K2.out.trans g2)
  have X3 := Lib.hid (g2.high _ _ _ (by decide) HNG.out X2.out)
  clear g1 g2 g3
  go_wp2_with fail
  refine (IH.out _ _ _ _ _ H3.out Rb.out Nb.out (by obtain ⟨lb0, lb1, lb2, lb3⟩ := LB.out; simp <;> omega)).mono ?_
  rintro e w14 ⟨rfl, g1, g2⟩
  rw [show (code ++ qa ++ [insO 2]).length = code.length + qa.length + 1 by simp <;> omega] at g1
  rw [← HCb.out] at g1
  have H4 := Lib.hid g1
  have K4 := Lib.hid (K3.out.trans g2)
  have X4 := Lib.hid (g2.high _ _ _ (by decide) HNG.out X3.out)
  have HQp := Lib.hid (HQp.out.keep g2)
  clear g1 g2
  have ha3 : (a == 3) = false := by have := HO.out.2; simp; omega
  have z1 : w14.cell? ⟨w.heap.size, 1, none⟩ = some (.int .i64 a) := by rw [Lib.cell_of_heap X4.out]; rfl
  go_wp2_with fail
  refine (fill_any HD.out H4.out HQp.out (by simp <;> omega) (by obtain ⟨lb0, lb1, lb2, lb3⟩ := LB.out; simp <;> omega)).mono ?_
  rintro e w15 ⟨rfl, g1, g2⟩
  rw [show (code ++ qa ++ [insO 2] ++ qb) = (code ++ qa) ++ [insO 2] ++ (qb) by simp, fill_mid, show (code ++ qa).length + 1 + (qb).length = code.length + qa.length + 1 + qb.length by simp <;> omega] at g1
  have H5 := Lib.hid g1
  have K5 := Lib.hid (K4.out.trans g2)
  have X5 := Lib.hid (g2.high _ _ _ (by decide) HNG.out X4.out)
  clear g1 g2
  go_wp2_with fail
  refine ⟨_, results_none rfl _ _ _, rfl, ?_, K5.out⟩
  rw [E.out]
  have G5 := H5.out
  simpa using G5
set_option maxRecDepth 100000 in
set_option maxHeartbeats 4000000 in
theorem next_63 (x : GB) (hd : GD x) (f : Nat) (ih : NextH x f) (at_ nx : Nat) (may : Nat → Bool) (code : List InsV) (w : World) (h : CW x code at_ w) (hr : Rt x.cs (f + 1) at_ nx may) (hno : (atV x.cs at_).op ≠ 2) (hrm : code.length + 3 * (x.cs.length - at_) ≤ 90000) (ho : (atV x.cs at_).op = 6 ∧ (atV x.cs at_).a = 3) :
    Calls Try.prog 13 #[.pointer (some ⟨x.gb, 0, none⟩)] w (KPost x (.tuple #[]) (code ++ (compS x.cs x.so (f + 1) at_ code.length).1) nx w) := by
  have hmf : ∀ (fn : Fn) (first cap : Array Value) (w : World), (Instr.makeFunc fn first cap).run Try.prog w = .ok (.func fn first cap) w := fun _ _ _ _ => rfl
  have hnxl := hr.lt
  obtain ⟨hlt, htw, ks, k0, k1, k2⟩ := hr
  have hlen := hd.len
  have hsz := hd.sz
  obtain ⟨cb, co, hA, hcb, hck⟩ := h.cd (by omega)
  obtain ⟨e0, e1, e2, e3⟩ := hck at_ hlt
  have e4 := h.ro.at (k := at_) (by omega)
  have kid := fun i fr (hi : i < (atV x.cs at_).a.toNat) => comp_ok x.cs x.so f (ks i) (ks (i + 1)) _ (k2 i hi) (part_no (form_pk (by rw [ho.1]; decide)) (tw_form (rt_ok (k2 i hi))).1) fr
  have kno := fun i (hi : i < (atV x.cs at_).a.toNat) => part_no (form_pk (by rw [ho.1]; decide)) (tw_form (rt_ok (k2 i hi))).1
  have hkn : (atV x.cs at_).a.toNat = 3 := by rw [ho.2]; rfl
  have hnx : ks 3 = nx := by rw [← k1, hkn]
  have Ca : Cp x.cs (at_ + 1) (ks 1) (compS x.cs x.so f (at_ + 1) (code.length)) := by have := kid 0 (code.length) (by omega); rw [k0] at this; exact this
  have Ra := Lib.hid (show Rt x.cs f (at_ + 1) (ks 1) _ by have := k2 0 (by omega); rw [k0] at this; exact this)
  have Na := Lib.hid (show (atV x.cs (at_ + 1)).op ≠ 2 by have := kno 0 (by omega); rw [k0] at this; exact this)
  obtain ⟨qa, hca⟩ : ∃ r, r = (compS x.cs x.so f (at_ + 1) (code.length)).1 := ⟨_, rfl⟩
  have HCa := Lib.hid hca
  have Cb : Cp x.cs (ks 1) (ks 2) (compS x.cs x.so f (ks 1) (code.length + qa.length + 1)) := by have := kid 1 (code.length + qa.length + 1) (by omega);  exact this
  have Rb := Lib.hid (show Rt x.cs f (ks 1) (ks 2) _ by have := k2 1 (by omega);  exact this)
  have Nb := Lib.hid (show (atV x.cs (ks 1)).op ≠ 2 by have := kno 1 (by omega);  exact this)
  obtain ⟨qb, hcb⟩ : ∃ r, r = (compS x.cs x.so f (ks 1) (code.length + qa.length + 1)).1 := ⟨_, rfl⟩
  have HCb := Lib.hid hcb
  have Cc : Cp x.cs (ks 2) (nx) (compS x.cs x.so f (ks 2) (code.length + qa.length + 1 + qb.length + 1)) := by have := kid 2 (code.length + qa.length + 1 + qb.length + 1) (by omega);  rw [show 2 + 1 = 3 from rfl, hnx] at this; exact this
  have Rc := Lib.hid (show Rt x.cs f (ks 2) (nx) _ by have := k2 2 (by omega);  rw [show 2 + 1 = 3 from rfl, hnx] at this; exact this)
  have Nc := Lib.hid (show (atV x.cs (ks 2)).op ≠ 2 by have := kno 2 (by omega);  exact this)
  obtain ⟨qc, hcc⟩ : ∃ r, r = (compS x.cs x.so f (ks 2) (code.length + qa.length + 1 + qb.length + 1)).1 := ⟨_, rfl⟩
  have HCc := Lib.hid hcc
  have LB := Lib.hid (show at_ + 1 ≤ ks 1 ∧ qa.length ≤ 3 * (ks 1 - (at_ + 1)) ∧ ks 1 ≤ ks 2 ∧ qb.length ≤ 3 * (ks 2 - (ks 1)) ∧ ks 2 ≤ nx ∧ qc.length ≤ 3 * (nx - (ks 2)) from ⟨Ca.le, by rw [hca]; exact Ca.l, Cb.le, by rw [hcb]; exact Cb.l, Cc.le, by rw [hcc]; exact Cc.l⟩)
  have E := Lib.hid (show compS x.cs x.so (f + 1) at_ code.length = (qa ++ [insA 2 ((code.length + qa.length + 1 + qb.length + 1 : Nat) : Int)] ++ qb ++ [insA 1 ((code.length + qa.length + 1 + qb.length + 1 + qc.length : Nat) : Int)] ++ qc, nx) by rw [compS]; simp only; rw [if_neg (by omega), if_pos ho.1, if_pos ho.2, Ca.e, ← hca, Cb.e, ← hcb, Cc.e, ← hcc])
  obtain ⟨_, hlo, hhi⟩ := tw_form htw
  have hab := tw_kidsC htw
  have HIS := Lib.hid (tw_is htw)
  generalize compS x.cs x.so (f + 1) at_ code.length = rr at *
  generalize htq : atV x.cs at_ = tw at *
  obtain ⟨op, a, int, text⟩ := tw
  simp only at e0 e1 e2 e3 hlo hhi k1 k2 ho E HIS hno hab
  generalize x.so.getD at_ 0 = sv at *
  have d1 := h.c1
  have d2 := h.c2
  have d3 := h.c3
  have g1 := h.fz 3
  have hgl := World.block_lt_of_cell? w _ d3
  simp only at hgl
  have hsl := h.ro.lt
  rw [hA] at d1
  have HH := Lib.hid h
  have IH := Lib.hid ih
  have HD := Lib.hid hd
  have KS0 := Lib.hid k0
  have KS1 := Lib.hid k1
  have KS2 := Lib.hid k2
  have HTQ := Lib.hid htq
  have HSZ := Lib.hid hsz
  have hx1 : decide ((at_ : Int) < (x.cs.length : Int)) = true := decide_eq_true (by omega)
  have hx2 : decide ((at_ : Int) < (x.so.length : Int)) = true := decide_eq_true (by omega)
  have hx3 : decide (at_ < x.cs.length) = true := decide_eq_true (by omega)
  have hx4 : decide (at_ < x.so.length) = true := decide_eq_true (by omega)
  have hx5 : at_ < x.so.length := by omega
  have o1 : ((op : Int) == 1) = false := by simp; omega
  have o6 : ((op : Int) == 6) = true := by simp; omega
  have HO := Lib.hid ho
  have HNO := Lib.hid hno
  clear hck h hd k0 k1 k2 ih hA htw htq hsz ho hno
  clear Ca hca Cb hcb Cc hcc kid kno hkn hnx
  go_enter_defers Try.func13, Try.ntmps13
  have HFA := Lib.hid (show ∀ o : Obj, HeldN (w.alloc o) x cb co at_ op a int text sv from fun o => HeldN.alloc ⟨d1, d2, d3, e0, e1, e2, e3, e4⟩ hgl hcb hsl o)
  have HFW := Lib.hid (show HeldN w x cb co at_ op a int text sv from ⟨d1, d2, d3, e0, e1, e2, e3, e4⟩)
  go_upto_region 0 with fail
  go_region_held3 (fun w' => w'.cell? ⟨x.gb, 1, none⟩ = some (.slice (some ⟨cb, co, none⟩) x.cs.length x.c) ∧ w'.cell? ⟨x.gb, 2, none⟩ = some (.slice (some ⟨x.sl, 0, none⟩) x.so.length x.cap) ∧ w'.cell? ⟨x.gb, 3, none⟩ = some (.int .i64 (at_ : Int)) ∧ w'.cell? ⟨cb, co + at_ * 4, none⟩ = some (.int .u8 (op : Int)) ∧ w'.cell? ⟨cb, co + at_ * 4 + 1, none⟩ = some (.int .i64 a) ∧ w'.cell? ⟨cb, co + at_ * 4 + 2, none⟩ = some (.int .i64 int) ∧ w'.cell? ⟨cb, co + at_ * 4 + 3, none⟩ = some (.string text) ∧ w'.cell? ⟨x.sl, at_, none⟩ = some (.int .i64 sv))
    (first | exact HFW.out.all | exact (HFA.out _).all) (first | fail)
  obtain ⟨wa, hwa⟩ : ∃ wa, wa = (w.alloc (.cells #[.int .u8 (op : Int), .int .i64 a, .int .i64 int, .string text] 31)).drew := ⟨_, rfl⟩
  have hba : Below w.heap.size w wa := by rw [hwa]; exact ((Below.refl _ w).alloc (Nat.le_refl _) _).drew
  have hbx : wa.heap[w.heap.size]? = some (.cells #[.int .u8 (op : Int), .int .i64 a, .int .i64 int, .string text] 31 (0, 0)) := by rw [hwa]; exact heap_alloc_new _ _
  rw [← hwa]
  clear hwa
  have HDA := Lib.hid (HH.out.low HD.out hba)
  have d3 := HDA.out.c3
  have g1 := HDA.out.fz 3
  have hgl := Nat.lt_of_lt_of_le hgl hba.size
  go_upto_region 2 with fail
  obtain ⟨wn, hwn⟩ : ∃ wn, wn = wa.setCell ⟨x.gb, 3, none⟩ (.int .i64 ((at_ : Int) + 1)) := ⟨_, rfl⟩
  obtain ⟨g1, g2⟩ := HDA.out.setAt HD.out (at_ + 1)
  rw [show ((at_ + 1 : Nat) : Int) = (at_ : Int) + 1 by omega, ← hwn] at g1 g2
  rw [← hwn]
  have HNG := Lib.hid (show w.heap.size ≠ x.gb by have := HH.out.hb; have := HD.out.lt; omega)
  have HX1 := Lib.hid (g2.high _ _ _ (by decide) HNG.out hbx)
  have H1 := Lib.hid g1
  have K1 := Lib.hid ((GK.of_below (gb := x.gb) (base := x.base) hba).trans g2)
  clear hwn hbx hba g1 g2 d1 d2 d3 e0 e1 e2 e3 e4 HDA HFA HFW
  clear hx1 hx2 hx3 hx4 hx5 hgl hcb hsl
  have y0 : wn.cell? ⟨w.heap.size, 0, none⟩ = some (.int .u8 (op : Int)) := by rw [Lib.cell_of_heap HX1.out]; rfl
  have y1 : wn.cell? ⟨w.heap.size, 1, none⟩ = some (.int .i64 a) := by rw [Lib.cell_of_heap HX1.out]; rfl
  go_wp2_with fail
  refine (IH.out _ _ _ _ _ H1.out Ra.out Na.out (by obtain ⟨lb0, lb1, lb2, lb3, lb4, lb5⟩ := LB.out; omega)).mono ?_
  rintro e w12 ⟨rfl, g1, g2⟩
  rw [← HCa.out] at g1
  have H2 := Lib.hid g1
  have K2 := Lib.hid (K1.out.trans g2)
  have X2 := Lib.hid (g2.high _ _ _ (by decide) HNG.out HX1.out)
  clear g1 g2
  go_wp2_with fail
  refine (hole_z HD.out H2.out (by obtain ⟨lb0, lb1, lb2, lb3, lb4, lb5⟩ := LB.out; simp <;> omega) 2 2 rfl).mono ?_
  rintro e w13 ⟨pbp, ibp, rfl, g1, g2, g3⟩
  simp only [holeF]
  have HQp := Lib.hid g3
  have H3 := Lib.hid g1
  have K3 := Lib.hid (K2.out.trans g2)
  have X3 := Lib.hid (g2.high _ _ _ (by decide) HNG.out X2.out)
  clear g1 g2 g3
  go_wp2_with fail
  refine (IH.out _ _ _ _ _ H3.out Rb.out Nb.out (by obtain ⟨lb0, lb1, lb2, lb3, lb4, lb5⟩ := LB.out; simp <;> omega)).mono ?_
  rintro e w14 ⟨rfl, g1, g2⟩
  rw [show (code ++ qa ++ [insO 2]).length = code.length + qa.length + 1 by simp <;> omega] at g1
  rw [← HCb.out] at g1
  have H4 := Lib.hid g1
  have K4 := Lib.hid (K3.out.trans g2)
  have X4 := Lib.hid (g2.high _ _ _ (by decide) HNG.out X3.out)
  have HQp := Lib.hid (HQp.out.keep g2)
  clear g1 g2
  have ha3 : (a == 3) = true := by have := HO.out.2; simp; omega
  have z1 : w14.cell? ⟨w.heap.size, 1, none⟩ = some (.int .i64 a) := by rw [Lib.cell_of_heap X4.out]; rfl
  go_wp2_with fail
  refine (hole_z HD.out H4.out (by obtain ⟨lb0, lb1, lb2, lb3, lb4, lb5⟩ := LB.out; simp <;> omega) 1 1 rfl).mono ?_
  rintro e w15 ⟨pbe, ibe, rfl, g1, g2, g3⟩
  simp only [holeF]
  have HQe := Lib.hid g3
  have H5 := Lib.hid g1
  have K5 := Lib.hid (K4.out.trans g2)
  have X5 := Lib.hid (g2.high _ _ _ (by decide) HNG.out X4.out)
  have HQp := Lib.hid (HQp.out.keep g2)
  clear g1 g2 g3
  go_wp2_with fail
  refine (fill_any HD.out H5.out HQp.out (by simp <;> omega) (by obtain ⟨lb0, lb1, lb2, lb3, lb4, lb5⟩ := LB.out; simp <;> omega)).mono ?_
  rintro e w16 ⟨rfl, g1, g2⟩
  rw [show (code ++ qa ++ [insO 2] ++ qb ++ [insO 1]) = (code ++ qa) ++ [insO 2] ++ (qb ++ [insO 1]) by simp, fill_mid, show (code ++ qa).length + 1 + (qb ++ [insO 1]).length = code.length + qa.length + 1 + qb.length + 1 by simp <;> omega] at g1
  have H6 := Lib.hid g1
  have K6 := Lib.hid (K5.out.trans g2)
  have X6 := Lib.hid (g2.high _ _ _ (by decide) HNG.out X5.out)
  have HQe := Lib.hid (HQe.out.keep g2)
  clear g1 g2
  go_wp2_with fail
  refine (IH.out _ _ _ _ _ H6.out Rc.out Nc.out (by obtain ⟨lb0, lb1, lb2, lb3, lb4, lb5⟩ := LB.out; simp <;> omega)).mono ?_
  rintro e w17 ⟨rfl, g1, g2⟩
  rw [show ((code ++ qa) ++ [insA 2 ((code.length + qa.length + 1 + qb.length + 1 : Nat) : Int)] ++ (qb ++ [insO 1])).length = code.length + qa.length + 1 + qb.length + 1 by simp <;> omega] at g1
  rw [← HCc.out] at g1
  have H7 := Lib.hid g1
  have K7 := Lib.hid (K6.out.trans g2)
  have X7 := Lib.hid (g2.high _ _ _ (by decide) HNG.out X6.out)
  have HQe := Lib.hid (HQe.out.keep g2)
  clear g1 g2
  go_wp2_with fail
  refine leaves_cons (f := 34) (args := #[.pointer (some ⟨pbe, 0, none⟩), .pointer (some ⟨ibe, 0, none⟩)]) (by simp) (by simp [go_sem]) ?_
  refine (fillD_any HD.out H7.out HQe.out (by simp <;> omega) (by obtain ⟨lb0, lb1, lb2, lb3, lb4, lb5⟩ := LB.out; simp <;> omega) _).mono ?_
  rintro e u' wz ⟨rfl, rfl, g1, g2⟩
  rw [show (code ++ qa ++ [insO 2] ++ qb).length = (code ++ qa ++ [insA 2 ((code.length + qa.length + 1 + qb.length + 1 : Nat) : Int)] ++ qb).length by simp] at g1
  rw [show ((code ++ qa) ++ [insA 2 ((code.length + qa.length + 1 + qb.length + 1 : Nat) : Int)] ++ (qb ++ [insO 1]) ++ qc) = (code ++ qa ++ [insA 2 ((code.length + qa.length + 1 + qb.length + 1 : Nat) : Int)] ++ qb) ++ [insO 1] ++ (qc) by simp, fill_mid, show (code ++ qa ++ [insA 2 ((code.length + qa.length + 1 + qb.length + 1 : Nat) : Int)] ++ qb).length + 1 + (qc).length = code.length + qa.length + 1 + qb.length + 1 + qc.length by simp <;> omega] at g1
  refine ⟨_, results_none rfl _ _ _, rfl, ?_, K7.out.trans g2⟩
  rw [E.out]
  have G5 := g1
  simpa using G5
set_option maxRecDepth 100000 in
set_option maxHeartbeats 4000000 in
theorem next_1 (x : GB) (hd : GD x) (f : Nat) (ih : NextH x f) (at_ nx : Nat) (may : Nat → Bool) (code : List InsV) (w : World) (h : CW x code at_ w) (hr : Rt x.cs (f + 1) at_ nx may) (hno : (atV x.cs at_).op ≠ 2) (hrm : code.length + 3 * (x.cs.length - at_) ≤ 90000) (ho : (atV x.cs at_).op = 1) :
    Calls Try.prog 13 #[.pointer (some ⟨x.gb, 0, none⟩)] w (KPost x (.tuple #[]) (code ++ (compS x.cs x.so (f + 1) at_ code.length).1) nx w) := by
  have hmf : ∀ (fn : Fn) (first cap : Array Value) (w : World), (Instr.makeFunc fn first cap).run Try.prog w = .ok (.func fn first cap) w := fun _ _ _ _ => rfl
  have hnxl := hr.lt
  have hrr := hr
  obtain ⟨hlt, htw, ks, k0, k1, k2⟩ := hr
  have hlen := hd.len
  have hsz := hd.sz
  obtain ⟨cb, co, hA, hcb, hck⟩ := h.cd (by omega)
  obtain ⟨e0, e1, e2, e3⟩ := hck at_ hlt
  have e4 := h.ro.at (k := at_) (by omega)
  obtain ⟨may1, hr1, hn1, ha1⟩ := flow_block hrr ho
  obtain ⟨A1, hA1⟩ : ∃ A1, A1 = at_ + (atV x.cs at_).a.toNat := ⟨_, rfl⟩
  rw [← hA1] at hr1 hn1
  have Cb := comp_ok x.cs x.so f A1 nx _ hr1 hn1 code.length
  obtain ⟨qb, hcb1⟩ : ∃ r, r = (compS x.cs x.so f A1 code.length).1 := ⟨_, rfl⟩
  have HCb := Lib.hid hcb1
  have Rb := Lib.hid hr1
  have Nb := Lib.hid hn1
  have LB := Lib.hid (show A1 ≤ nx ∧ qb.length ≤ 3 * (nx - A1) from ⟨Cb.le, by rw [hcb1]; exact Cb.l⟩)
  have E := Lib.hid (show compS x.cs x.so (f + 1) at_ code.length = (qb ++ [insO 28], nx) by rw [compS]; simp only; rw [if_pos ho, ← hA1, Cb.e, ← hcb1])
  obtain ⟨_, hlo, hhi⟩ := tw_form htw
  have hab := tw_kidsC htw
  have HIS := Lib.hid (tw_is htw)
  generalize compS x.cs x.so (f + 1) at_ code.length = rr at *
  generalize htq : atV x.cs at_ = tw at *
  obtain ⟨op, a, int, text⟩ := tw
  simp only at e0 e1 e2 e3 hlo hhi k1 k2 ho E HIS hno hab ha1 hA1
  generalize x.so.getD at_ 0 = sv at *
  have d1 := h.c1
  have d2 := h.c2
  have d3 := h.c3
  have g1 := h.fz 3
  have hgl := World.block_lt_of_cell? w _ d3
  simp only at hgl
  have hsl := h.ro.lt
  rw [hA] at d1
  have HH := Lib.hid h
  have IH := Lib.hid ih
  have HD := Lib.hid hd
  have KS0 := Lib.hid k0
  have KS1 := Lib.hid k1
  have KS2 := Lib.hid k2
  have HTQ := Lib.hid htq
  have HSZ := Lib.hid hsz
  have hx1 : decide ((at_ : Int) < (x.cs.length : Int)) = true := decide_eq_true (by omega)
  have hx2 : decide ((at_ : Int) < (x.so.length : Int)) = true := decide_eq_true (by omega)
  have hx3 : decide (at_ < x.cs.length) = true := decide_eq_true (by omega)
  have hx4 : decide (at_ < x.so.length) = true := decide_eq_true (by omega)
  have hx5 : at_ < x.so.length := by omega
  have o1 : ((op : Int) == 1) = true := by simp; omega
  have HO := Lib.hid ho
  have HNO := Lib.hid hno
  clear hrr
  clear hck h hd k0 k1 k2 ih hA htw htq hsz ho hno
  have HA1 := Lib.hid hA1
  clear Cb hcb1 hr1 hn1 hA1
  go_enter_defers Try.func13, Try.ntmps13
  have HFA := Lib.hid (show ∀ o : Obj, HeldN (w.alloc o) x cb co at_ op a int text sv from fun o => HeldN.alloc ⟨d1, d2, d3, e0, e1, e2, e3, e4⟩ hgl hcb hsl o)
  have HFW := Lib.hid (show HeldN w x cb co at_ op a int text sv from ⟨d1, d2, d3, e0, e1, e2, e3, e4⟩)
  go_upto_region 0 with fail
  go_region_held3 (fun w' => w'.cell? ⟨x.gb, 1, none⟩ = some (.slice (some ⟨cb, co, none⟩) x.cs.length x.c) ∧ w'.cell? ⟨x.gb, 2, none⟩ = some (.slice (some ⟨x.sl, 0, none⟩) x.so.length x.cap) ∧ w'.cell? ⟨x.gb, 3, none⟩ = some (.int .i64 (at_ : Int)) ∧ w'.cell? ⟨cb, co + at_ * 4, none⟩ = some (.int .u8 (op : Int)) ∧ w'.cell? ⟨cb, co + at_ * 4 + 1, none⟩ = some (.int .i64 a) ∧ w'.cell? ⟨cb, co + at_ * 4 + 2, none⟩ = some (.int .i64 int) ∧ w'.cell? ⟨cb, co + at_ * 4 + 3, none⟩ = some (.string text) ∧ w'.cell? ⟨x.sl, at_, none⟩ = some (.int .i64 sv))
    (first | exact HFW.out.all | exact (HFA.out _).all) (first | fail)
  obtain ⟨wa, hwa⟩ : ∃ wa, wa = (w.alloc (.cells #[.int .u8 (op : Int), .int .i64 a, .int .i64 int, .string text] 31)).drew := ⟨_, rfl⟩
  have hba : Below w.heap.size w wa := by rw [hwa]; exact ((Below.refl _ w).alloc (Nat.le_refl _) _).drew
  have hbx : wa.heap[w.heap.size]? = some (.cells #[.int .u8 (op : Int), .int .i64 a, .int .i64 int, .string text] 31 (0, 0)) := by rw [hwa]; exact heap_alloc_new _ _
  rw [← hwa]
  clear hwa
  have HDA := Lib.hid (HH.out.low HD.out hba)
  have d3 := HDA.out.c3
  have g1 := HDA.out.fz 3
  have hgl := Nat.lt_of_lt_of_le hgl hba.size
  go_upto_region 2 with fail
  obtain ⟨wn, hwn⟩ : ∃ wn, wn = wa.setCell ⟨x.gb, 3, none⟩ (.int .i64 ((at_ : Int) + 1)) := ⟨_, rfl⟩
  obtain ⟨g1, g2⟩ := HDA.out.setAt HD.out (at_ + 1)
  rw [show ((at_ + 1 : Nat) : Int) = (at_ : Int) + 1 by omega, ← hwn] at g1 g2
  rw [← hwn]
  have HNG := Lib.hid (show w.heap.size ≠ x.gb by have := HH.out.hb; have := HD.out.lt; omega)
  have HX1 := Lib.hid (g2.high _ _ _ (by decide) HNG.out hbx)
  have H1 := Lib.hid g1
  have K1 := Lib.hid ((GK.of_below (gb := x.gb) (base := x.base) hba).trans g2)
  clear hwn hbx hba g1 g2 d1 d2 d3 e0 e1 e2 e3 e4 HDA HFA HFW
  clear hx1 hx2 hx3 hx4 hx5 hgl hcb hsl
  have y0 : wn.cell? ⟨w.heap.size, 0, none⟩ = some (.int .u8 (op : Int)) := by rw [Lib.cell_of_heap HX1.out]; rfl
  have y1 : wn.cell? ⟨w.heap.size, 1, none⟩ = some (.int .i64 a) := by rw [Lib.cell_of_heap HX1.out]; rfl
  have hbd : Below wn.heap.size wn wn.drew := (Below.refl _ wn).drew
  have HD1 := Lib.hid (H1.out.low HD.out hbd)
  have d3 := HD1.out.c3
  have g1 := HD1.out.fz 3
  have y1 := (hbd.cell (p := ⟨w.heap.size, 1, none⟩) (World.block_lt_of_cell? wn _ y1)).trans y1
  have HX2 := Lib.hid ((GK.of_below (gb := x.gb) (base := x.base) hbd).high _ _ _ (by decide) HNG.out HX1.out)
  have HK2 := Lib.hid (K1.out.trans (GK.of_below (gb := x.gb) (base := x.base) hbd))
  have hw1 : IntKind.i64.wrap (a - 1) = a - 1 := by rw [IntKind.wrap_i64]; omega
  have hw2 : IntKind.i64.wrap ((at_ : Int) + 1 + (a - 1)) = (at_ : Int) + 1 + (a - 1) := by rw [IntKind.wrap_i64]; omega
  clear hbd
  go_upto_region 6 with fail
  go_still_tail 10, (by kernel_rfl)
  change wpList _ _ _ _ _ wn.drew
  generalize wn.drew = wd at *
  go_upto_region 7 with fail
  have e1 : (at_ : Int) + 1 + (a - 1) = ((A1 : Nat) : Int) := by have := HA1.out; omega
  obtain ⟨we, hwe⟩ : ∃ we, we = wd.setCell ⟨x.gb, 3, none⟩ (.int .i64 ((at_ : Int) + 1 + (a - 1))) := ⟨_, rfl⟩
  rw [← hwe]
  obtain ⟨g2, g3⟩ := HD1.out.setAt HD.out A1
  rw [← e1, ← hwe] at g2 g3
  have H2 := Lib.hid g2
  have K2 := Lib.hid (HK2.out.trans g3)
  have X2 := Lib.hid (g3.high _ _ _ (by decide) HNG.out HX2.out)
  have HAL := Lib.hid (show at_ ≤ A1 by have := HA1.out; omega)
  clear hwe g2 g3 e1 d3 g1 y0 y1 hw1 hw2 HD1 HK2 HX2
  go_wp2_with fail
  refine (IH.out _ _ _ _ _ H2.out Rb.out Nb.out (by have := HAL.out; obtain ⟨lb0, lb1⟩ := LB.out; omega)).mono ?_
  rintro e w13 ⟨rfl, g1, g2⟩
  rw [← HCb.out] at g1
  have H3 := Lib.hid g1
  have K3 := Lib.hid (K2.out.trans g2)
  have X3 := Lib.hid (g2.high _ _ _ (by decide) HNG.out X2.out)
  clear g1 g2
  go_wp2_with fail
  refine (op_z HD.out H3.out (by have := HAL.out; obtain ⟨lb0, lb1⟩ := LB.out; simp <;> omega) 28 28 rfl).mono ?_
  rintro e w14 ⟨rfl, g1, g2⟩
  have H4 := Lib.hid g1
  have K4 := Lib.hid (K3.out.trans g2)
  have X4 := Lib.hid (g2.high _ _ _ (by decide) HNG.out X3.out)
  clear g1 g2
  go_wp2_with fail
  refine ⟨_, results_none rfl _ _ _, rfl, ?_, K4.out⟩
  rw [E.out]
  have G5 := H4.out
  simpa using G5
/-- The compiler's walk, at every depth. -/
theorem next_any (x : GB) (hd : GD x) : ∀ f, NextH x f
  | 0 => fun _ _ _ _ _ _ hr _ _ => hr.elim
  | f + 1 => fun at_ nx may code w h hr hno hrm => by
    have ih := next_any x hd f
    by_cases h1 : (atV x.cs at_).op = 1
    · exact next_1 x hd f ih at_ nx may code w h hr hno hrm h1
    · by_cases h6 : (atV x.cs at_).op = 6
      · by_cases h3 : (atV x.cs at_).a = 3
        · exact next_63 x hd f ih at_ nx may code w h hr hno hrm ⟨h6, h3⟩
        · exact next_62 x hd f ih at_ nx may code w h hr hno hrm ⟨h6, h3⟩
      · by_cases h7 : (atV x.cs at_).op = 7
        · exact next_7 x hd f ih at_ nx may code w h hr hno hrm h7
        · by_cases h30 : (atV x.cs at_).op = 30
          · exact next_30 x hd f ih at_ nx may code w h hr hno hrm h30
          · by_cases h31 : (atV x.cs at_).op = 31
            · exact next_31 x hd f ih at_ nx may code w h hr hno hrm h31
            · by_cases h53 : (atV x.cs at_).op = 53
              · exact next_53 x hd f ih at_ nx may code w h hr hno hrm h53
              · exact next_rest x hd f ih at_ nx may code w h hr hno hrm ⟨h1, h6, h7, h30, h31, h53⟩
end Go.Proofs.Ytjfdokoigkdciaa

/- Plain: what check.Slots says. The map of the names that are seen is a datum of the kit's (has, atKey, put, del). -/
import Derived.Test.YtjfdokoigkdciaaTreP
import Derived.Maps.OwnSet
import Derived.Maps.Views
import Derived.Maps.Keyed
namespace Go.Proofs.Ytjfdokoigkdciaa
open Go.RowKit

abbrev SeenD := DataW Unit
def litS (s : ByteArray) : Lit := .string s.data.toList
/-- Where the walk stands: the next twig, the names that are seen, how many slots are made, the slots, the fault. -/
structure SSt where
  next : Nat
  seen : SeenD
  made : Int
  out : List Int
  fault : Int
def intD (d : SeenD) : Int := match d with | .lit (.int _ a) => a | _ => 0
def enterS (s : SSt) (t : ByteArray) : SSt :=
  { s with fault := if Maps.has s.seen (litS t) then 111 else if s.made = 100 then 2 else s.fault, out := s.out ++ [s.made], made := s.made + 1 }
def twigS (s : SSt) (x : InsV) : SSt :=
  if x.op = 2 ∨ x.op = 4 then enterS s x.text
  else if x.op = 5 ∨ x.op = 26 then { s with fault := if Maps.has s.seen (litS x.text) then s.fault else 110, out := s.out ++ [intD (s.seen.atKey (litS x.text) (.lit (.int .i64 0)))] }
  else { s with out := s.out ++ [-1] }
def skidsS (wk : SSt → SSt × ByteArray × Int) : Nat → SSt → List ByteArray → SSt × List ByteArray
  | 0, s, mine => (s, mine)
  | r + 1, s, mine =>
    if s.fault = 0 then
      if (wk s).2.1.size ≠ 0 ∧ (wk s).1.fault = 0 then skidsS wk r { (wk s).1 with seen := (wk s).1.seen.put (litS (wk s).2.1) (.lit (.int .i64 (wk s).2.2)) } (mine ++ [(wk s).2.1])
      else skidsS wk r (wk s).1 mine
    else (s, mine)
def dropS (s : SSt) (mine : List ByteArray) : SSt := { s with seen := mine.foldl (fun d n => d.del (litS n)) s.seen }
/-- The next tree gone through: where the walk stands then, and the variable that is seen behind it. -/
def swalkS (cs : List InsV) : Nat → SSt → SSt × ByteArray × Int
  | 0, s => (s, ⟨#[]⟩, -1)
  | f + 1, s =>
    if (twigS s (atV cs s.next)).fault ≠ 0 then (twigS s (atV cs s.next), ⟨#[]⟩, -1)
    else
      let r := skidsS (swalkS cs f) (atV cs s.next).a.toNat { twigS s (atV cs s.next) with next := s.next + 1 } []
      (dropS r.1 r.2, if (atV cs s.next).op = 2 ∨ (atV cs s.next).op = 4 then (atV cs s.next).text else ⟨#[]⟩, if (atV cs s.next).op = 2 ∨ (atV cs s.next).op = 4 then s.made else -1)
/-- What check.Slots answers: the slots, the place, the error. -/
def slotS (cs : List InsV) : List Int × Int × Int :=
  if (treeS cs).2 ≠ 0 then ([], (treeS cs).1, (treeS cs).2)
  else if (atV cs 0).op ≠ 1 then ([], 0, 3)
  else
    let r := (swalkS cs (cs.length + 1) ⟨0, .map [], 0, [], 0⟩).1
    if r.fault ≠ 0 then ([], r.next, r.fault) else (r.out, 0, 0)
/-- Does a twig make a variable? -/
def varT (x : InsV) : Bool := x.op == 2 || x.op == 4
theorem var_snoc (cs : List InsV) (k : Nat) : (cs.take (k + 1)).countP varT = (cs.take k).countP varT + (if varT (atV cs k) then 1 else 0) := by
  by_cases h : k < cs.length
  · rw [List.take_add_one, List.getElem?_eq_getElem h, Option.toList_some, List.countP_append, List.countP_cons, List.countP_nil]
    unfold atV
    rw [List.getD_eq_getElem?_getD, List.getElem?_eq_getElem h]
    simp
  · rw [List.take_of_length_le (by omega), List.take_of_length_le (by omega)]
    have : varT (atV cs k) = false := by unfold atV; rw [List.getD_eq_getElem?_getD, List.getElem?_eq_none (by omega)]; rfl
    rw [this]; simp
/-- What holds where the walk stands, as long as nothing is wrong. -/
structure SOk (cs : List InsV) (s : SSt) : Prop where
  mk0 : 0 ≤ s.made
  mk1 : s.made ≤ 100
  ln : s.out.length = s.next
  im : Maps.IsMap s.seen
  sn : ∀ k : Lit, Maps.has s.seen k = true → 0 ≤ intD (s.seen.atKey k (.lit (.int .i64 0))) ∧ intD (s.seen.atKey k (.lit (.int .i64 0))) < 100
  vl : ∀ k, k < s.out.length → ((atV cs k).op = 4 ∨ (atV cs k).op = 5 ∨ (atV cs k).op = 26) → 0 ≤ s.out.getD k 0 ∧ s.out.getD k 0 < 100
  ct : s.made = (((cs.take s.out.length).countP varT : Nat) : Int)
theorem getD_snoc (l : List Int) (x : Int) (k : Nat) (hk : k < l.length + 1) : (l ++ [x]).getD k 0 = if k = l.length then x else l.getD k 0 := by
  by_cases h : k = l.length
  · subst h; rw [if_pos rfl]; simp [List.getD]
  · rw [if_neg h]; simp only [List.getD, List.getElem?_append_left (show k < l.length by omega)]
theorem twig_ok {cs : List InsV} {s : SSt} (h : SOk cs s) (hf : (twigS s (atV cs s.next)).fault = 0) :
    SOk cs { twigS s (atV cs s.next) with next := s.next + 1 } ∧ (((atV cs s.next).op = 2 ∨ (atV cs s.next).op = 4) → s.made < 100) := by
  obtain ⟨a1, a2, a3, a4, a5, a6, a7⟩ := h
  have hct := var_snoc cs s.out.length
  generalize hx : atV cs s.next = x at *
  rw [a3, hx] at hct
  have ln : ∀ v : Int, (s.out ++ [v]).length = s.next + 1 := fun v => by rw [List.length_append, a3]; rfl
  rw [a3] at a7
  unfold twigS at hf ⊢
  by_cases h1 : x.op = 2 ∨ x.op = 4
  · rw [if_pos h1] at hf ⊢
    unfold enterS at hf ⊢
    by_cases h2 : Maps.has s.seen (litS x.text) = true
    · simp only [h2, if_true] at hf; exact absurd hf (by decide)
    · by_cases h3 : s.made = 100
      · simp only [h2, h3, if_true] at hf; exact absurd hf (by decide)
      · refine ⟨⟨by simp only; omega, by simp only; omega, ln _, a4, a5, fun k hk ho => ?_, ?_⟩, fun _ => by omega⟩
        · simp only [List.length_append, List.length_cons, List.length_nil] at hk ⊢
          rw [getD_snoc _ _ _ hk]
          by_cases e : k = s.out.length
          · rw [if_pos e]; omega
          · rw [if_neg e]; exact a6 k (by omega) ho
        · rw [show varT x = true by unfold varT; simp; exact h1] at hct
          simp only [if_true] at hct
          simp only [ln]
          omega
  · rw [if_neg h1] at hf ⊢
    rw [show varT x = false by unfold varT; simp; omega] at hct
    simp only [Bool.false_eq_true, if_false] at hct
    by_cases h2 : x.op = 5 ∨ x.op = 26
    · rw [if_pos h2] at hf ⊢
      by_cases h3 : Maps.has s.seen (litS x.text) = true
      · refine ⟨⟨a1, a2, ln _, a4, a5, fun k hk ho => ?_, by simp only [ln]; omega⟩, fun h => absurd h h1⟩
        simp only [List.length_append, List.length_cons, List.length_nil] at hk ⊢
        rw [getD_snoc _ _ _ hk]
        by_cases e : k = s.out.length
        · rw [if_pos e]; exact a5 _ h3
        · rw [if_neg e]; exact a6 k (by omega) ho
      · simp only [h3, Bool.false_eq_true, if_false] at hf; exact absurd hf (by decide)
    · rw [if_neg h2] at hf ⊢
      refine ⟨⟨a1, a2, ln _, a4, a5, fun k hk ho => ?_, by simp only [ln]; omega⟩, fun h => absurd h h1⟩
      simp only [List.length_append, List.length_cons, List.length_nil] at hk ⊢
      rw [getD_snoc _ _ _ hk]
      by_cases e : k = s.out.length
      · exfalso
        subst e
        rw [a3, hx] at ho
        omega
      · rw [if_neg e]; exact a6 k (by omega) ho
theorem SOk.put {cs : List InsV} {s : SSt} (h : SOk cs s) (n : ByteArray) {v : Int} (hv : 0 ≤ v ∧ v < 100) : SOk cs { s with seen := s.seen.put (litS n) (.lit (.int .i64 v)) } := by
  obtain ⟨a1, a2, a3, a4, a5, a6, a7⟩ := h
  refine ⟨a1, a2, a3, a4.put _ _, fun k hk => ?_, a6, a7⟩
  by_cases e : k = litS n
  · subst e
    simp only
    rw [Maps.atKey_put_same a4 (by simp [litS, WideAt.IsKeyLit])]
    exact hv
  · simp only at hk ⊢
    rw [Maps.has_put_other e] at hk
    rw [Maps.atKey_put_other e]
    exact a5 k hk
theorem SOk.drop {cs : List InsV} {s : SSt} (h : SOk cs s) (mine : List ByteArray) : SOk cs (dropS s mine) := by
  obtain ⟨a1, a2, a3, a4, a5, a6, a7⟩ := h
  have key : ∀ (mine : List ByteArray) (d : SeenD), Maps.IsMap d → (∀ k : Lit, Maps.has d k = true → 0 ≤ intD (d.atKey k (.lit (.int .i64 0))) ∧ intD (d.atKey k (.lit (.int .i64 0))) < 100) →
      Maps.IsMap (mine.foldl (fun d n => d.del (litS n)) d) ∧ ∀ k : Lit, Maps.has (mine.foldl (fun d n => d.del (litS n)) d) k = true → 0 ≤ intD ((mine.foldl (fun d n => d.del (litS n)) d).atKey k (.lit (.int .i64 0))) ∧ intD ((mine.foldl (fun d n => d.del (litS n)) d).atKey k (.lit (.int .i64 0))) < 100 := fun mine => by
    induction mine with
    | nil => exact fun d h1 h2 => ⟨h1, h2⟩
    | cons n mine ih =>
      intro d h1 h2
      refine ih (d.del (litS n)) (h1.del _) fun k hk => ?_
      by_cases e : k = litS n
      · subst e
        rw [Maps.has_del_same] at hk
        cases hk
      · rw [Maps.has_del_other e] at hk
        rw [Maps.atKey_del_other e]
        exact h2 k hk
  have := key mine s.seen a4 a5
  exact ⟨a1, a2, a3, this.1, this.2, a6, a7⟩
/-- The parts, gone through without a fault. -/
theorem skids_ok {cs : List InsV} {wk : SSt → SSt × ByteArray × Int} {ks : Nat → Nat} {n : Nat}
    (hw : ∀ i s, i < n → SOk cs s → s.fault = 0 → s.next = ks i → (wk s).1.fault = 0 → SOk cs (wk s).1 ∧ (wk s).1.next = ks (i + 1) ∧ ((wk s).2.1.size ≠ 0 → 0 ≤ (wk s).2.2 ∧ (wk s).2.2 < 100)) :
    ∀ (r i : Nat) (s : SSt) (mine : List ByteArray), i + r = n → (s.fault = 0 → SOk cs s ∧ s.next = ks i) → (skidsS wk r s mine).1.fault = 0 → SOk cs (skidsS wk r s mine).1 ∧ (skidsS wk r s mine).1.next = ks n
  | 0, i, s, mine, hn, h, hf => by
    obtain rfl : i = n := by omega
    exact h hf
  | r + 1, i, s, mine, hn, h, hf => by
    rw [skidsS] at hf ⊢
    by_cases h0 : s.fault = 0
    · rw [if_pos h0] at hf ⊢
      by_cases h1 : (wk s).2.1.size ≠ 0 ∧ (wk s).1.fault = 0
      · rw [if_pos h1] at hf ⊢
        obtain ⟨b1, b2, b3⟩ := hw i s (by omega) (h h0).1 h0 (h h0).2 h1.2
        exact skids_ok hw r (i + 1) _ _ (by omega) (fun _ => ⟨b1.put _ (b3 h1.1), b2⟩) hf
      · rw [if_neg h1] at hf ⊢
        exact skids_ok hw r (i + 1) _ _ (by omega) (fun hh => by
          obtain ⟨b1, b2, _⟩ := hw i s (by omega) (h h0).1 h0 (h h0).2 hh
          exact ⟨b1, b2⟩) hf
    · rw [if_neg h0] at hf
      exact absurd hf h0
/-- A right tree, gone through without a fault: where the walk stands behind it. -/
theorem swalk_ok (cs : List InsV) : ∀ (f at_ nx : Nat) (may : Nat → Bool) (s : SSt), Rt cs f at_ nx may → SOk cs s → s.fault = 0 → s.next = at_ → (swalkS cs f s).1.fault = 0 →
    SOk cs (swalkS cs f s).1 ∧ (swalkS cs f s).1.next = nx ∧ ((swalkS cs f s).2.1.size ≠ 0 → 0 ≤ (swalkS cs f s).2.2 ∧ (swalkS cs f s).2.2 < 100)
  | 0, _, _, _, _, h, _, _, _, _ => h.elim
  | f + 1, at_, nx, may, s, ⟨h1, _, ks, k0, k1, k2⟩, hs, h0, hn, hf => by
    subst hn
    rw [swalkS] at hf ⊢
    by_cases hff : (twigS s (atV cs s.next)).fault = 0
    · rw [if_neg (by omega)] at hf ⊢
      simp only at hf ⊢
      obtain ⟨t1, t2⟩ := twig_ok hs hff
      have h1 := skids_ok (cs := cs) (wk := swalkS cs f) (ks := ks) (n := (atV cs s.next).a.toNat) (fun i s' hi a b c d => swalk_ok cs f (ks i) (ks (i + 1)) _ s' (k2 i hi) a b c d) (atV cs s.next).a.toNat 0 { twigS s (atV cs s.next) with next := s.next + 1 } [] (by omega) (fun _ => ⟨t1, k0.symm⟩) hf
      refine ⟨h1.1.drop _, h1.2.trans k1, fun hsz => ?_⟩
      by_cases hop : (atV cs s.next).op = 2 ∨ (atV cs s.next).op = 4
      · rw [if_pos hop]
        have := hs.mk0
        have := t2 hop
        omega
      · rw [if_neg hop] at hsz
        exact absurd rfl hsz
    · rw [if_pos hff] at hf
      exact absurd hf hff
theorem slots_start (cs : List InsV) : SOk cs ⟨0, .map [], 0, [], 0⟩ :=
  ⟨by decide, by decide, rfl, Maps.isMap_empty, fun k hk => by simp [Maps.has_eq] at hk, fun k hk => absurd hk (by simp), rfl⟩
/-- The slots of a flow: one a twig, those of variables small. -/
theorem slotS_ok {cs : List InsV} (h : (slotS cs).2.2 = 0) : (treeS cs).2 = 0 ∧ (atV cs 0).op = 1 ∧ (slotS cs).1.length = cs.length ∧
    (∀ k, k < cs.length → ((atV cs k).op = 4 ∨ (atV cs k).op = 5 ∨ (atV cs k).op = 26) → 0 ≤ (slotS cs).1.getD k 0 ∧ (slotS cs).1.getD k 0 < 100) ∧ cs.countP varT ≤ 100 := by
  unfold slotS at h ⊢
  by_cases h1 : (treeS cs).2 = 0
  · rw [if_neg (by omega)] at h ⊢
    by_cases h2 : (atV cs 0).op = 1
    · rw [if_neg (by omega)] at h ⊢
      simp only at h ⊢
      by_cases h3 : (swalkS cs (cs.length + 1) ⟨0, .map [], 0, [], 0⟩).1.fault = 0
      · rw [if_neg (by omega)] at h ⊢
        obtain ⟨r1, r2⟩ := treeS_right h1
        obtain ⟨a, b, _⟩ := swalk_ok cs _ 0 _ _ _ r2 (slots_start cs) rfl rfl h3
        have hl := a.ln
        rw [b] at hl
        have hct := a.ct
        rw [hl, List.take_length] at hct
        have := a.mk1
        exact ⟨h1, h2, hl, fun k hk ho => a.vl k (by omega) ho, by omega⟩
      · rw [if_pos h3] at h
        exact absurd h h3
    · rw [if_pos h2] at h
      exact absurd h (by decide)
  · rw [if_pos h1] at h
    exact absurd h h1
end Go.Proofs.Ytjfdokoigkdciaa

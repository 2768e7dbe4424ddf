/- Plain: what tree.Check says; right trees. -/
import Derived.Test.YtjfdokoigkdciaaInsV
namespace Go.Proofs.Ytjfdokoigkdciaa
open Go.RowKit

/-- A twig has an instruction's fields: op, a (its parts), int, text. -/
def exprO (op : Nat) : Bool := decide (20 ≤ op) && decide (op ≤ 26) || decide (30 ≤ op) && decide (op ≤ 48) || decide (50 ≤ op) && decide (op ≤ 57)
def stmtO (op : Nat) : Bool := decide (4 ≤ op) && decide (op ≤ 11)
/-- What a twig may be: which text (0 a word of one's own, 1 none, 2 a short one), how many parts, which parts (0 params, 1 none, 2 statements, 3 headed, 4 expressions, 5 a block). -/
structure FormV where
  tk : Nat
  lo : Int
  hi : Int
  pk : Nat
def formN (op : Nat) : Nat :=
  if op = 1 then 1 else if op = 2 then 2 else if op = 3 then 3 else if op = 4 ∨ op = 5 then 4 else if op = 6 then 5 else if op = 7 then 6
  else if op = 8 ∨ op = 9 ∨ op = 10 ∨ op = 11 then 7 else if op = 20 ∨ op = 21 ∨ op = 22 ∨ op = 57 ∨ op = 23 then 8 else if op = 24 then 9 else if op = 25 then 10
  else if op = 26 ∨ op = 56 then 2 else if 30 ≤ op ∧ op ≤ 42 then 11 else if 43 ≤ op ∧ op ≤ 48 then 7 else if op = 50 ∨ op = 51 then 12
  else if op = 52 ∨ op = 54 ∨ op = 55 then 7 else if op = 53 then 13 else 0
def formR : Nat → FormV
  | 1 => ⟨0, 1, 2048, 0⟩ | 2 => ⟨0, 0, 0, 1⟩ | 3 => ⟨1, 0, 2048, 2⟩ | 4 => ⟨0, 1, 1, 4⟩ | 5 => ⟨1, 2, 3, 3⟩ | 6 => ⟨1, 2, 2, 3⟩ | 7 => ⟨1, 1, 1, 4⟩ | 8 => ⟨1, 0, 0, 1⟩
  | 9 => ⟨2, 0, 0, 1⟩ | 10 => ⟨1, 0, 2048, 4⟩ | 11 => ⟨1, 2, 2, 4⟩ | 12 => ⟨0, 0, 2048, 4⟩ | 13 => ⟨1, 1, 1, 5⟩ | _ => ⟨1, 1, 0, 1⟩
def formS (op : Nat) : FormV := formR (formN op)
/-- Is there such a twig? -/
def isO (op : Nat) : Bool := formN op != 0
/-- The language's words. -/
def kwL : List (List UInt8) := [[102, 108, 111, 119], [108, 101, 116], [105, 102], [101, 108, 115, 101], [119, 104, 105, 108, 101], [114, 101, 116, 117, 114, 110], [102, 97, 105, 108], [115, 108, 101, 101, 112], [100, 111], [110, 111, 110, 101], [116, 114, 117, 101], [102, 97, 108, 115, 101], [111, 114], [97, 110, 100], [110, 111, 116], [108, 101, 110], [110, 117, 109], [114, 101], [105, 109], [99, 111, 110, 106], [99, 97, 108, 108], [99, 104, 105, 108, 100], [116, 105, 109, 101, 114], [102, 111, 114, 107], [97, 119, 97, 105, 116], [115, 101, 116, 116, 108, 101], [116, 97, 107, 101], [118, 101, 114, 115, 105, 111, 110]]
def kwS (s : ByteArray) : Bool := kwL.any fun k => s.toList == k
def ownS (s : ByteArray) : Bool := nameS s && !kwS s
def twText (tk : Nat) (s : ByteArray) : Bool := if tk = 0 then ownS s else if tk = 1 then decide (s.size = 0) else decide (s.size ≤ 4095)
def partOk (pk : Nat) (i n : Int) (op : Nat) : Bool :=
  if pk = 0 then decide (i < n - 1) && decide (op = 2) || decide (i = n - 1) && decide (op = 3)
  else if pk = 1 then false else if pk = 2 then stmtO op
  else if pk = 3 then decide (i = 0) && exprO op || decide (0 < i) && decide (op = 3)
  else if pk = 4 then exprO op else decide (op = 3)
def okTw (x : InsV) (may : Nat → Bool) : Bool :=
  isO x.op && may x.op && twText (formS x.op).tk x.text && decide ((formS x.op).lo ≤ x.a) && decide (x.a ≤ (formS x.op).hi) && (decide (x.op = 23) || decide (x.int = 0)) && decide (0 ≤ x.int)
/-- What the parts of a twig come to, one behind the other. -/
def kidsS (wk : Nat → (Nat → Bool) → Int → Int → Nat × Int × Int) (pk : Nat) (n : Int) : Nat → Nat → Nat → Int → Int → Nat × Int × Int
  | 0, _, nx, wr, dp => (nx, wr, dp)
  | r + 1, i, nx, wr, dp => if wr < 0 then kidsS wk pk n r (i + 1) (wk nx (partOk pk i n) wr dp).1 (wk nx (partOk pk i n) wr dp).2.1 (wk nx (partOk pk i n) wr dp).2.2 else (nx, wr, dp)
/-- A tree gone through from a place on: where it ends, what is wrong, what is too deep. -/
def walkS (cs : List InsV) : Nat → Nat → Nat → (Nat → Bool) → Int → Int → Nat × Int × Int
  | 0, at_, _, _, wr, dp => (at_, wr, dp)
  | f + 1, at_, lv, may, wr, dp =>
    if cs.length ≤ at_ then (at_, cs.length, dp)
    else if okTw (atV cs at_) may then
      kidsS (fun nx m wr dp => walkS cs f nx (lv + 1) m wr dp) (formS (atV cs at_).op).pk (atV cs at_).a (atV cs at_).a.toNat 0 (at_ + 1) wr (if 40 < lv ∧ dp < 0 then at_ else dp)
    else (at_, at_, dp)
/-- What tree.Check answers: the place, the error. -/
def treeS (cs : List InsV) : Int × Int :=
  if 2048 < cs.length then (0, 2) else
    let r := walkS cs (cs.length + 1) 0 1 (fun _ => true) (-1) (-1)
    if 0 ≤ r.2.1 then (r.2.1, 3) else if r.1 < cs.length then (r.1, 3) else if 0 ≤ r.2.2 then (r.2.2, 2) else (0, 0)
/-- A right tree from a place up to another one. -/
def Rt (cs : List InsV) : Nat → Nat → Nat → (Nat → Bool) → Prop
  | 0, _, _, _ => False
  | f + 1, at_, nx, may => at_ < cs.length ∧ okTw (atV cs at_) may = true ∧ ∃ ks : Nat → Nat, ks 0 = at_ + 1 ∧ ks (atV cs at_).a.toNat = nx ∧
      ∀ i, i < (atV cs at_).a.toNat → Rt cs f (ks i) (ks (i + 1)) (partOk (formS (atV cs at_).op).pk i (atV cs at_).a)
theorem Rt.lt {cs : List InsV} : ∀ {f at_ nx : Nat} {may : Nat → Bool}, Rt cs f at_ nx may → at_ < nx ∧ nx ≤ cs.length
  | 0, _, _, _, h => h.elim
  | f + 1, at_, nx, may, ⟨h1, _, ks, h0, hn, hk⟩ => by
    have key : ∀ i, i ≤ (atV cs at_).a.toNat → at_ + 1 ≤ ks i ∧ ks i ≤ cs.length := fun i => by
      induction i with
      | zero => intro _; rw [h0]; omega
      | succ i ih =>
        intro hi
        have h2 := ih (by omega)
        have h3 := (hk i (by omega)).lt
        omega
    have := key _ (Nat.le_refl _)
    rw [hn] at this
    omega
/-- A walk that finds nothing wrong went through a right tree. -/
theorem kids_wr {wk : Nat → (Nat → Bool) → Int → Int → Nat × Int × Int} {pk : Nat} {n : Int} {R : Nat → Nat → (Nat → Bool) → Prop}
    {G : Nat → Prop} (hw : ∀ nx m wr dp, G nx → wr < 0 → (wk nx m wr dp).2.1 < 0 → R nx (wk nx m wr dp).1 m ∧ G (wk nx m wr dp).1) :
    ∀ (r i nx : Nat) (wr dp : Int), G nx → wr < 0 → (kidsS wk pk n r i nx wr dp).2.1 < 0 → ∃ ks : Nat → Nat, ks 0 = nx ∧ ks r = (kidsS wk pk n r i nx wr dp).1 ∧ ∀ j, j < r → R (ks j) (ks (j + 1)) (partOk pk ((i + j : Nat) : Int) n)
  | 0, i, nx, wr, dp, _, _, _ => ⟨fun _ => nx, rfl, rfl, fun j hj => absurd hj (by omega)⟩
  | r + 1, i, nx, wr, dp, hlo, h, hr => by
    rw [kidsS, if_pos h] at hr ⊢
    have hr1 : (wk nx (partOk pk i n) wr dp).2.1 < 0 := by
      rcases Int.lt_or_le (wk nx (partOk pk i n) wr dp).2.1 0 with hh | hh
      · exact hh
      · exfalso
        have stuck : ∀ (r i nx : Nat) (wr dp : Int), 0 ≤ wr → (kidsS wk pk n r i nx wr dp).2.1 = wr := fun r i nx wr dp h => by
          cases r with
          | zero => rfl
          | succ r => rw [kidsS, if_neg (by omega)]
        rw [stuck _ _ _ _ _ hh] at hr
        omega
    obtain ⟨ks, k0, k1, k2⟩ := kids_wr hw r (i + 1) _ _ (wk nx (partOk pk i n) wr dp).2.2 (hw _ _ _ _ hlo h hr1).2 hr1 hr
    refine ⟨fun j => if j = 0 then nx else ks (j - 1), rfl, by simpa using k1, fun j hj => ?_⟩
    by_cases j0 : j = 0
    · subst j0
      have := (hw nx (partOk pk i n) wr dp hlo h hr1).1
      simpa [k0] using this
    · have := k2 (j - 1) (by omega)
      rw [show i + 1 + (j - 1) = i + j by omega, show j - 1 + 1 = j by omega] at this
      simpa [j0] using this
theorem walk_right (cs : List InsV) : ∀ (f at_ lv : Nat) (may : Nat → Bool) (wr dp : Int), wr < 0 → (walkS cs f at_ lv may wr dp).2.1 < 0 → cs.length < f + at_ → at_ ≤ cs.length → Rt cs f at_ (walkS cs f at_ lv may wr dp).1 may
  | 0, at_, lv, may, wr, dp, h, hr, hf, hl => by omega
  | f + 1, at_, lv, may, wr, dp, h, hr, hf, hl => by
    rw [walkS] at hr ⊢
    by_cases h1 : cs.length ≤ at_
    · rw [if_pos h1] at hr; simp only at hr; omega
    · rw [if_neg h1] at hr ⊢
      by_cases h2 : okTw (atV cs at_) may = true
      · rw [if_pos h2] at hr ⊢
        obtain ⟨ks, k0, k1, k2⟩ := kids_wr (R := Rt cs f) (G := fun nx => at_ + 1 ≤ nx ∧ nx ≤ cs.length) (fun nx m wr dp hlo h hr => by
          have := walk_right cs f nx (lv + 1) m wr dp h hr (by omega) hlo.2
          exact ⟨this, by have := this.lt; omega⟩) _ 0 (at_ + 1) wr _ ⟨Nat.le_refl _, by omega⟩ h hr
        exact ⟨by omega, h2, ks, k0, k1, fun i hi => by have := k2 i hi; rwa [Nat.zero_add] at this⟩
      · rw [if_neg h2] at hr; simp only at hr; omega
theorem kids_bounds {wk : Nat → (Nat → Bool) → Int → Int → Nat × Int × Int} {pk : Nat} {n : Int} {G : Nat → Prop} (hw : ∀ nx m wr dp, G nx → G (wk nx m wr dp).1) :
    ∀ (r i nx : Nat) (wr dp : Int), G nx → G (kidsS wk pk n r i nx wr dp).1
  | 0, _, _, _, _, h => h
  | r + 1, i, nx, wr, dp, h => by
    rw [kidsS]
    by_cases hr : wr < 0
    · rw [if_pos hr]; exact kids_bounds hw r _ _ _ _ (hw _ _ _ _ h)
    · rw [if_neg hr]; exact h
theorem walk_bounds (cs : List InsV) : ∀ (f at_ lv : Nat) (may : Nat → Bool) (wr dp : Int), at_ ≤ cs.length → at_ ≤ (walkS cs f at_ lv may wr dp).1 ∧ (walkS cs f at_ lv may wr dp).1 ≤ cs.length
  | 0, at_, lv, may, wr, dp, h => ⟨Nat.le_refl _, h⟩
  | f + 1, at_, lv, may, wr, dp, h => by
    rw [walkS]
    by_cases h1 : cs.length ≤ at_
    · rw [if_pos h1]; exact ⟨Nat.le_refl _, h⟩
    · rw [if_neg h1]
      by_cases h2 : okTw (atV cs at_) may = true
      · rw [if_pos h2]
        exact kids_bounds (G := fun nx => at_ ≤ nx ∧ nx ≤ cs.length) (fun nx m wr dp hg => by
          have := walk_bounds cs f nx (lv + 1) m wr dp hg.2
          exact ⟨by omega, this.2⟩) _ _ _ _ _ ⟨by omega, by omega⟩
      · rw [if_neg h2]; exact ⟨Nat.le_refl _, h⟩
theorem treeS_right {cs : List InsV} (h : (treeS cs).2 = 0) : cs.length ≤ 2048 ∧ Rt cs (cs.length + 1) 0 cs.length (fun _ => true) := by
  unfold treeS at h
  by_cases h1 : 2048 < cs.length
  · rw [if_pos h1] at h; exact absurd h (by decide)
  · rw [if_neg h1] at h
    simp only at h
    by_cases h2 : 0 ≤ (walkS cs (cs.length + 1) 0 1 (fun _ => true) (-1) (-1)).2.1
    · rw [if_pos h2] at h; exact absurd h (by simp)
    · rw [if_neg h2] at h
      have hr := walk_right cs (cs.length + 1) 0 1 (fun _ => true) (-1) (-1) (by decide) (by omega) (by omega) (by omega)
      by_cases h3 : (walkS cs (cs.length + 1) 0 1 (fun _ => true) (-1) (-1)).1 < cs.length
      · rw [if_pos h3] at h; exact absurd h (by simp)
      · have := hr.lt
        rw [show (walkS cs (cs.length + 1) 0 1 (fun _ => true) (-1) (-1)).1 = cs.length by omega] at hr
        exact ⟨by omega, hr⟩
end Go.Proofs.Ytjfdokoigkdciaa

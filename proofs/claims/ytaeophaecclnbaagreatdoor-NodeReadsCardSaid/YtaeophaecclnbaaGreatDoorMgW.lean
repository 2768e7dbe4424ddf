/- What the document's read of an event answers; its check. The document's read of an event, walked. -/
import Derived.Test.YtaeophaecclnbaaGreatDoorMgS
import Derived.Test.YtaeophaecclnbaaGreatDoorMgU
import Derived.Test.YtaeophaecclnbaaGreatDoorMgV
import Derived.Test.YtaeophaecclnbaaGreatDoorNxCQ
import Derived.Deep.DeepCutAuto
namespace Go.Proofs.YtaeophaecclnbaaGreatDoor
open Go.RowKit

theorem rright_any {x : Ev} {A : Option Addr} {c : Nat} {w : World} (h : EvC x) (hn : NodesIn w A x.value) : Calls Tryz.prog 78 #[evV x A c] w (RetB (.bool (rightE x)) w) := by
  have h1 := h.k1
  have h2 := h.k2
  have hc : x.kind = 1 ∨ x.kind = 2 ∨ x.kind = 3 ∨ x.kind = 4 ∨ x.kind = 5 ∨ x.kind = 6 ∨ x.kind = 7 ∨ x.kind = 8 ∨ x.kind = 9 ∨ x.kind = 10 ∨ x.kind = 11 ∨ x.kind = 12 := by omega
  rcases hc with e | e | e | e | e | e | e | e | e | e | e | e
  · exact rright_1 e h hn
  · exact rright_2 e h hn
  · exact rright_3 e h hn
  · exact rright_4 e h hn
  · exact rright_5 e h hn
  · exact rright_6 e h hn
  · exact rright_7 e h hn
  · exact rright_8 e h hn
  · exact rright_9 e h hn
  · exact rright_10 e h hn
  · exact rright_11 e h hn
  · exact rright_12 e h hn
theorem rright_at {x : Ev} {kd : Nat} {id it : Int} {nm : List UInt8} {v : List Node} {A : Option Addr} {c : Nat} {w : World} (e : x = ⟨kd, id, nm, v, it⟩) (h : EvC x) (hn : NodesIn w A v) :
    Calls Tryz.prog 78 #[.agg #[.int .u8 (kd : Int), .int .i64 id, .string (strB nm), .slice A v.length c, .int .i64 it]] w (RetB (.bool (rightE x)) w) := by
  subst e
  exact rright_any h hn
def EvRet (l : List UInt8) (p : Nat) (w : World) (e : Ending) (w' : World) : Prop :=
  ∃ A' c', e = .returned (.tuple #[evV (evtS l p).1 A' c', .int .i64 ((evtS l p).2.1 : Nat), .int .i64 (evtS l p).2.2]) ∧ NodesIn w' A' (evtS l p).1.value ∧ Far w.heap.size A' (evtS l p).1.value.length ∧ Below w.heap.size w w'
theorem EvRet.bad {l : List UInt8} {p q : Nat} {er z : Int} {w w' : World} (hv : evtS l p = (zE, q, er)) (hb : Below w.heap.size w w') (hz : z = (q : Int) := by rfl) :
    EvRet l p w (.returned (.tuple #[.agg #[.int .u8 0, .int .i64 0, .string ⟨#[]⟩, .slice none 0 0, .int .i64 0], .int .i64 z, .int .i64 er])) w' := by
  subst hz
  exact ⟨none, 0, by rw [hv]; rfl, by rw [hv]; exact NodesIn.nil, by rw [hv]; exact Far.nil, hb⟩
theorem EvRet.good {l : List UInt8} {p q : Nat} {x : Ev} {kd : Nat} {id it : Int} {nm : List UInt8} {v : List Node} {A : Option Addr} {c : Nat} {w w' : World} (hv : evtS l p = (x, q, 0)) (e : x = ⟨kd, id, nm, v, it⟩) (hn : NodesIn w' A v ∧ Far w.heap.size A v.length) (hb : Below w.heap.size w w') :
    EvRet l p w (.returned (.tuple #[.agg #[.int .u8 (kd : Int), .int .i64 id, .string (strB nm), .slice A v.length c, .int .i64 it], .int .i64 (q : Int), .int .i64 0])) w' := by
  subst e
  exact ⟨A, c, by rw [hv]; rfl, by rw [hv]; exact hn.1, by rw [hv]; exact hn.2, hb⟩
theorem nodesin_below {w w' : World} {A : Option Addr} {v : List Node} {B : Nat} (h : NodesIn w A v ∧ Far B A v.length) (hb : Below w.heap.size w w') : NodesIn w' A v ∧ Far B A v.length := ⟨h.1.keep hb, h.2⟩
theorem far_below {w w' : World} {A : Option Addr} {n : Nat} (h : Far w'.heap.size A n) (hb : Below w.heap.size w w') : Far w.heap.size A n := h.mono hb.size
end Go.Proofs.YtaeophaecclnbaaGreatDoor
namespace Go.Proofs.YtaeophaecclnbaaGreatDoor
open Go.RowKit

/-- While an event is read: the answer and a nought lie in blocks w.heap.size and the next one, the event in the one behind. -/
structure RvS (w W : World) (k : Nat) (b c : Value) (A : Option Addr) (cc : Nat) (v : List Node) (x : Value) : Prop where
  bel : Below w.heap.size w W
  r : EvB W w.heap.size (.int .u8 0) (.int .i64 0) (.string ⟨#[]⟩) (.slice none 0 0) (.int .i64 0)
  z : EvB W (w.heap.size + 1) (.int .u8 0) (.int .i64 0) (.string ⟨#[]⟩) (.slice none 0 0) (.int .i64 0)
  e : EvB W (w.heap.size + 1 + 1) (.int .u8 (k : Int)) b c (.slice A v.length cc) x
  nd : NodesIn W A v
  fr : Far (w.heap.size + 1 + 1 + 1) A v.length
section
variable {w W W' : World} {k : Nat} {b c u : Value} {A : Option Addr} {cc : Nat} {v : List Node} {x : Value}
theorem RvS.keep (h : RvS w W k b c A cc v x) (g : Below W.heap.size W W') : RvS w W' k b c A cc v x := ⟨bthen h.bel g, h.r.keep g, h.z.keep g, h.e.keep g, h.nd.keep g, h.fr⟩
theorem RvS.other (h : RvS w W k b c A cc v x) (o : Nat) : Below w.heap.size w (W.setCell ⟨w.heap.size + 1 + 1, o, none⟩ u) ∧ EvB (W.setCell ⟨w.heap.size + 1 + 1, o, none⟩ u) w.heap.size (.int .u8 0) (.int .i64 0) (.string ⟨#[]⟩) (.slice none 0 0) (.int .i64 0) ∧
    EvB (W.setCell ⟨w.heap.size + 1 + 1, o, none⟩ u) (w.heap.size + 1) (.int .u8 0) (.int .i64 0) (.string ⟨#[]⟩) (.slice none 0 0) (.int .i64 0) ∧ NodesIn (W.setCell ⟨w.heap.size + 1 + 1, o, none⟩ u) A v :=
  ⟨h.bel.setCell (p := ⟨w.heap.size + 1 + 1, o, none⟩) (by show w.heap.size ≤ w.heap.size + 1 + 1; omega) _, h.r.other (by omega), h.z.other (by omega), h.nd.set h.fr (by omega)⟩
theorem RvS.set1 (h : RvS w W k b c A cc v x) : RvS w (W.setCell ⟨w.heap.size + 1 + 1, 1, none⟩ u) k u c A cc v x := by
  obtain ⟨h1, h2, h3, h4⟩ := h.other (u := u) 1
  exact ⟨h1, h2, h3, h.e.set1, h4, h.fr⟩
theorem RvS.set2 (h : RvS w W k b c A cc v x) : RvS w (W.setCell ⟨w.heap.size + 1 + 1, 2, none⟩ u) k b u A cc v x := by
  obtain ⟨h1, h2, h3, h4⟩ := h.other (u := u) 2
  exact ⟨h1, h2, h3, h.e.set2, h4, h.fr⟩
theorem RvS.set4 (h : RvS w W k b c A cc v x) : RvS w (W.setCell ⟨w.heap.size + 1 + 1, 4, none⟩ u) k b c A cc v u := by
  obtain ⟨h1, h2, h3, h4⟩ := h.other (u := u) 4
  exact ⟨h1, h2, h3, h.e.set4, h4, h.fr⟩
theorem RvS.set3 {A' : Option Addr} {cc' : Nat} {v' : List Node} (h : RvS w W k b c A cc v x) (hn : NodesIn W A' v') (hf : Far (w.heap.size + 1 + 1 + 1) A' v'.length) : RvS w (W.setCell ⟨w.heap.size + 1 + 1, 3, none⟩ (.slice A' v'.length cc')) k b c A' cc' v' x := by
  obtain ⟨h1, h2, h3, _⟩ := h.other (u := .slice A' v'.length cc') 3
  exact ⟨h1, h2, h3, h.e.set3, hn.set hf (by omega), hf⟩
end
theorem rread_short {w : World} {A : Option Addr} {n cc : Nat} {l : List UInt8} {p : Nat} (h : BS w A n cc l) (hp : p = n) : Calls Tryz.prog 47 #[.slice A n cc, .int .i64 p] w (EvRet l p w) := by
  have EV := Lib.hid (ev_short (l := l) (p := p) (by rw [h.len, hp]; exact Nat.le_refl _))
  rw [h.len] at EV
  have hd : decide ((n : Int) ≤ (p : Int)) = true := decide_eq_true (by omega)
  clear h
  go_enter Tryz.func47, Tryz.ntmps47
  go_wp2_with fail
  refine bodyPost_ret (v := .tuple #[.agg #[.int .u8 0, .int .i64 0, .string ⟨#[]⟩, .slice none 0 0, .int .i64 0], .int .i64 (n : Int), .int .i64 4]) (by first | (simp [results, Tryz.results47, go_sem]; done) | (simp [results, Tryz.results47, go_sem, *]; done)) rfl (EvRet.bad EV.out (by go_grown))
theorem rread_kind {w : World} {A : Option Addr} {n cc : Nat} {l : List UInt8} {p : Nat} (h : BS w A n cc l) (hp : p < n) (hk : byt l p < 1 ∨ 12 < byt l p) : Calls Tryz.prog 47 #[.slice A n cc, .int .i64 p] w (EvRet l p w) := by
  have EV := Lib.hid (ev_kind (l := l) (p := p) (by rw [h.len]; omega) hk)
  obtain ⟨b, off, rfl, hbl, hcell⟩ := h.bytes (by omega)
  have cb : w.cell? ⟨b, off + p, none⟩ = some (.int .u8 (byt l p : Int)) := hcell p (by omega)
  have hk8 := byt_lt l p
  clear hcell h
  generalize byt l p = kd at *
  have hd : decide ((n : Int) ≤ (p : Int)) = false := decide_eq_false (by omega)
  rcases hk with hk | hk
  all_goals
    go_enter Tryz.func47, Tryz.ntmps47
    go_wp2_with fail
    all_goals first
      | (exfalso; omega)
      | (refine bodyPost_ret (v := .tuple #[.agg #[.int .u8 0, .int .i64 0, .string ⟨#[]⟩, .slice none 0 0, .int .i64 0], .int .i64 (p : Int), .int .i64 3]) (by first | (simp [results, Tryz.results47, go_sem]; done) | (simp [results, Tryz.results47, go_sem, *]; done)) rfl (EvRet.bad EV.out (by go_grown)))
/-! ### The walk -/
theorem EvB.new (W : World) {k : Nat} (hk : W.heap.size = k) (a b c d x : Value) (t : TypeId) : EvB (W.alloc (.cells #[a, b, c, d, x] t)) k a b c d x := by
  refine ⟨?_, ?_, ?_, ?_, ?_, fun j => frozen_new _ _ hk _ _ _, by rw [← hk]; simp⟩
  all_goals (rw [cell_new _ _ hk]; rfl)
/-- Behind the value. -/
def CutV (w : World) (l : List UInt8) (p : Nat) (s9 : Value) (wx : World) : Prop := s9 = .int .i64 ((eC l p : Nat) : Int) ∧ (pV (byt l p) (l.drop (eB l p))).2.2 = 0 ∧ ∃ A1 c1, RvS w wx (byt l p) (.int .i64 ((Nat.min (pI (byt l p) (l.drop (p + 1))).1 500 : Nat) : Int)) (.string (strB (pT (byt l p) (l.drop (eA l p))).1)) A1 c1 (pV (byt l p) (l.drop (eB l p))).1 (.int .i64 0)
theorem min_id2 (V : Nat) : IntKind.i64.wrap (min (V : Int) 500) = ((Nat.min V 500 : Nat) : Int) := min_id V
end Go.Proofs.YtaeophaecclnbaaGreatDoor

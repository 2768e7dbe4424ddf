/- Values of one node: how they are made, walked. -/
import Derived.Test.YtakailalhpkfdaaPlA
namespace Go.Proofs.Ytakailalhpkfdaa
open Go.RowKit

/-- A value of one node, in memory of the call's own. -/
def MkPost (x : Node) (w : World) (e : Ending) (w' : World) : Prop := ∃ b, e = .returned (.slice (some ⟨b, 0, none⟩) 1 1) ∧ NodeAt w' b 0 x ∧ w.heap.size ≤ b ∧ Below w.heap.size w w'
theorem store_cx (a : Addr) (x y : Nat) (m : Mode) (w : World) : (store a (.complex .f64 x y) m).run Try.prog w = stored Try.prog w a (.complex .f64 x y) m := run_store _ w a _ m rfl
theorem node_new (W : World) (k : Nat) (hk : W.heap.size = k) (x : Node) (t : TypeId) : NodeAt (W.alloc (.cells #[.int .u8 (x.kind : Int), .int .i64 x.kids, .int .i64 x.int, .string x.text, .complex .f64 x.re x.im] t)) k 0 x := by
  subst hk
  exact ⟨by rw [World.cell?_alloc_new]; rfl, by rw [World.cell?_alloc_new]; rfl, by rw [World.cell?_alloc_new]; rfl, by rw [World.cell?_alloc_new]; rfl, by rw [World.cell?_alloc_new]; rfl⟩
def intN (n : Int) : Node := ⟨2, 0, n, ⟨#[]⟩, 0, 0⟩
def boolN (b : Bool) : Node := ⟨1, 0, if b then 1 else 0, ⟨#[]⟩, 0, 0⟩
def textN (s : ByteArray) : Node := ⟨3, 0, 0, s, 0, 0⟩
def numN (a b : Int) : Node := ⟨4, 0, 0, ⟨#[]⟩, fl a, fl b⟩
theorem mk_int (n : Int) (w : World) : Calls Try.prog 5 #[.int .i64 n] w (MkPost (intN n) w) := by
  have hsc := store_cx
  go_enter Try.func5, Try.ntmps5
  go_wp2
  go_ret
  exact ⟨w.heap.size + 1, rfl, node_new _ _ (by simp) (intN n) _, by omega, by go_grown⟩
theorem mk_bool (b : Bool) (w : World) : Calls Try.prog 19 #[.bool b] w (MkPost (boolN b) w) := by
  have hsc := store_cx
  cases b with
  | false =>
    go_enter Try.func19, Try.ntmps19
    go_wp2
    go_ret
    exact ⟨w.heap.size + 1, rfl, node_new _ _ (by simp) (boolN false) _, by omega, by go_grown⟩
  | true =>
    go_enter Try.func19, Try.ntmps19
    go_wp2
    go_ret
    exact ⟨w.heap.size + 1, rfl, node_new _ _ (by simp) (boolN true) _, by omega, by go_grown⟩
/-- A value of one node and no error. -/
def MkPostE (x : Node) (w : World) (e : Ending) (w' : World) : Prop := ∃ b, e = .returned (.tuple #[.slice (some ⟨b, 0, none⟩) 1 1, .int .i64 0]) ∧ NodeAt w' b 0 x ∧ w.heap.size ≤ b ∧ Below w.heap.size w w'
theorem mk_text (s : ByteArray) (hs : s.size ≤ 4095) (w : World) : Calls Try.prog 6 #[.string s] w (MkPostE (textN s) w) := by
  have hsc := store_cx
  have hd : decide ((4095 : Int) < (s.size : Int)) = false := decide_eq_false (by omega)
  go_enter Try.func6, Try.ntmps6
  go_wp2
  go_ret2
  exact ⟨w.heap.size + 1, rfl, node_new _ _ (by simp) (textN s) _, by omega, by go_grown⟩
theorem mk_num {a b : Int} (ha : Sm a) (hb : Sm b) (w : World) : Calls Try.prog 48 #[.complex .f64 (fl a) (fl b)] w (MkPostE (numN a b) w) := by
  have hsc := store_cx
  have H1 := Lib.hid (fun w => plain2_any (.inl rfl) (.inl rfl) ha hb w)
  have H2 := Lib.hid (fun w => fine_any ha hb w)
  have HN := Lib.hid (fun W k hk t => node_new W k hk (numN a b) t)
  unfold numN at *
  generalize fl a = fa at *
  generalize fl b = fb at *
  go_enter Try.func48, Try.ntmps48
  go_wp2_with fail
  refine (H1.out _).mono ?_
  rintro e w1 ⟨rfl, rfl⟩
  go_wp2_with fail
  refine (H2.out _).mono ?_
  rintro e w1 ⟨rfl, rfl⟩
  go_wp2
  go_ret2
  exact ⟨w.heap.size + 1, rfl, HN.out _ _ (by simp) _, by omega, by go_grown⟩
theorem number_any {a b : Int} (ha : Sm a) (hb : Sm b) (w : World) : Calls Try.prog 21 #[.complex .f64 (fl a) (fl b)] w (MkPost (numN a b) w) := by
  have H1 := Lib.hid (fun w => mk_num ha hb w)
  generalize fl a = fa at *
  generalize fl b = fb at *
  go_enter Try.func21, Try.ntmps21
  go_wp2_with fail
  refine (H1.out _).mono ?_
  rintro e w1 ⟨b1, rfl, hn, hl, hb⟩
  have HH := Lib.hid (And.intro hn (And.intro hl hb))
  clear hn hl hb
  go_wp2_with fail
  go_ret
  exact ⟨b1, rfl, HH.out.1, HH.out.2.1, HH.out.2.2⟩
end Go.Proofs.Ytakailalhpkfdaa

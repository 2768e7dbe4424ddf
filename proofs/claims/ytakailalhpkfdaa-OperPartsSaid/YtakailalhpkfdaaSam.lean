/- Two values of one node, of one kind: Order, Same, walked; a value checked. -/
import Derived.Test.YtakailalhpkfdaaAga
namespace Go.Proofs.Ytakailalhpkfdaa
open Go.RowKit

/-- Two nodes that may be compared here, and what they are together. -/
inductive Pair1 : Node → Node → Int → Prop
  | int (i j : Int) : Pair1 (intN i) (intN j) (cmpI i j)
  | text (s t : ByteArray) (hs : s.size ≤ 4095) (ht : t.size ≤ 4095) : Pair1 (textN s) (textN t) (Lib.compareBytes s.data.toList t.data.toList)
theorem Pair1.left {x y : Node} {c : Int} (h : Pair1 x y c) : Plain1 x := by
  cases h with
  | int i j => exact .int i
  | text s t hs ht => exact .text s hs
theorem Pair1.right {x y : Node} {c : Int} (h : Pair1 x y c) : Plain1 y := by
  cases h with
  | int i j => exact .int j
  | text s t hs ht => exact .text t ht
theorem aga_pair {x y : Node} {c : Int} (h : Pair1 x y c) {b1 c1 b2 c2 : Nat} {w : World} (hx : NodeAt w b1 0 x) (hy : NodeAt w b2 0 y) :
    Calls Try.prog 45 #[.slice (some ⟨b1, 0, none⟩) 1 c1, .slice (some ⟨b2, 0, none⟩) 1 c2] w (RetB (.int .i64 c) w) := by
  cases h with
  | int i j =>
    have := against_any (c1 := c1) (c2 := c2) (kd := 2) (k2 := 0) (i := i) (j := j) (s := ⟨#[]⟩) (t := ⟨#[]⟩) hx.c0 hx.c1 hx.c2 hx.c3 hx.c4 hy.c0 hy.c1 hy.c2 hy.c3 hy.c4
    have e : agaV i j ⟨#[]⟩ ⟨#[]⟩ = cmpI i j := by
      unfold agaV orR
      split
      · rename_i h; rw [h]; rfl
      · rfl
    rwa [e] at this
  | text s t hs ht =>
    have := against_any (c1 := c1) (c2 := c2) (kd := 3) (k2 := 0) (i := 0) (j := 0) (s := s) (t := t) hx.c0 hx.c1 hx.c2 hx.c3 hx.c4 hy.c0 hy.c1 hy.c2 hy.c3 hy.c4
    have e : agaV 0 0 s t = Lib.compareBytes s.data.toList t.data.toList := by
      unfold agaV orR
      rw [if_pos (cmpI_self 0)]
    rwa [e] at this
theorem order_any {x y : Node} {c : Int} (h : Pair1 x y c) {b1 c1 b2 c2 : Nat} {w : World} (hx : NodeAt w b1 0 x) (hy : NodeAt w b2 0 y) :
    Calls Try.prog 23 #[.slice (some ⟨b1, 0, none⟩) 1 c1, .slice (some ⟨b2, 0, none⟩) 1 c2] w (RetB (.int .i64 c) w) := by
  have HX := Lib.hid hx
  have HY := Lib.hid hy
  clear hx hy
  go_enter Try.func23, Try.ntmps23
  go_wp2_with fail
  refine (check1_any h.left HX.out).mono ?_
  rintro e w1 ⟨rfl, h1⟩
  have H1 := Lib.hid h1
  clear h1
  go_wp2_with fail
  refine (check1_any h.right (HY.out.below H1.out HY.out.lt)).mono ?_
  rintro e w2 ⟨rfl, h2⟩
  have H2 := Lib.hid (bthen H1.out h2)
  clear h2
  go_wp2_with fail
  refine (aga_pair h (HX.out.below H2.out HX.out.lt) (HY.out.below H2.out HY.out.lt)).mono ?_
  rintro e w3 ⟨rfl, h3⟩
  have H3 := Lib.hid (bthen H2.out h3)
  clear h3
  go_wp2_with fail
  go_ret
  exact ⟨rfl, H3.out⟩
theorem same_any {x y : Node} {c : Int} (h : Pair1 x y c) {b1 c1 b2 c2 : Nat} {w : World} (hx : NodeAt w b1 0 x) (hy : NodeAt w b2 0 y) :
    Calls Try.prog 11 #[.slice (some ⟨b1, 0, none⟩) 1 c1, .slice (some ⟨b2, 0, none⟩) 1 c2] w (RetB (.bool (c == 0)) w) := by
  have HX := Lib.hid hx
  have HY := Lib.hid hy
  clear hx hy
  go_enter Try.func11, Try.ntmps11
  go_wp2_with fail
  refine (check1_any h.left HX.out).mono ?_
  rintro e w1 ⟨rfl, h1⟩
  have H1 := Lib.hid h1
  clear h1
  go_wp2_with fail
  refine (check1_any h.right (HY.out.below H1.out HY.out.lt)).mono ?_
  rintro e w2 ⟨rfl, h2⟩
  have H2 := Lib.hid (bthen H1.out h2)
  clear h2
  go_wp2_with fail
  refine (aga_pair h (HX.out.below H2.out HX.out.lt) (HY.out.below H2.out HY.out.lt)).mono ?_
  rintro e w3 ⟨rfl, h3⟩
  have H3 := Lib.hid (bthen H2.out h3)
  clear h3
  go_wp2_with fail
  go_ret
  exact ⟨rfl, H3.out⟩
end Go.Proofs.Ytakailalhpkfdaa

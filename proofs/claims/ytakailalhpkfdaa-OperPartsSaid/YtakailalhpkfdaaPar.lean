/- OperParts, walked. Printed by a program. -/
import Derived.Test.YtakailalhpkfdaaUna
import Derived.Test.YtakailalhpkfdaaUnb
import Derived.Test.YtakailalhpkfdaaUnc
import Derived.Test.YtakailalhpkfdaaWkk
namespace Go.Proofs.Ytakailalhpkfdaa
open Go.RowKit

theorem same_eq {i j : Int} (h : i = j) {b1 c1 b2 c2 : Nat} {w : World} (hx : NodeAt w b1 0 (intN i)) (hy : NodeAt w b2 0 (intN j)) :
    Calls Try.prog 11 #[.slice (some ⟨b1, 0, none⟩) 1 c1, .slice (some ⟨b2, 0, none⟩) 1 c2] w (RetB (.bool true) w) := by
  subst h
  have := same_any (.int i i) (c1 := c1) (c2 := c2) hx hy
  rwa [cmpI_self] at this
theorem Sm.of32 {x : Int} (h1 : -4294967296 ≤ x) (h2 : x ≤ 4294967296) : Sm x := by unfold Sm; omega
set_option maxRecDepth 100000 in
set_option maxHeartbeats 8000000 in
theorem parts_law (x y : Int) (w : World) (x1 : -2147483648 ≤ x) (x2 : x ≤ 2147483647) (y1 : -2147483648 ≤ y) (y2 : y ≤ 2147483647) : Calls Try.prog 4 #[.int .i32 x, .int .i32 y] w (RetB (.bool true) w) := by
  have sx : Sm x := .of32 (by omega) (by omega)
  have sy : Sm y := .of32 (by omega) (by omega)
  have sny : Sm (-y) := .of32 (by omega) (by omega)
  have sxx : Sm (x + x) := .of32 (by omega) (by omega)
  have syy : Sm (y + -y) := .of32 (by omega) (by omega)
  have wn : IntKind.i64.wrap (-y) = -y := by rw [IntKind.wrap_i64]; omega
  have wm : IntKind.i64.wrap (2 * x) = 2 * x := by rw [IntKind.wrap_i64]; omega
  go_enter Try.func4, Try.ntmps4
  go_wp2_with fail
  refine (mk_int x _).mono ?_
  rintro e w1 ⟨px, rfl, hn, hlo, hb⟩
  have H1 := Lib.hid (show Below w.heap.size w w1 from hb)
  have Mx := Lib.hid hn
  clear hb hn hlo
  have Nx := Mx; clear Mx
  go_wp2_with fail
  refine (mk_int y _).mono ?_
  rintro e w2 ⟨py, rfl, hn, hlo, hb⟩
  have H2 := Lib.hid (show Below w.heap.size w w2 from bthen H1.out hb)
  have Mx := Lib.hid (Nx.out.below hb Nx.out.lt)
  have My := Lib.hid hn
  clear hb hn hlo Nx H1
  have Nx := Mx; clear Mx; have Ny := My; clear My
  go_wp2_with fail
  refine (bin_onum sx sy Nx.out Ny.out).mono ?_
  rintro e w3 ⟨pz, rfl, hn, hlo, hb⟩
  have H3 := Lib.hid (show Below w.heap.size w w3 from bthen H2.out hb)
  have Mz := Lib.hid hn
  clear hb hn hlo Nx Ny H2
  have Nz := Mz; clear Mz
  go_wp2_with fail
  refine (una_46 sx sy Nz.out).mono ?_
  rintro e w4 ⟨pre, rfl, hn, hlo, hb⟩
  have H4 := Lib.hid (show Below w.heap.size w w4 from bthen H3.out hb)
  have Mz := Lib.hid (Nz.out.below hb Nz.out.lt)
  have Mre := Lib.hid hn
  clear hb hn hlo Nz H3
  have Nz := Mz; clear Mz; have Nre := Mre; clear Mre
  go_wp2_with fail
  refine (una_47 sx sy Nz.out).mono ?_
  rintro e w5 ⟨pim, rfl, hn, hlo, hb⟩
  have H5 := Lib.hid (show Below w.heap.size w w5 from bthen H4.out hb)
  have Mz := Lib.hid (Nz.out.below hb Nz.out.lt)
  have Mre := Lib.hid (Nre.out.below hb Nre.out.lt)
  have Mim := Lib.hid hn
  clear hb hn hlo Nz Nre H4
  have Nz := Mz; clear Mz; have Nre := Mre; clear Mre; have Nim := Mim; clear Mim
  go_wp2_with fail
  refine (una_48 sx sy sny Nz.out).mono ?_
  rintro e w6 ⟨pc, rfl, hn, hlo, hb⟩
  have H6 := Lib.hid (show Below w.heap.size w w6 from bthen H5.out hb)
  have Mz := Lib.hid (Nz.out.below hb Nz.out.lt)
  have Mre := Lib.hid (Nre.out.below hb Nre.out.lt)
  have Mim := Lib.hid (Nim.out.below hb Nim.out.lt)
  have Mc := Lib.hid hn
  clear hb hn hlo Nz Nre Nim H5
  have Nz := Mz; clear Mz; have Nre := Mre; clear Mre; have Nim := Mim; clear Mim; have Nc := Mc; clear Mc
  go_wp2_with fail
  refine (mk_int x _).mono ?_
  rintro e w7 ⟨px, rfl, hn, hlo, hb⟩
  have H7 := Lib.hid (show Below w.heap.size w w7 from bthen H6.out hb)
  have Mz := Lib.hid (Nz.out.below hb Nz.out.lt)
  have Mre := Lib.hid (Nre.out.below hb Nre.out.lt)
  have Mim := Lib.hid (Nim.out.below hb Nim.out.lt)
  have Mc := Lib.hid (Nc.out.below hb Nc.out.lt)
  have Mx := Lib.hid hn
  clear hb hn hlo Nz Nre Nim Nc H6
  have Nz := Mz; clear Mz; have Nre := Mre; clear Mre; have Nim := Mim; clear Mim; have Nc := Mc; clear Mc; have Nx := Mx; clear Mx
  go_wp2_with fail
  refine (same_eq rfl Nre.out Nx.out).mono ?_
  rintro e w8 ⟨rfl, hb⟩
  have H8 := Lib.hid (show Below w.heap.size w w8 from bthen H7.out hb)
  have Mz := Lib.hid (Nz.out.below hb Nz.out.lt)
  have Mim := Lib.hid (Nim.out.below hb Nim.out.lt)
  have Mc := Lib.hid (Nc.out.below hb Nc.out.lt)
  clear hb Nz Nre Nim Nc Nx H7
  have Nz := Mz; clear Mz; have Nim := Mim; clear Mim; have Nc := Mc; clear Mc
  go_wp2_with fail
  refine (mk_int y _).mono ?_
  rintro e w9 ⟨py, rfl, hn, hlo, hb⟩
  have H9 := Lib.hid (show Below w.heap.size w w9 from bthen H8.out hb)
  have Mz := Lib.hid (Nz.out.below hb Nz.out.lt)
  have Mim := Lib.hid (Nim.out.below hb Nim.out.lt)
  have Mc := Lib.hid (Nc.out.below hb Nc.out.lt)
  have My := Lib.hid hn
  clear hb hn hlo Nz Nim Nc H8
  have Nz := Mz; clear Mz; have Nim := Mim; clear Mim; have Nc := Mc; clear Mc; have Ny := My; clear My
  go_wp2_with fail
  refine (same_eq rfl Nim.out Ny.out).mono ?_
  rintro e w10 ⟨rfl, hb⟩
  have H10 := Lib.hid (show Below w.heap.size w w10 from bthen H9.out hb)
  have Mz := Lib.hid (Nz.out.below hb Nz.out.lt)
  have Mc := Lib.hid (Nc.out.below hb Nc.out.lt)
  clear hb Nz Nim Nc Ny H9
  have Nz := Mz; clear Mz; have Nc := Mc; clear Mc
  go_wp2_with fail
  refine (una_47 sx sny Nc.out).mono ?_
  rintro e w11 ⟨pback, rfl, hn, hlo, hb⟩
  have H11 := Lib.hid (show Below w.heap.size w w11 from bthen H10.out hb)
  have Mz := Lib.hid (Nz.out.below hb Nz.out.lt)
  have Mc := Lib.hid (Nc.out.below hb Nc.out.lt)
  have Mback := Lib.hid hn
  clear hb hn hlo Nz Nc H10
  have Nz := Mz; clear Mz; have Nc := Mc; clear Mc; have Nback := Mback; clear Mback
  go_wp2_with fail
  refine (bin_addc sx sy sx sny sxx syy Nz.out Nc.out).mono ?_
  rintro e w12 ⟨psum, rfl, hn, hlo, hb⟩
  have H12 := Lib.hid (show Below w.heap.size w w12 from bthen H11.out hb)
  have Mback := Lib.hid (Nback.out.below hb Nback.out.lt)
  have Msum := Lib.hid hn
  clear hb hn hlo Nz Nc Nback H11
  have Nback := Mback; clear Mback; have Nsum := Msum; clear Msum
  go_wp2_with fail
  refine (mk_int (-y) _).mono ?_
  rintro e w13 ⟨pn, rfl, hn, hlo, hb⟩
  have H13 := Lib.hid (show Below w.heap.size w w13 from bthen H12.out hb)
  have Mback := Lib.hid (Nback.out.below hb Nback.out.lt)
  have Msum := Lib.hid (Nsum.out.below hb Nsum.out.lt)
  have Mn := Lib.hid hn
  clear hb hn hlo Nback Nsum H12
  have Nback := Mback; clear Mback; have Nsum := Msum; clear Msum; have Nn := Mn; clear Mn
  go_wp2_with fail
  refine (same_eq rfl Nback.out Nn.out).mono ?_
  rintro e w14 ⟨rfl, hb⟩
  have H14 := Lib.hid (show Below w.heap.size w w14 from bthen H13.out hb)
  have Msum := Lib.hid (Nsum.out.below hb Nsum.out.lt)
  clear hb Nback Nsum Nn H13
  have Nsum := Msum; clear Msum
  go_wp2_with fail
  refine (una_46 sxx syy Nsum.out).mono ?_
  rintro e w15 ⟨ptwo, rfl, hn, hlo, hb⟩
  have H15 := Lib.hid (show Below w.heap.size w w15 from bthen H14.out hb)
  have Msum := Lib.hid (Nsum.out.below hb Nsum.out.lt)
  have Mtwo := Lib.hid hn
  clear hb hn hlo Nsum H14
  have Nsum := Msum; clear Msum; have Ntwo := Mtwo; clear Mtwo
  go_wp2_with fail
  refine (una_47 sxx syy Nsum.out).mono ?_
  rintro e w16 ⟨pnone, rfl, hn, hlo, hb⟩
  have H16 := Lib.hid (show Below w.heap.size w w16 from bthen H15.out hb)
  have Mtwo := Lib.hid (Ntwo.out.below hb Ntwo.out.lt)
  have Mnone := Lib.hid hn
  clear hb hn hlo Nsum Ntwo H15
  have Ntwo := Mtwo; clear Mtwo; have Nnone := Mnone; clear Mnone
  go_wp2_with fail
  refine (mk_int (2 * x) _).mono ?_
  rintro e w17 ⟨pd, rfl, hn, hlo, hb⟩
  have H17 := Lib.hid (show Below w.heap.size w w17 from bthen H16.out hb)
  have Mtwo := Lib.hid (Ntwo.out.below hb Ntwo.out.lt)
  have Mnone := Lib.hid (Nnone.out.below hb Nnone.out.lt)
  have Md := Lib.hid hn
  clear hb hn hlo Ntwo Nnone H16
  have Ntwo := Mtwo; clear Mtwo; have Nnone := Mnone; clear Mnone; have Nd := Md; clear Md
  go_wp2_with fail
  refine (same_eq (by omega) Ntwo.out Nd.out).mono ?_
  rintro e w18 ⟨rfl, hb⟩
  have H18 := Lib.hid (show Below w.heap.size w w18 from bthen H17.out hb)
  have Mnone := Lib.hid (Nnone.out.below hb Nnone.out.lt)
  clear hb Ntwo Nnone Nd H17
  have Nnone := Mnone; clear Mnone
  go_wp2_with fail
  refine (mk_int 0 _).mono ?_
  rintro e w19 ⟨po, rfl, hn, hlo, hb⟩
  have H19 := Lib.hid (show Below w.heap.size w w19 from bthen H18.out hb)
  have Mnone := Lib.hid (Nnone.out.below hb Nnone.out.lt)
  have Mo := Lib.hid hn
  clear hb hn hlo Nnone H18
  have Nnone := Mnone; clear Mnone; have No := Mo; clear Mo
  go_wp2_with fail
  refine (same_eq (by omega) Nnone.out No.out).mono ?_
  rintro e w20 ⟨rfl, hb⟩
  have H20 := Lib.hid (show Below w.heap.size w w20 from bthen H19.out hb)
  clear hb Nnone No H19
  skip
  go_wp2_with fail
  refine (wakes_any _).mono ?_
  rintro e w21 ⟨rfl, hb⟩
  have H21 := Lib.hid (show Below w.heap.size w w21 from bthen H20.out hb)
  clear hb H20
  skip
  go_wp2_with fail
  go_ret
  exact ⟨rfl, H21.out⟩
end Go.Proofs.Ytakailalhpkfdaa

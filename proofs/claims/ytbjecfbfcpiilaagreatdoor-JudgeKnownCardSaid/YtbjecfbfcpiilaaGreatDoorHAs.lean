/- A call that is known: errors.As of a player's fault. -/
import Derived.Test.YtbjecfbfcpiilaaGreatDoorExF
import Derived.Test.YtbjecfbfcpiilaaGreatDoorAsW
namespace Go.Proofs.YtbjecfbfcpiilaaGreatDoor
open Go Go.RowKit

/-- What errors.errorType holds. -/
def errT : SObj := .cells [.iface RT (.agg #[.pointer (some ⟨NG, ET, none⟩)])] IT true
noncomputable def hk_As : HookE :=
  ⟨67, [.iface WT (.agg #[.int .i64 1, .int .i64 180]), .iface PT (.pointer (some ⟨1632, 0, none⟩))], 1679, [(0, errT), (1632, .cells [.int .i64 0, .int .i64 0] WT true)], .bool true, 1679, [(0, errT), (1632, .cells [.int .i64 1, .int .i64 180] WT true)]⟩
theorem vl_two {E : Env} {a b : Value} {l : List Value} (h : VL E [a, b] l) : ∃ x y, l = [x, y] ∧ VR E a x ∧ VR E b y := by
  obtain ⟨x, l', rfl, h1, h2⟩ := h.inv_cons
  obtain ⟨y, l'', rfl, h3, h4⟩ := h2.inv_cons
  rw [h4.inv_nil]
  exact ⟨x, y, rfl, h1, h3⟩
/-- Whole rows of cells. -/
theorem cells_two {G : Nat} {F : Nat → Option Obj} {W : World} {E : Env} {S : SW} {w : World} (h : Sat G F W E S w) {i : Nat} {x y : Int} {t : TypeId} (hi : S.h.get i = some (.cells [.int .i64 x, .int .i64 y] t true)) :
    ∃ e, E i = some e ∧ e.d = 0 ∧ e.k = 2 ∧ w.heap[e.b]? = some (.cells #[.int .i64 x, .int .i64 y] t (0, 0)) := by
  obtain ⟨e, he, arr, fr, h1, h2, h3, h4, h5, h6⟩ := h.obj _ _ hi
  obtain ⟨h7, h8, h9⟩ := h4 rfl
  obtain ⟨v0, q0, r0⟩ := h6 0 _ rfl
  obtain ⟨v1, q1, r1⟩ := h6 1 _ rfl
  cases r0; cases r1
  rw [h8, Nat.zero_add] at q0 q1
  have hk : e.k = 2 := by rw [← h7]; rfl
  have ha : arr = #[.int .i64 x, .int .i64 y] := by
    apply Array.ext_getElem?
    intro j
    match j with
    | 0 => exact q0
    | 1 => exact q1
    | j + 2 => rw [Array.getElem?_eq_none (by omega)]; simp
  subst ha
  exact ⟨e, he, h8, hk, by rw [h1, h9]⟩
theorem err_global {G : Nat} {F : Nat → Option Obj} {W : World} {E : Env} {S : SW} {w : World} (h : Sat G F W E S w) (hG : 10 < G) (hi : S.h.get 0 = some errT) : w.cell? ⟨0, 0, none⟩ = some (.iface RT (hdl ET)) := by
  obtain ⟨e, he, arr, fr, h1, h2, h3, h4, h5, h6⟩ := h.obj _ _ hi
  obtain ⟨e0, he0, hb0, hd0⟩ := h.glob 0 (by omega)
  rw [he] at he0; cases he0
  obtain ⟨h7, h8, h9⟩ := h4 rfl
  obtain ⟨v0, q0, r0⟩ := h6 0 _ rfl
  obtain ⟨e1, he1, hb1, hd1⟩ := h.glob 10 hG
  cases r0 with | iface r0 =>
  cases r0 with | agg ha ha' =>
  rename_i a'
  have hl : a'.size = 1 := by
    have := ha
    rw [Array.length_toList, Array.length_toList] at this
    exact this.symm
  have hx := ha' 0 _ (a'[0]'(by omega)) rfl (by rw [Array.getElem?_toList, Array.getElem?_eq_getElem])
  have hx' : a'[0]'(by omega) = .pointer (some ⟨NG, ET, none⟩) := by
    generalize a'[0]'(by omega) = q at hx
    cases hx with | ptr hp =>
    obtain ⟨_, e2, he2, rfl⟩ := hp
    have he2' : E 10 = some e2 := he2
    rw [he1] at he2'; cases he2'
    rw [hb1, hd1]
  have haq : a' = #[.pointer (some ⟨NG, ET, none⟩)] := by
    apply Array.ext
    · exact hl
    · intro j hj1 hj2
      have : j = 0 := by simp at hj2; omega
      subst this
      exact hx'
  subst haq
  rw [h8, Nat.zero_add] at q0
  unfold World.cell?
  rw [hb0] at h1
  simp only [h1]
  exact q0
theorem hk_As_ok : HookOk Tryz.prog 15 hk_As := by
  intro F W E w args' n h hargs
  have h : Sat 15 F W E ⟨1679, putAll hk_As.pre .leaf⟩ w := h
  obtain ⟨a, b, hab, ha, hb⟩ := vl_two (show VL E [.iface WT (.agg #[.int .i64 1, .int .i64 180]), .iface PT (.pointer (some ⟨1632, 0, none⟩))] args'.toList from hargs)
  have g0 : (putAll hk_As.pre .leaf).get 0 = some errT := rfl
  have g1 : (putAll hk_As.pre .leaf).get 1632 = some (.cells [.int .i64 0, .int .i64 0] WT true) := rfl
  obtain ⟨e, he, hd, hk, hc⟩ := cells_two h g1
  have hg := err_global h (by decide) g0
  have hF : F e.b = none := h.own 1632 _ e g1 he
  have hpa := plain_eq 3 _ _ (show plainV 3 (.iface WT (.agg #[.int .i64 1, .int .i64 180])) = true from rfl) ha
  subst hpa
  cases hb with | iface hb =>
  cases hb with | ptr hp =>
  obtain ⟨_, e', he', rfl⟩ := hp
  have he'' : E 1632 = some e' := he'
  rw [he] at he''; cases he''
  obtain rfl : args' = #[.iface WT (.agg #[.int .i64 1, .int .i64 180]), .iface PT (.pointer (some ⟨e.b, 0, none⟩))] := by
    apply Array.toList_inj.1
    rw [hab, hd]
  have c0 : w.cell? ⟨e.b, 0, none⟩ = some (.int .i64 0) := by unfold World.cell?; simp only [hc]; rfl
  have c1 : w.cell? ⟨e.b, 1, none⟩ = some (.int .i64 0) := by unfold World.cell?; simp only [hc]; rfl
  have f0 : w.frozen? ⟨e.b, 0, none⟩ = false := by unfold World.frozen?; simp only [hc]; rfl
  have f1 : w.frozen? ⟨e.b, 1, none⟩ = false := by unfold World.frozen?; simp only [hc]; rfl
  refine (callsIn_wide.2 (as_hit 1 180 e.b _ _ w hg c0 c1 f0 f1)).mono ?_
  rintro ev w' ⟨rfl, rfl⟩
  have hlt : e.b < w.heap.size := World.block_lt_of_cell? w _ c0
  have hsize : w.heap.size ≤ (asWorld w e.b 1 180).heap.size := by unfold asWorld; simp; omega
  have hkeep : ∀ k, k ≠ e.b → k < w.heap.size → (asWorld w e.b 1 180).heap[k]? = w.heap[k]? := fun k hk hl => by
    unfold asWorld
    rw [heap_setCell_other _ _ k _ hk, heap_setCell_other _ _ k _ hk]
    have B := ((((Below.refl w.heap.size w).alloc (Nat.le_refl _) (.cells #[.pointer (some ⟨e.b, 0, none⟩)] PT)).alloc (by simp) (.cells #[.pointer (some ⟨NG, PT, none⟩), .pointer (some ⟨w.heap.size, 0, none⟩), .int .u64 150] VT)).alloc (by simp; omega) (.cells #[.pointer (some ⟨NG, PT, none⟩), .pointer (some ⟨w.heap.size, 0, none⟩), .int .u64 150] VT)).alloc (by simp; omega) (.cells #[.int .i64 1, .int .i64 180] WT)
    exact B.block k hl
  refine ⟨E, Ext.refl _ _, Nat.le_refl _, h.step e.b 1632 (Env.le.refl E) h.new hkeep hsize (fun i o hi hio => ?_) (fun o hio => ?_) hF ?_ ?_ ?_, ?_⟩
  · have hm := putAll_mem hk_As.post (show (putAll hk_As.post .leaf).get i = some o from hio)
    rcases List.mem_cons.1 hm with hm | hm
    · cases hm
      refine ⟨g0, fun e1 he1 hb1 => ?_⟩
      exact hi (h.inj 0 1632 _ _ e1 e g0 g1 he1 he hb1)
    · rcases List.mem_cons.1 hm with hm | hm
      · cases hm; exact absurd rfl hi
      · cases hm
  · have hm : some (SObj.cells [.int .i64 1, .int .i64 180] WT true) = some o := hio
    cases hm
    refine ⟨e, he, rfl, #[.int .i64 1, .int .i64 180], (0, 0), ?_, by rw [hd, hk]; rfl, by rw [hk]; exact Nat.le_refl _, fun _ => ⟨by rw [hk]; rfl, hd, rfl⟩, fun o _ => by simp, fun j v hj => ?_⟩
    · unfold asWorld
      have B := ((((Below.refl w.heap.size w).alloc (Nat.le_refl _) (.cells #[.pointer (some ⟨e.b, 0, none⟩)] PT)).alloc (by simp) (.cells #[.pointer (some ⟨NG, PT, none⟩), .pointer (some ⟨w.heap.size, 0, none⟩), .int .u64 150] VT)).alloc (by simp; omega) (.cells #[.pointer (some ⟨NG, PT, none⟩), .pointer (some ⟨w.heap.size, 0, none⟩), .int .u64 150] VT)).alloc (by simp; omega) (.cells #[.int .i64 1, .int .i64 180] WT)
      have hc' := (B.block e.b hlt).trans hc
      generalize ((((w.alloc (.cells #[.pointer (some ⟨e.b, 0, none⟩)] PT)).alloc (.cells #[.pointer (some ⟨NG, PT, none⟩), .pointer (some ⟨w.heap.size, 0, none⟩), .int .u64 150] VT)).alloc (.cells #[.pointer (some ⟨NG, PT, none⟩), .pointer (some ⟨w.heap.size, 0, none⟩), .int .u64 150] VT)).alloc (.cells #[.int .i64 1, .int .i64 180] WT)) = w1 at hc' ⊢
      have h1 := heap_setCell_same w1 e.b 0 _ WT (.int .i64 1) hc'
      exact heap_setCell_same _ e.b 1 _ WT (.int .i64 180) h1
    · rw [hd, Nat.zero_add]
      match j with
      | 0 => cases hj; exact ⟨_, rfl, .int _ _⟩
      | 1 => cases hj; exact ⟨_, rfl, .int _ _⟩
      | j + 2 => simp at hj
  · rfl
  · rfl
  · rfl
  · exact .bool true
end Go.Proofs.YtbjecfbfcpiilaaGreatDoor

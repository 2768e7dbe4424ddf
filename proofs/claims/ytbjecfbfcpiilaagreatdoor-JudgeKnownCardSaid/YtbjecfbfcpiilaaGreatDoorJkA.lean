/- The chapter's examples hold: the law runs to true; the world below stays. -/
import Derived.Test.YtbjecfbfcpiilaaGreatDoorBase
import Derived.Test.YtbjecfbfcpiilaaGreatDoorHk2
import Derived.Test.YtbjecfbfcpiilaaGreatDoorHk4
import Derived.Test.YtbjecfbfcpiilaaGreatDoorHk6
namespace Go.Proofs.YtbjecfbfcpiilaaGreatDoor
open Go Go.RowKit

def errObj : Obj := .cells #[.iface RT (hdl ET)] IT (0, 0)
/-- The rows of a world whose errors.errorType is laid. -/
theorem start_err (w : World) (h0 : w.heap[0]? = some errObj) : Sat 15 (fun k => if k = 0 then none else w.heap[k]?) w (fun i => if i = 0 then some ⟨0, 0, 1⟩ else if i < 15 then some ⟨i, 0, 0⟩ else none) ⟨15, putAll [(0, errT)] .leaf⟩ w := by
  have hg : ∀ i o, (putAll [(0, errT)] .leaf).get i = some o → i = 0 ∧ o = errT := fun i o hi => by
    have hm := putAll_mem [(0, errT)] hi
    rcases List.mem_cons.1 hm with hm | hm
    · cases hm; exact ⟨rfl, rfl⟩
    · cases hm
  refine ⟨fun i hi => ?_, fun g hg => ?_, fun i o hi => ?_, fun i j o o' e e' hi hj _ _ _ => ?_, fun i o e hi he => ?_, fun k o hk => ?_, Nat.le_refl _, rfl, rfl, rfl⟩
  · have : 15 ≤ i := hi
    show (if i = 0 then _ else if i < 15 then _ else _) = _
    rw [if_neg (by omega), if_neg (by omega)]
  · by_cases h : g = 0
    · subst h; exact ⟨⟨0, 0, 1⟩, rfl, rfl, rfl⟩
    · exact ⟨⟨g, 0, 0⟩, by show (if g = 0 then _ else if g < 15 then _ else _) = _; rw [if_neg h, if_pos hg], rfl, rfl⟩
  · obtain ⟨rfl, rfl⟩ := hg i o hi
    refine ⟨⟨0, 0, 1⟩, rfl, #[.iface RT (hdl ET)], (0, 0), h0, rfl, Nat.le_refl _, fun _ => ⟨rfl, rfl, rfl⟩, fun o _ => by simp, fun j v hj => ?_⟩
    match j with
    | 0 =>
      cases hj
      refine ⟨_, rfl, .iface (VR.agg' (LR.cons (.ptr ⟨rfl, ⟨10, 0, 0⟩, rfl, rfl⟩) LR.nil))⟩
    | j + 1 => cases hj
  · rw [(hg i o hi).1, (hg j o' hj).1]
  · obtain ⟨rfl, rfl⟩ := hg i o hi
    have he : some (⟨0, 0, 1⟩ : Ent) = some e := he
    cases he
    rfl
  · by_cases h : k = 0
    · subst h; cases hk
    · have hk : (if k = 0 then none else w.heap[k]?) = some o := hk
      rw [if_neg h] at hk
      exact hk
theorem end_err {F : Nat → Option Obj} {W : World} {E : Env} {S : SW} {w : World} (h : Sat 15 F W E S w) (hi : S.h.get 0 = some errT) (h0 : E 0 = some ⟨0, 0, 1⟩) : w.heap[0]? = some errObj := by
  obtain ⟨e, he, arr, fr, h1, h2, h3, h4, h5, h6⟩ := h.obj _ _ hi
  rw [h0] at he; cases he
  have hc := err_global h (by decide) hi
  obtain ⟨h7, h8, h9⟩ := h4 rfl
  have h1 : w.heap[0]? = some (.cells arr IT fr) := h1
  have h2 : arr.size = 1 := h2
  unfold World.cell? at hc
  simp only [h1] at hc
  have hc : arr[0]? = some (.iface RT (hdl ET)) := hc
  have : arr = #[.iface RT (hdl ET)] := by
    apply Array.ext_getElem?
    intro j
    match j with
    | 0 => exact hc
    | j + 1 => rw [Array.getElem?_eq_none (by omega)]; simp
  rw [h1, this, h9]
  rfl
noncomputable def saysTrueE : Option (SEnd × SW) → Bool
  | some (.ret (.bool b), S) => b && hasObj S (0, errT)
  | _ => false
theorem says_trueE {r : Option (SEnd × SW)} (h : saysTrueE r = true) : ∃ S', r = some (.ret (.bool true), S') ∧ S'.h.get 0 = some errT := by
  unfold saysTrueE at h
  split at h
  · rename_i b S
    rw [Bool.and_eq_true] at h
    obtain ⟨rfl, h2⟩ := h
    exact ⟨S, rfl, hasObj_ok h2⟩
  · cases h
set_option maxRecDepth 1000000 in
theorem known_runs : saysTrueE (callE [hk_Hk4, hk_Hk7, hk_Hk10, hk_Hk12, hk_Hk16, hk_As, hk_Ov] Tryz.prog 15 3000 ⟨15, putAll [(0, errT)] .leaf⟩ 3 []) = true := by kernel_rfl
theorem known_hooks : HooksOk Tryz.prog 15 [hk_Hk4, hk_Hk7, hk_Hk10, hk_Hk12, hk_Hk16, hk_As, hk_Ov] :=
  .cons hk_Hk4_ok (.cons hk_Hk7_ok (.cons hk_Hk10_ok (.cons hk_Hk12_ok (.cons hk_Hk16_ok (.cons hk_As_ok (.cons hk_Ov_ok .nil))))))
theorem known_any (w : World) (h0 : w.heap[0]? = some errObj) : Calls Tryz.prog 3 #[] w (RetB (.bool true) w) := by
  obtain ⟨S', h, hS⟩ := says_trueE known_runs
  refine (callsIn_wide.1 (callE_ok known_hooks mixed_ok h _ w _ w #[] 0 (start_err w h0) LR.nil)).mono ?_
  rintro e w' ⟨E', hE, hn, hs, he⟩
  have h10 := end_err hs hS ((hE 0 (by decide)).trans rfl)
  cases e with
  | returned v =>
    have hv : VR E' (.bool true) v := he
    cases hv
    refine ⟨rfl, ⟨hs.os, hs.tape, hs.output, hs.size, fun k hk => ?_⟩⟩
    by_cases hk0 : k = 0
    · subst hk0; rw [h10, h0]
    · have := hs.far k (w.heap[k]) (by show (if k = 0 then none else w.heap[k]?) = _; rw [if_neg hk0]; exact Array.getElem?_eq_getElem hk)
      rw [this, Array.getElem?_eq_getElem hk]
  | panicked ch => exact he.elim
  | outgrown => exact he.elim
end Go.Proofs.YtbjecfbfcpiilaaGreatDoor

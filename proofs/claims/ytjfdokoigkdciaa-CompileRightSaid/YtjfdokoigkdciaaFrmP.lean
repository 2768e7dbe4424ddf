/- The table of forms: a map from bytes to forms; put in, looked up; in plain steps of the model. -/
import Derived.Test.YtjfdokoigkdciaaPrdA
import Derived.Orders
import Derived.MapKept
import Derived.Maps.GroupsBeside
namespace Go.Proofs.Ytjfdokoigkdciaa
open Go.RowKit

def textF (tk : Nat) : Value := if tk = 0 then .func (.func 39) #[] #[] else if tk = 1 then .func (.func 42) #[] #[] else .func (.func 45) #[] #[]
def partF (pk : Nat) : Value :=
  if pk = 0 then .func (.func 40) #[] #[] else if pk = 1 then .func (.func 41) #[] #[] else if pk = 2 then .func (.func 43) #[] #[]
  else if pk = 3 then .func (.func 44) #[] #[] else if pk = 4 then .func (.func 46) #[] #[] else .func (.func 47) #[] #[]
def formV (x : FormV) : Value := .agg #[textF x.tk, .int .i64 x.lo, .int .i64 x.hi, partF x.pk]
theorem byte_check (e : Bool) (a : Nat) (w : World) : (Instr.checkKey e 10000 5 (.int .u8 (a : Int))).run Try.prog w = .ok () w := by
  kernel_rfl
/-- Entries of the table: just those of some bytes. -/
structure EntsF (on : Nat → Bool) (es : Array MapEntry) : Prop where
  all : ∀ e, e ∈ es.toList → ∃ j : Nat, on j = true ∧ e.key = .int .u8 (j : Int) ∧ e.val = formV (formS j)
  has : ∀ j : Nat, on j = true → ∃ e, e ∈ es.toList ∧ e.key = .int .u8 (j : Int)
theorem ffind_none (on : Nat → Bool) (i : Nat) (hoff : on i = false) : ∀ (es : List MapEntry) (n : Nat), (∀ e, e ∈ es → ∃ j : Nat, on j = true ∧ e.key = .int .u8 (j : Int) ∧ e.val = formV (formS j)) →
    Instr.findNow (.int .u8) (.int .u8 (i : Int)) es n = some none
  | [], n, _ => rfl
  | e :: es, n, h => by
    obtain ⟨j, hon, hk, _⟩ := h e (by simp)
    have hij : i ≠ j := fun c => by rw [c, hon] at hoff; cases hoff
    have hb : ((i : Int) == (j : Int)) = false := beq_eq_false_iff_ne.2 (by omega)
    rw [Instr.findNow, hk]
    simp only [Instr.sameNow, if_true, hb]
    exact ffind_none on i hoff es (n + 1) (fun e he => h e (by simp [he]))
theorem ffind_some (on : Nat → Bool) (i : Nat) : ∀ (es : List MapEntry) (n : Nat), (∀ e, e ∈ es → ∃ j : Nat, on j = true ∧ e.key = .int .u8 (j : Int) ∧ e.val = formV (formS j)) → (∃ e, e ∈ es ∧ e.key = .int .u8 (i : Int)) →
    ∃ q, Instr.findNow (.int .u8) (.int .u8 (i : Int)) es n = some (some (q, formV (formS i)))
  | [], n, _, he => by obtain ⟨e, h, _⟩ := he; exact absurd h (by simp)
  | e :: es, n, h, he => by
    obtain ⟨j, hon, hk, hv⟩ := h e (by simp)
    by_cases hij : i = j
    · subst hij
      refine ⟨n, ?_⟩
      rw [Instr.findNow, hk]
      simp [Instr.sameNow, hv]
    · have hb : ((i : Int) == (j : Int)) = false := beq_eq_false_iff_ne.2 (by omega)
      obtain ⟨e', he', hk'⟩ := he
      have hmem : e' ∈ es := by
        rcases List.mem_cons.1 he' with c | c
        · subst c
          rw [hk'] at hk
          simp at hk
          exact absurd (by omega) hij
        · exact c
      obtain ⟨q, hr⟩ := ffind_some on i es (n + 1) (fun e he => h e (by simp [he])) ⟨e', hmem, hk'⟩
      refine ⟨q, ?_⟩
      rw [Instr.findNow, hk]
      simp only [Instr.sameNow, if_true, hb]
      exact hr
theorem fkey_none {on : Nat → Bool} {es : Array MapEntry} (h : EntsF on es) {i : Nat} (hoff : on i = false) (w : World) : (Instr.findKey 5 (.int .u8 (i : Int)) es.toList).run Try.prog w = .ok none w :=
  MapKept.run_findKey Try.underlying5 (ffind_none on i hoff es.toList 0 h.all)
theorem fkey_some {on : Nat → Bool} {es : Array MapEntry} (h : EntsF on es) {i : Nat} (hon : on i = true) (w : World) : ∃ q, (Instr.findKey 5 (.int .u8 (i : Int)) es.toList).run Try.prog w = .ok (some (q, formV (formS i))) w := by
  obtain ⟨q, hq⟩ := ffind_some on i es.toList 0 h.all (h.has i hon)
  exact ⟨q, MapKept.run_findKey Try.underlying5 hq⟩
/-- The map at b holds the forms of just some bytes. -/
def MapF (w : World) (b : Nat) (on : Nat → Bool) : Prop := ∃ es c, w.heap[b]? = some (.map es c) ∧ EntsF on es
theorem MapF.lt {w : World} {b : Nat} {on : Nat → Bool} (h : MapF w b on) : b < w.heap.size := by
  obtain ⟨es, c, h1, _⟩ := h
  exact (Array.getElem?_eq_some_iff.1 h1).1
theorem MapF.below {w w' : World} {B b : Nat} {on : Nat → Bool} (h : MapF w b on) (hb : Below B w w') (hl : b < B) : MapF w' b on := by
  obtain ⟨es, c, h1, h2⟩ := h
  exact ⟨es, c, (hb.block b hl).trans h1, h2⟩
theorem MapF.new (w : World) : MapF (w.alloc (.map #[] 0)) w.heap.size (fun _ => false) :=
  ⟨#[], 0, (MapKept.heap_alloc w _).1, ⟨fun e hm => absurd hm (by simp), fun j hon => by cases hon⟩⟩
theorem MapF.put {w : World} {b : Nat} {on : Nat → Bool} (h : MapF w b on) (k : Nat) (hoff : on k = false) :
    ∃ w', (Instr.mapUpdate 72 (.map (some b)) (.int .u8 (k : Int)) (formV (formS k))).run Try.prog w = .ok () w' ∧ MapF w' b (fun j => decide (j = k) || on j) ∧ Below b w w' ∧ w'.heap.size = w.heap.size := by
  have hlt := h.lt
  obtain ⟨es, c, hb, hE⟩ := h
  have hg : (getObj b).run Try.prog w = .ok (.map es c) w := by simp [getObj, Sem.run, hb]
  have hc := byte_check false k w
  have hk := fkey_none hE hoff w
  have hs : ∀ o', (setObj b o').run Try.prog w = .ok () { w with heap := w.heap.setIfInBounds b o' } := fun o' => by simp [setObj, Sem.run, hb]
  refine ⟨{ w with heap := w.heap.setIfInBounds b (.map (es.push { key := .int .u8 (k : Int), val := formV (formS k), born := c }) (c + 1)) }, ?_, ⟨es.push { key := .int .u8 (k : Int), val := formV (formS k), born := c }, c + 1, by simp [hlt], ?_⟩, ⟨rfl, rfl, rfl, by simp, fun q hq => by simp only; rw [Array.getElem?_setIfInBounds_ne (by omega)]⟩, by simp⟩
  · simp only [Instr.mapUpdate, Sem.run_bind, run_underlying Try.underlying72, Result.andThen_ok, hg, hc, hk, hs]
  · constructor
    · intro e he
      rw [Array.toList_push, List.mem_append] at he
      rcases he with he | he
      · obtain ⟨j, h2, h3⟩ := hE.all e he
        exact ⟨j, by simp [h2], h3⟩
      · rw [List.mem_singleton.1 he]
        exact ⟨k, by simp, rfl, rfl⟩
    · intro j hon
      rw [Array.toList_push]
      by_cases e : j = k
      · subst e
        exact ⟨{ key := .int .u8 (j : Int), val := formV (formS j), born := c }, by simp, rfl⟩
      · have : on j = true := by simpa [e] using hon
        obtain ⟨e', h1, h2⟩ := hE.has j this
        exact ⟨e', by simp [h1], h2⟩
theorem MapF.look {w : World} {b : Nat} {on : Nat → Bool} (h : MapF w b on) {k : Nat} (hon : on k = true) :
    (Instr.lookup 72 (.map (some b)) (.int .u8 (k : Int)) true).run Try.prog w = .ok (.tuple #[formV (formS k), .bool true]) w := by
  obtain ⟨es, c, hb, hE⟩ := h
  obtain ⟨q, hq⟩ := fkey_some hE hon w
  have hg : (getObj b).run Try.prog w = .ok (.map es c) w := by simp [getObj, Sem.run, hb]
  have hc := byte_check es.isEmpty k w
  simp only [Instr.lookup, Sem.run_bind, run_underlying Try.underlying72, Result.andThen_ok, hg, hc, hq, Sem.run_pure]
  rfl
theorem MapF.miss {w : World} {b : Nat} {on : Nat → Bool} (h : MapF w b on) {k : Nat} (hoff : on k = false) :
    (Instr.lookup 72 (.map (some b)) (.int .u8 (k : Int)) true).run Try.prog w = .ok (.tuple #[.agg #[.nilFunc, .int .i64 0, .int .i64 0, .nilFunc], .bool false]) w := by
  obtain ⟨es, c, hb, hE⟩ := h
  have hq := fkey_none hE hoff w
  have hg : (getObj b).run Try.prog w = .ok (.map es c) w := by simp [getObj, Sem.run, hb]
  have hc := byte_check es.isEmpty k w
  have hz : (zeroValue 78).run Try.prog w = .ok (.agg #[.nilFunc, .int .i64 0, .int .i64 0, .nilFunc]) w := by kernel_rfl
  simp only [Instr.lookup, Sem.run_bind, run_underlying Try.underlying72, Result.andThen_ok, hg, hc, hq, hz, Sem.run_pure]
  rfl
end Go.Proofs.Ytjfdokoigkdciaa

/- A map whose keys are pairs of bytes: put in, looked up; in plain steps of the model. -/
import Derived.Test.YtakailalhpkfdaaSam
import Derived.Laws.StructEq
import Derived.Orders
import Derived.MapKept
namespace Go.Proofs.Ytakailalhpkfdaa
open Go.RowKit

def pairV (a b : Int) : Value := .agg #[.int .u8 a, .int .u8 b]
theorem pair_eq (a b c d : Int) (w : World) : (Op.equal 51 (pairV a b) (pairV c d)).run Try.prog w = .ok (a == c && b == d) w := by
  obtain ⟨f0, f1, hu, t0, t1, o0, o1, n0, n1⟩ : ∃ f0 f1 : Field, Try.prog.underlying 51 = some (.struct #[f0, f1]) ∧ f0.type = 5 ∧ f1.type = 5 ∧ f0.offset = 0 ∧ f1.offset = 1 ∧ (f0.name ≠ "_") ∧ (f1.name ≠ "_") :=
    ⟨_, _, Try.underlying51, rfl, rfl, rfl, rfl, by decide, by decide⟩
  have hf : Try.prog.fieldsOf 51 = #[f0, f1] := by unfold Program.fieldsOf; rw [hu]
  have hu8 := Try.underlying5
  unfold Op.equal pairV
  show (Op.equalIn (9999 + 1) _ _ _).run _ _ = _
  rw [run_equalIn_struct w 9999 51 _ _ (by rw [hf]; exact hu) (by kernel_rfl), hf]
  simp [Op.eqFields, t0, t1, o0, o1, n0, n1, go_sem]
  by_cases h1 : a = c <;> by_cases h2 : b = d <;> simp [h1, h2]
theorem pair_check (e : Bool) (a b : Int) (w : World) : (Instr.checkKey e 10000 51 (pairV a b)).run Try.prog w = .ok () w := by
  kernel_rfl
/-- The table. -/
def kA : Nat → Int
  | 0 => 2 | 1 => 2 | 2 => 4 | 3 => 4 | 4 => 3 | _ => 5
def kB : Nat → Int
  | 0 => 2 | 1 => 4 | 2 => 2 | 3 => 4 | 4 => 3 | _ => 5
def kV : Nat → Int
  | 0 => 1 | 1 => 2 | 2 => 2 | 3 => 2 | 4 => 3 | _ => 4
def kK (j : Nat) : Value := pairV (kA j) (kB j)
theorem kK_inj : ∀ i j : Fin 6, (kA i.val == kA j.val && kB i.val == kB j.val) = decide (i.val = j.val) := by decide
/-- Entries of the table: just those of some numbers. -/
structure Ents (on : Nat → Bool) (es : Array MapEntry) : Prop where
  all : ∀ e, e ∈ es.toList → ∃ j, j < 6 ∧ on j = true ∧ e.key = kK j ∧ e.val = .int .i64 (kV j)
  has : ∀ j, j < 6 → on j = true → ∃ e, e ∈ es.toList ∧ e.key = kK j
theorem find_none (on : Nat → Bool) (i : Nat) (hi : i < 6) (hoff : on i = false) (w : World) : ∀ (es : List MapEntry) (n : Nat), (∀ e, e ∈ es → ∃ j, j < 6 ∧ on j = true ∧ e.key = kK j ∧ e.val = .int .i64 (kV j)) →
    (Instr.findAsking 51 (kK i) es n).run Try.prog w = .ok none w
  | [], n, _ => rfl
  | e :: es, n, h => by
    obtain ⟨j, hj, hon, hk, _⟩ := h e (by simp)
    have hij : i ≠ j := fun c => by rw [c, hon] at hoff; cases hoff
    have hq := pair_eq (kA i) (kB i) (kA j) (kB j) w
    have hf := kK_inj ⟨i, hi⟩ ⟨j, hj⟩
    simp only at hf
    rw [hf, decide_eq_false hij] at hq
    have ih := find_none on i hi hoff w es (n + 1) (fun e he => h e (by simp [he]))
    simp only [Instr.findAsking, Sem.run_bind, hk]
    show ((Op.equal 51 (pairV (kA i) (kB i)) (pairV (kA j) (kB j))).run Try.prog w).andThen _ = _
    rw [hq]
    exact ih
theorem find_some (on : Nat → Bool) (i : Nat) (hi : i < 6) (w : World) : ∀ (es : List MapEntry) (n : Nat), (∀ e, e ∈ es → ∃ j, j < 6 ∧ on j = true ∧ e.key = kK j ∧ e.val = .int .i64 (kV j)) → (∃ e, e ∈ es ∧ e.key = kK i) →
    ∃ q, (Instr.findAsking 51 (kK i) es n).run Try.prog w = .ok (some (q, .int .i64 (kV i))) w
  | [], n, _, he => by obtain ⟨e, h, _⟩ := he; exact absurd h (by simp)
  | e :: es, n, h, he => by
    obtain ⟨j, hj, hon, hk, hv⟩ := h e (by simp)
    have hq := pair_eq (kA i) (kB i) (kA j) (kB j) w
    have hf := kK_inj ⟨i, hi⟩ ⟨j, hj⟩
    simp only at hf
    rw [hf] at hq
    by_cases hij : i = j
    · subst hij
      rw [decide_eq_true rfl] at hq
      refine ⟨n, ?_⟩
      simp only [Instr.findAsking, Sem.run_bind, hk]
      show ((Op.equal 51 (pairV (kA i) (kB i)) (pairV (kA i) (kB i))).run Try.prog w).andThen _ = _
      rw [hq, hv]
      rfl
    · rw [decide_eq_false hij] at hq
      obtain ⟨e', he', hk'⟩ := he
      have hmem : e' ∈ es := by
        rcases List.mem_cons.1 he' with c | c
        · subst c
          rw [hk'] at hk
          have h1 : kA i = kA j := by unfold kK pairV at hk; simp at hk; exact hk.1
          have h2 : kB i = kB j := by unfold kK pairV at hk; simp at hk; exact hk.2
          rw [h1, h2] at hf
          simp at hf
          exact absurd hf hij
        · exact c
      obtain ⟨q, hr⟩ := find_some on i hi w es (n + 1) (fun e he => h e (by simp [he])) ⟨e', hmem, hk'⟩
      refine ⟨q, ?_⟩
      simp only [Instr.findAsking, Sem.run_bind, hk]
      show ((Op.equal 51 (pairV (kA i) (kB i)) (pairV (kA j) (kB j))).run Try.prog w).andThen _ = _
      rw [hq]
      exact hr
theorem pair_desc : ∃ fs, Try.prog.underlying 51 = some (.struct fs) := ⟨_, Try.underlying51⟩
theorem key_none {on : Nat → Bool} {es : Array MapEntry} (h : Ents on es) {i : Nat} (hi : i < 6) (hoff : on i = false) (w : World) : (Instr.findKey 51 (kK i) es.toList).run Try.prog w = .ok none w := by
  obtain ⟨fs, hd⟩ := pair_desc
  simp only [Instr.findKey, Sem.run_bind, run_underlying hd, Result.andThen_ok]
  cases he : es.toList with
  | nil => rfl
  | cons e l =>
    have := find_none on i hi hoff w (e :: l) 0 (by rw [← he]; exact h.all)
    exact this
theorem key_some {on : Nat → Bool} {es : Array MapEntry} (h : Ents on es) {i : Nat} (hi : i < 6) (hon : on i = true) (w : World) : ∃ q, (Instr.findKey 51 (kK i) es.toList).run Try.prog w = .ok (some (q, .int .i64 (kV i))) w := by
  obtain ⟨fs, hd⟩ := pair_desc
  simp only [Instr.findKey, Sem.run_bind, run_underlying hd, Result.andThen_ok]
  have hh := h.has i hi hon
  cases he : es.toList with
  | nil => rw [he] at hh; obtain ⟨e, h1, _⟩ := hh; exact absurd h1 (by simp)
  | cons e l =>
    obtain ⟨q, hr⟩ := find_some on i hi w (e :: l) 0 (by rw [← he]; exact h.all) (by rw [← he]; exact hh)
    exact ⟨q, hr⟩
def putW (w : World) (b : Nat) (es : Array MapEntry) (c : Nat) (i : Nat) : World := { w with heap := w.heap.setIfInBounds b (.map (es.push { key := kK i, val := .int .i64 (kV i), born := c }) (c + 1)) }
theorem put_run {on : Nat → Bool} {es : Array MapEntry} {c b : Nat} {w : World} (hb : w.heap[b]? = some (.map es c)) (h : Ents on es) {i : Nat} (hi : i < 6) (hoff : on i = false) :
    (Instr.mapUpdate 48 (.map (some b)) (kK i) (.int .i64 (kV i))).run Try.prog w = .ok () (putW w b es c i) := by
  have hg : (getObj b).run Try.prog w = .ok (.map es c) w := by simp [getObj, Sem.run, hb]
  have hc : (Instr.checkKey false 10000 51 (kK i)).run Try.prog w = .ok () w := pair_check false _ _ w
  have hk := key_none h hi hoff w
  have hs : ∀ o', (setObj b o').run Try.prog w = .ok () { w with heap := w.heap.setIfInBounds b o' } := fun o' => by simp [setObj, Sem.run, hb]
  simp only [Instr.mapUpdate, Sem.run_bind, run_underlying Try.underlying48, Result.andThen_ok, hg, hc, hk, hs]
  rfl
theorem put_ents {on : Nat → Bool} {es : Array MapEntry} {c i : Nat} (h : Ents on es) (hi : i < 6) : Ents (fun j => decide (j = i) || on j) (es.push { key := kK i, val := .int .i64 (kV i), born := c }) := by
  constructor
  · intro e he
    rw [Array.toList_push, List.mem_append] at he
    rcases he with he | he
    · obtain ⟨j, h1, h2, h3⟩ := h.all e he
      exact ⟨j, h1, by simp [h2], h3⟩
    · rw [List.mem_singleton.1 he]
      exact ⟨i, hi, by simp, rfl, rfl⟩
  · intro j hj hon
    rw [Array.toList_push]
    by_cases e : j = i
    · subst e
      exact ⟨{ key := kK j, val := .int .i64 (kV j), born := c }, by simp, rfl⟩
    · have : on j = true := by simpa [e] using hon
      obtain ⟨e', h1, h2⟩ := h.has j hj this
      exact ⟨e', by simp [h1], h2⟩
theorem look_run {on : Nat → Bool} {es : Array MapEntry} {c b : Nat} {w : World} (hb : w.heap[b]? = some (.map es c)) (h : Ents on es) {i : Nat} (hi : i < 6) (hon : on i = true) :
    (Instr.lookup 48 (.map (some b)) (kK i) false).run Try.prog w = .ok (.int .i64 (kV i)) w := by
  obtain ⟨q, hq⟩ := key_some h hi hon w
  have hg : (getObj b).run Try.prog w = .ok (.map es c) w := by simp [getObj, Sem.run, hb]
  have hc : (Instr.checkKey es.isEmpty 10000 51 (kK i)).run Try.prog w = .ok () w := pair_check _ _ _ w
  simp only [Instr.lookup, Sem.run_bind, run_underlying Try.underlying48, Result.andThen_ok, hg, hc, hq, Sem.run_pure]
  rfl
section
variable {P : Program} {ops : Array Oper} {Q : Exit → Act → World → Prop} {md : Region.Mode}
/-- A region in whatever order, by what is kept. -/
theorem wpAny_inv (I : Array Bool → Act → World → Prop) (hstep : ∀ listed a w i, I listed a w → i ∈ Region.ready md ops listed → wpOp P ops Q i (I (listed.setIfInBounds i true)) a w)
    (hend : ∀ listed a w, I listed a w → Region.ready md ops listed = [] → Q .normal a w) :
    ∀ (fuel : Nat) (listed : Array Bool) (a : Act) (w : World), I listed a w → listed.toList.count false ≤ fuel → wpAny P md ops Q fuel listed a w
  | 0, listed, a, w, hI, hc => by
    have hr : Region.ready md ops listed = [] := by
      cases hq : Region.ready md ops listed with
      | nil => rfl
      | cons x xs =>
        have hx : x ∈ Region.ready md ops listed := by rw [hq]; simp
        rw [mem_ready] at hx
        have h1 := hx.1
        have hlt : x < listed.size := by
          by_cases c : x < listed.size
          · exact c
          · simp [Array.getD, c] at h1
        have : false ∈ listed.toList := by
          have e : listed[x] = false := by simpa [Array.getD, hlt] using h1
          rw [← e]; exact Array.getElem_mem_toList ..
        have := List.count_pos_iff.2 this
        omega
    exact ⟨hr, hend listed a w hI hr⟩
  | fuel + 1, listed, a, w, hI, hc => by
    refine ⟨fun hr => hend listed a w hI hr, fun i hi => ?_⟩
    refine wpOp_mono (fun a' w' h => ?_) (hstep listed a w i hI hi)
    refine wpAny_inv I hstep hend fuel _ a' w' h ?_
    rw [mem_ready] at hi
    have h1 := hi.1
    have hlt : i < listed.size := by
      by_cases c : i < listed.size
      · exact c
      · simp [Array.getD, c] at h1
    have e : listed[i] = false := by simpa [Array.getD, hlt] using h1
    have hset : (listed.setIfInBounds i true).toList = listed.toList.set i true := by simp
    rw [hset, List.count_set (by simpa using hlt)]
    have e2 : listed.toList[i]'(by simpa using hlt) = false := by simpa using e
    have hpos : 0 < listed.toList.count false := List.count_pos_iff.2 (by rw [← e2]; exact List.getElem_mem _)
    rw [e2, if_pos (by decide), if_neg (by decide)]
    omega
end
end Go.Proofs.Ytakailalhpkfdaa

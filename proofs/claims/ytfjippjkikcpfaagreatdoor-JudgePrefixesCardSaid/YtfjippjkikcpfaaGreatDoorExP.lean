/- The executor: places, parts, maps. -/
import Derived.Test.YtfjippjkikcpfaaGreatDoorExO
namespace Go.Proofs.YtfjippjkikcpfaaGreatDoor
open Go
section
variable {P : Program} {G : Nat} {F : Nat → Option Obj} {W : World} {E : Env} {S S' : SW} {w : World}
theorem indexAt_ok {t : TypeId} {x x' i i' : Value} (hx : VR E x x') (hi : VR E i i') {v : Value} (h : indexAtS P t x i = some v) : ∃ v', (Instr.indexAt t x' i').run P w = .ok v' w ∧ VR E v v' := by
  unfold indexAtS at h
  split at h
  · rename_i el a len cap k n hd
    cases hi
    cases hx with | sl hc =>
    rename_i a' cap'
    split at h
    · rename_i z hz
      obtain ⟨j, hj, rfl⟩ := sizeT_some hz
      by_cases hlt : Nat.blt n len = true
      · rw [hlt] at h
        cases h
        have hlt' : n < len := Nat.le_of_ble_eq_true hlt
        refine ⟨.pointer (some (a'.add (n * j.size))), ?_, .ptr ((hc.2.2.1.resolve_left (by have := hc.2.1; omega)).add _)⟩
        simp [Instr.indexAt, asIntOf, run_underlying hd, run_size hj]
        intro hc'; omega
      · rw [Bool.eq_false_iff.2 hlt] at h; cases h
    · cases h
  · rename_i len el a k n hd
    cases hi
    cases hx with | ptr ha =>
    rename_i a'
    split at h
    · rename_i z hz
      obtain ⟨j, hj, rfl⟩ := sizeT_some hz
      by_cases hlt : Nat.blt n len = true
      · rw [hlt] at h
        cases h
        have hlt' : n < len := Nat.le_of_ble_eq_true hlt
        refine ⟨.pointer (some (a'.add (n * j.size))), ?_, .ptr (ha.add _)⟩
        simp [Instr.indexAt, asIntOf, run_underlying hd, run_size hj, Instr.sureAddr]
        intro hc'; omega
      · rw [Bool.eq_false_iff.2 hlt] at h; cases h
    · cases h
  · cases h
theorem fieldAt_ok {t : TypeId} {x x' : Value} (hx : VR E x x') {f : Nat} {v : Value} (h : fieldAtS P t x f = some v) : ∃ v', (Instr.fieldAt t x' f).run P w = .ok v' w ∧ VR E v v' := by
  unfold fieldAtS at h
  split at h
  · rename_i fs a hd
    cases hx with | ptr ha =>
    rename_i a'
    split at h
    · rename_i fd hfd
      split at h
      · rename_i z hz
        obtain ⟨j, hj, rfl⟩ := sizeT_some hz
        by_cases hz0 : Nat.beq j.size 0 = true
        · rw [hz0] at h; cases h
        · rw [Bool.eq_false_iff.2 hz0] at h
          cases h
          have hz1 : j.size ≠ 0 := fun hc => hz0 (by rw [hc]; rfl)
          have hfd' : fs[f]? = some fd := by simpa using hfd
          refine ⟨.pointer (some (a'.add fd.offset)), ?_, .ptr (ha.add _)⟩
          simp [Instr.fieldAt, run_underlying hd, hfd', Instr.sureAddr, fieldPlace, run_size hj, hz1]
      · cases h
    · cases h
  · cases h
theorem part_ok {t : TypeId} {cs : List Value} {arr : Array Value} (hc : VL E cs arr.toList) {off : Nat} {v : Value} (h : partS P t cs off = some v) : ∃ v', (part t arr off).run P w = .ok v' w ∧ VR E v v' := by
  unfold partS at h
  split at h
  · rename_i d i hd hi
    split at h
    · rename_i hag
      split at h
      · rename_i l hl
        rw [dropR_eq] at hl
        split at hl
        · cases hl
          split at h
          · rename_i r hr
            rw [takeR_eq] at hr
            split at hr
            · cases hr
              cases h
              refine ⟨.agg (arr.extract off (off + i.size)), by simp [part, run_agg hd, hag, run_size hi], .agg' ?_⟩
              have := (hc.drop off).take i.size
              simpa [Array.toList_extract, List.extract] using this
            · cases hr
          · cases h
        · cases hl
      · cases h
    · rename_i hag
      split at h
      · rename_i u l hl
        rw [dropR_eq] at hl
        split at hl
        · rename_i hle
          injection hl with hl
          cases h
          have hu : cs[off]? = some v := by
            have : (cs.drop off)[0]? = some v := by rw [hl]; rfl
            simpa using this
          obtain ⟨v', h1, h2⟩ := hc.get hu
          exact ⟨v', by simp [part, run_agg hd, hag, show arr[off]? = some v' by simpa using h1], h2⟩
        · cases hl
      · cases h
  · cases h
theorem field_ok {t : TypeId} {x x' : Value} (hx : VR E x x') {f : Nat} {v : Value} (h : fieldS P t x f = some v) : ∃ v', (Instr.field t x' f).run P w = .ok v' w ∧ VR E v v' := by
  unfold fieldS at h
  split at h
  · rename_i fs cs hd
    cases hx with | agg ha ha' =>
    rename_i arr
    split at h
    · rename_i fd hfd
      obtain ⟨v', h1, h2⟩ := part_ok (w := w) (P := P) (arr := arr) ⟨ha, ha'⟩ h
      have hfd' : fs[f]? = some fd := by simpa using hfd
      exact ⟨v', by simp [Instr.field, run_underlying hd, hfd', asAgg, h1], h2⟩
    · cases h
  · cases h
theorem index_ok {t : TypeId} {x x' i i' : Value} (hx : VR E x x') (hi : VR E i i') {v : Value} (h : indexS P t x i = some v) : ∃ v', (Instr.index t x' i').run P w = .ok v' w ∧ VR E v v' := by
  unfold indexS at h
  split at h
  · rename_i len el cs k n hd
    cases hi
    cases hx with | agg ha ha' =>
    rename_i arr
    split at h
    · rename_i z hz
      obtain ⟨j, hj, rfl⟩ := sizeT_some hz
      by_cases hlt : Nat.blt n len = true
      · rw [hlt] at h
        have hlt' : n < len := Nat.le_of_ble_eq_true hlt
        obtain ⟨v', h3, h4⟩ := part_ok (w := w) (P := P) (arr := arr) ⟨ha, ha'⟩ h
        exact ⟨v', by simp [Instr.index, asIntOf, run_underlying hd, run_size hj, h3]; intro hc'; omega, h4⟩
      · rw [Bool.eq_false_iff.2 hlt] at h; cases h
    · cases h
  · cases h
/-! ### Without looking at the world -/
theorem prun_ok {α : Type} {s : Sem α} {a : α} (h : prun P s = some (.ok a)) (w : World) : s.run P w = .ok a w := by
  induction s with
  | pure b => simp [prun] at h; subst h; rfl
  | program k ih => simp only [prun] at h; simp only [Sem.run]; exact ih _ h
  | mark m k ih => simp only [prun] at h; simp only [Sem.run]; exact ih h
  | halt x => cases x <;> simp [prun] at h
  | _ => simp [prun] at h
theorem prun_err {α : Type} {s : Sem α} {v : Value} (h : prun P s = some (.error v)) (w : World) : s.run P w = .halt (.panic v) w := by
  induction s with
  | pure b => simp [prun] at h
  | program k ih => simp only [prun] at h; simp only [Sem.run]; exact ih _ h
  | mark m k ih => simp only [prun] at h; simp only [Sem.run]; exact ih h
  | halt x => cases x <;> simp [prun] at h; subst h; rfl
  | _ => simp [prun] at h
/-! ### Maps -/
theorem natBeq_iff {a b : Nat} : Nat.beq a b = true ↔ a = b := ⟨Nat.eq_of_beq_eq_true, fun h => by rw [h]; exact Nat.beq_refl _⟩
theorem intEq_iff {a b : Int} : intEq a b = true ↔ a = b := by
  unfold intEq
  split
  · rw [natBeq_iff]
    exact ⟨fun h => by rw [h], fun h => by injection h⟩
  · rw [natBeq_iff]
    exact ⟨fun h => by rw [h], fun h => by injection h⟩
  · rename_i h1 h2
    refine ⟨fun h => (by cases h), fun h => ?_⟩
    subst h
    cases a with
    | ofNat m => exact (h1 m m rfl rfl).elim
    | negSucc m => exact (h2 m m rfl rfl).elim
theorem kindEq_iff {a b : IntKind} : kindEq a b = true ↔ a = b := by cases a <;> cases b <;> simp [kindEq]
theorem findI_ok {k : IntKind} {n : Int} {d : TypeDesc} (hd : isIntD d = true) : ∀ (es fs : List MapEntry) (i : Nat) (r : Option Nat), LR (MR E) es fs → findI k n es i = some r →
    Instr.findNow d (.int k n) fs i = some (match r with | some j => (fs[j - i]?).map fun f => (j, f.val) | none => none) ∧ (∀ j, r = some j → i ≤ j ∧ ∃ e f, es[j - i]? = some e ∧ fs[j - i]? = some f)
  | [], fs, i, r, hl, h => by
    rw [LR.inv_nil hl]
    cases (show some none = some r from h)
    exact ⟨by simp [Instr.findNow], fun j hj => by cases hj⟩
  | e :: es, fs, i, r, hl, h => by
    obtain ⟨f, gs, rfl, hef, hg⟩ := hl.inv_cons
    have h' : (Option.rec none (fun b => Bool.rec (findI k n es (i + 1)) (some (some i)) b) (isInt k n e.key) : Option (Option Nat)) = some r := h
    have hk := hef.key
    unfold isInt at h'
    split at h'
    · rename_i j m hkey
      rw [hkey] at hk
      by_cases hkk : kindEq k j = true
      · rw [hkk] at h'
        have hkj := kindEq_iff.1 hkk
        subst hkj
        generalize hfk : f.key = fk at hk
        cases hk
        have hsame : Instr.sameNow d (.int k n) f.key = some (n == m) := by
          rw [hfk]
          cases d <;> simp [isIntD] at hd
          simp [Instr.sameNow]
        by_cases hnm : intEq n m = true
        · simp only [hnm, cond_true] at h'
          cases (show some (some i) = some r from h')
          have hnm' := intEq_iff.1 hnm
          subst hnm'
          refine ⟨by simp [Instr.findNow, hsame], fun j hj => by cases hj; exact ⟨Nat.le_refl _, e, f, by simp, by simp⟩⟩
        · simp only [Bool.eq_false_iff.2 hnm, cond_true] at h'
          obtain ⟨h1, h2⟩ := findI_ok hd es gs (i + 1) r hg h'
          have hne : (n == m) = false := by rw [beq_eq_false_iff_ne]; exact fun hc => hnm (intEq_iff.2 hc)
          refine ⟨?_, fun j hj => ?_⟩
          · simp only [Instr.findNow, hsame, hne]
            rw [h1]
            cases r with
            | none => rfl
            | some j =>
              obtain ⟨hle, _⟩ := h2 j rfl
              show some (Option.map _ gs[j - (i + 1)]?) = some (Option.map _ (f :: gs)[j - i]?)
              rw [show j - i = (j - (i + 1)) + 1 by omega]
              simp
          · obtain ⟨hle, e', f', he', hf'⟩ := h2 j hj
            rw [show j - i = (j - (i + 1)) + 1 by omega]
            exact ⟨by omega, e', f', by simpa using he', by simpa using hf'⟩
      · rw [Bool.eq_false_iff.2 hkk] at h'
        cases (show none = some r from h')
    · cases (show none = some r from h')
/-- The same keys: found at the same place. -/
theorem findNow_keys {d : TypeDesc} {k : Value} : ∀ (es fs : List MapEntry) (i : Nat), es.map (·.key) = fs.map (·.key) →
    Instr.findNow d k fs i = (Instr.findNow d k (keysOnly es) i).map fun r => r.bind fun p => (fs[p.1 - i]?).map fun f => (p.1, f.val)
  | [], fs, i, h => by
    have : fs = [] := by simpa using h.symm
    subst this
    simp [Instr.findNow, keysOnly]
  | e :: es, fs, i, h => by
    cases fs with
    | nil => simp at h
    | cons f gs =>
      simp only [List.map_cons, List.cons.injEq] at h
      obtain ⟨h1, h2⟩ := h
      simp only [keysOnly, List.map_cons, Instr.findNow, ← h1]
      cases hs : Instr.sameNow d k e.key with
      | none => rfl
      | some b =>
        cases b with
        | true => simp
        | false =>
          simp only
          rw [findNow_keys es gs (i + 1) h2]
          show _ = Option.map _ (Instr.findNow d k (keysOnly es) (i + 1))
          cases hr : Instr.findNow d k (keysOnly es) (i + 1) with
          | none => rfl
          | some r =>
            cases r with
            | none => rfl
            | some p =>
              obtain ⟨j, u⟩ := p
              have hj : i + 1 ≤ j := findNow_ge (keysOnly es) (i + 1) j u hr
              simp only [Option.map_some, Option.bind_some]
              rw [show j - i = (j - (i + 1)) + 1 by omega]
              simp
where
  findNow_ge {d : TypeDesc} {k : Value} : ∀ (es : List MapEntry) (i j : Nat) (u : Value), Instr.findNow d k es i = some (some (j, u)) → i ≤ j
    | [], i, j, u, h => by simp [Instr.findNow] at h
    | e :: es, i, j, u, h => by
      simp only [Instr.findNow] at h
      split at h
      · cases h; exact Nat.le_refl _
      · have := findNow_ge es (i + 1) j u h; omega
      · cases h
theorem prun_bind {α β : Type} {s : Sem α} {f : α → Sem β} {r : Except Value β} (h : prun P (s >>= f) = some r) : (∃ a, prun P s = some (.ok a) ∧ prun P (f a) = some r) ∨ (∃ v, prun P s = some (.error v) ∧ r = .error v) := by
  change prun P (s.bind f) = some r at h
  induction s with
  | pure a => exact .inl ⟨a, rfl, h⟩
  | program k ih => exact ih _ h
  | mark m k ih => exact ih h
  | halt x => cases x <;> simp [Sem.bind, prun] at h; exact .inr ⟨_, rfl, h.symm⟩
  | _ => simp [Sem.bind, prun] at h
theorem prun_ok_bind {α β : Type} {s : Sem α} {f : α → Sem β} {a : α} (h : prun P s = some (.ok a)) : prun P (s >>= f) = prun P (f a) := by
  change prun P (s.bind f) = _
  induction s with
  | pure b => simp [prun] at h; subst h; rfl
  | program k ih => exact ih _ h
  | mark m k ih => exact ih h
  | halt x => cases x <;> simp [prun] at h
  | _ => simp [prun] at h
theorem findAsking_keys {kt : TypeId} {k : Value} : ∀ (es fs : List MapEntry) (i : Nat) (r : Option (Nat × Value)), es.map (·.key) = fs.map (·.key) → prun P (Instr.findAsking kt k (keysOnly es) i) = some (.ok r) →
    (Instr.findAsking kt k fs i).run P w = .ok (r.bind fun p => (fs[p.1 - i]?).map fun f => (p.1, f.val)) w ∧ ∀ p, r = some p → i ≤ p.1
  | [], fs, i, r, h, hp => by
    have : fs = [] := by simpa using h.symm
    subst this
    simp only [keysOnly, List.map_nil, Instr.findAsking] at hp ⊢
    cases (show some (Except.ok none) = some (Except.ok r) from hp)
    exact ⟨rfl, fun p hp => by cases hp⟩
  | e :: es, fs, i, r, h, hp => by
    cases fs with
    | nil => simp at h
    | cons f gs =>
      simp only [List.map_cons, List.cons.injEq] at h
      obtain ⟨h1, h2⟩ := h
      simp only [keysOnly, List.map_cons, Instr.findAsking] at hp ⊢
      rcases prun_bind hp with ⟨b, hb, hp'⟩ | ⟨v, _, hv⟩
      · have hrun := prun_ok hb w
        rw [h1] at hrun
        simp only [Sem.run_bind, hrun, Result.andThen_ok]
        cases b with
        | true =>
          simp only [if_true] at hp' ⊢
          cases (show some (Except.ok (some (i, Value.nilIface))) = some (Except.ok r) from hp')
          exact ⟨by simp, fun p hp => by cases hp; exact Nat.le_refl _⟩
        | false =>
          simp only [Bool.false_eq_true, if_false] at hp' ⊢
          obtain ⟨q1, q2⟩ := findAsking_keys es gs (i + 1) r h2 hp'
          refine ⟨?_, fun p hp => by have := q2 p hp; omega⟩
          rw [q1]
          congr 1
          cases r with
          | none => rfl
          | some p =>
            have := q2 p rfl
            simp only [Option.bind_some]
            rw [show p.1 - i = (p.1 - (i + 1)) + 1 by omega]
            simp
      · cases hv
end
end Go.Proofs.YtfjippjkikcpfaaGreatDoor

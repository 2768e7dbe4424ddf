/- The executor: operations on values and memory. -/
import Derived.Test.YtfjippjkikcpfaaGreatDoorExC
namespace Go.Proofs.YtfjippjkikcpfaaGreatDoor
open Go
section
variable {P : Program} {G : Nat} {F : Nat → Option Obj} {W : World} {E : Env} {S S' : SW} {w : World}
/-! ### Are they the same? -/
theorem sameP_ok (h : Sat G F W E S w) {a b a' b' : Addr} (ha : AR E a a') (hb : AR E b b') {z : Nat} {r : Bool} (hr : sameP S z a b = some r) : z ≠ 0 ∧ (sameAddr a' b').run P w = .ok r w := by
  unfold sameP at hr
  split at hr
  · rename_i cs t h1
    split at hr
    · rename_i ds u h2
      by_cases hz : Nat.beq z 0 = true
      · rw [hz] at hr; cases hr
      rw [Bool.eq_false_iff.2 hz] at hr
      cases hr
      refine ⟨fun hc => hz (by rw [hc]; rfl), ?_⟩
      obtain ⟨e, arr, fr, he, rfl, k1, k2, k3, k4, k5, _⟩ := h.row ha h1
      obtain ⟨f, arr', fr', hf, rfl, q1, q2, q3, q4, q5, _⟩ := h.row hb h2
      unfold sameAddr
      by_cases hbl : a.block = b.block
      · rw [hbl] at he
        rw [he] at hf; cases hf
        simp only [hbl, beq_self_eq_true, if_true, Sem.run_pure, Nat.beq_refl, Bool.true_and]
        congr 1
        by_cases ho : a.off = b.off
        · simp [ho]
        · have h3 : Nat.beq a.off b.off = false := by rw [Bool.eq_false_iff]; exact fun h => ho (Nat.eq_of_beq_eq_true h)
          rw [h3, beq_eq_false_iff_ne]
          intro hc
          injection hc with _ hc _
          omega
      · have hne : e.b ≠ f.b := fun hc => hbl (h.inj _ _ _ _ _ _ h1 h2 he hf hc)
        have h3 : Nat.beq a.block b.block = false := by rw [Bool.eq_false_iff]; exact fun h => hbl (Nat.eq_of_beq_eq_true h)
        have hfr := (k4 rfl).2.2
        have hfr' := (q4 rfl).2.2
        subst hfr
        subst hfr'
        have f1 : w.frozen? ⟨e.b, a.off + e.d, none⟩ = false := frozen_arr k1 (by simp)
        have f2 : w.frozen? ⟨e.b, arr.size, none⟩ = false := frozen_arr k1 (by simp)
        have g1 : w.frozen? ⟨f.b, b.off + f.d, none⟩ = false := frozen_arr q1 (by simp)
        have g2 : w.frozen? ⟨f.b, arr'.size, none⟩ = false := frozen_arr q1 (by simp)
        have s1 : w.shape? e.b = some (t, arr.size) := by simp [World.shape?, k1]
        have s2 : w.shape? f.b = some (u, arr'.size) := by simp [World.shape?, q1]
        simp [hne, h3, f1, f2, g1, g2, s1, s2, noView, viewAt, mayBeOne, stringish]
    · cases hr
  · cases hr
theorem eq_ok' (h : Sat G F W E S w) {t : TypeId} {x y x' y' : Value} (hx : VR E x x') (hy : VR E y y') {b : Bool} (he : eqS P S t x y = some b) (d : Nat) : (Op.equalIn (d + 1) t x' y').run P w = .ok b w := by
  unfold eqS at he
  split at he
  · rename_i hd; cases he; cases hx; cases hy; simp [Op.equalIn, run_underlying hd]
  · rename_i hd; cases he; cases hx; cases hy; simp [Op.equalIn, run_underlying hd]
  · rename_i el a c hd
    split at he
    · rename_i z hz
      cases hx with | ptr ha => cases hy with | ptr hb =>
      obtain ⟨hz0, hr⟩ := sameP_ok (P := P) h ha hb he
      obtain ⟨i, hi, rfl⟩ := sizeT_some hz
      simp [Op.equalIn, run_underlying hd, run_size hi, hz0, hr]
    · cases he
  · rename_i hd; cases he; cases hx; cases hy; simp [Op.equalIn, run_underlying hd]
  · rename_i hd; cases he; cases hx; cases hy; simp [Op.equalIn, run_underlying hd]
  · rename_i hd; cases he; cases hx; cases hy; simp [Op.equalIn, run_underlying hd]
  · rename_i hd; cases he; cases hx; cases hy; simp [Op.equalIn, run_underlying hd]
  · rename_i hd; cases he; cases hx; cases hy; simp [Op.equalIn, run_underlying hd]
  · rename_i hd; cases he; cases hx; cases hy; simp [Op.equalIn, run_underlying hd]
  · rename_i hd; cases he; cases hx; cases hy; simp [Op.equalIn, run_underlying hd]
  · rename_i hd; cases he; cases hx; cases hy; simp [Op.equalIn, run_underlying hd]
  · rename_i t1 v1 t2 v2 hd
    by_cases hc : Nat.beq t1 t2 = true
    · rw [hc] at he; cases he
    · rw [Bool.eq_false_iff.2 hc] at he
      cases he
      cases hx; cases hy
      have hne : t1 ≠ t2 := fun e => hc (by rw [e]; exact Nat.beq_refl _)
      simp [Op.equalIn, run_underlying hd, hne]
  · cases he
theorem eq_ok (h : Sat G F W E S w) {t : TypeId} {x y x' y' : Value} (hx : VR E x x') (hy : VR E y y') {b : Bool} (he : eqS P S t x y = some b) : (Op.equal t x' y').run P w = .ok b w :=
  eq_ok' h hx hy he 9999
/-! ### Slices -/
def OR (R : Value → Value → Prop) : Option Value → Option Value → Prop
  | none, none => True
  | some x, some y => R x y
  | _, _ => False
theorem run_bnd {d y n : Nat} {lo lo' : Option Value} (ho : OR (VR E) lo lo') (h : bndS d y lo = some n) (code : BoundsCode) :
    (match lo' with
      | some v => (Instr.sliceBound v y code).run P w
      | none => .ok d w) = .ok n w ∧ (lo = none → n = d) ∧ (∀ v, lo = some v → n ≤ y) := by
  cases lo with
  | none =>
    cases lo' with
    | none => simp only [bndS] at h; cases h; exact ⟨rfl, fun _ => rfl, fun _ h => by cases h⟩
    | some v => exact ho.elim
  | some x =>
    cases lo' with
    | none => exact ho.elim
    | some x' =>
      unfold bndS at h
      split at h
      · rename_i heq; cases heq
      · rename_i k m heq
        cases heq
        by_cases hle : Nat.ble m y = true
        · rw [hle] at h
          cases h
          have hle' := Nat.le_of_ble_eq_true hle
          cases (show VR E (.int k (.ofNat n)) x' from ho)
          refine ⟨?_, fun h => (by cases h), fun _ _ => hle'⟩
          have h2 : ((n : Int)) ≤ (y : Int) := by omega
          simp [Instr.sliceBound, asIntOf, h2]
        · rw [Bool.eq_false_iff.2 hle] at h; cases h
      · cases h
theorem slice_exact {E : Env} {a a' : Addr} {cap : Nat} {h l m : Nat} (hs : a.spot = none) (hor : cap = 0 ∨ AR E a a') (hcap : m < CAPX) (hm : m ≤ cap) (hh : h ≤ m) (hl : l ≤ h) (z : Nat) :
    VR E (.slice (some (bif Nat.beq m l then a else a.add (l * z))) (h - l) (m - l)) (.slice (some (if m = l then a' else a'.add (l * z))) (h - l) (m - l)) := by
  refine .sl ⟨?_, by omega, ?_, .inl ⟨by omega, rfl⟩⟩
  · by_cases hml : m = l
    · simp [hml, hs]
    · have : Nat.beq m l = false := by rw [Bool.eq_false_iff]; exact fun h => hml (Nat.eq_of_beq_eq_true h)
      rw [this]; exact Addr.add_spot hs _
  · by_cases hml : m = l
    · exact .inl (by omega)
    · have : Nat.beq m l = false := by rw [Bool.eq_false_iff]; exact fun h => hml (Nat.eq_of_beq_eq_true h)
      rw [this, if_neg hml]
      exact .inr ((hor.resolve_left (by omega)).add _)
theorem run_bnds (isSlice : Bool) {y d : Nat} {lo lo' hi hi' : Option Value} {h l : Nat} (hlo : OR (VR E) lo lo') (hhi : OR (VR E) hi hi') (h1 : bndS d y hi = some h) (h2 : bndS 0 h lo = some l) (hd : d ≤ y) :
    (Instr.sliceBounds isSlice d y lo' hi' none).run P w = .ok (l, h, y) w ∧ h ≤ y ∧ l ≤ h := by
  have hh : h ≤ y := by
    cases hi with
    | none => simp only [bndS] at h1; cases h1; exact hd
    | some v => exact (run_bnd (P := P) (w := w) hhi h1 .sliceAcap).2.2 v rfl
  have hl : l ≤ h := by
    cases lo with
    | none => simp only [bndS] at h2; cases h2; omega
    | some v => exact (run_bnd (P := P) (w := w) hlo h2 .sliceB).2.2 v rfl
  refine ⟨?_, hh, hl⟩
  have r1 := (run_bnd (P := P) (w := w) hhi h1 (if isSlice then .sliceAcap else .sliceAlen)).1
  have r2 := (run_bnd (P := P) (w := w) hlo h2 .sliceB).1
  unfold Instr.sliceBounds
  cases hi' with
  | none =>
    cases lo' with
    | none => simp only at r1 r2; cases r1; cases r2; simp
    | some u => simp only at r1 r2; cases r1; simp [r2]
  | some v =>
    cases lo' with
    | none => simp only at r1 r2; cases r2; simp [r1]
    | some u => simp only at r1 r2; simp [r1, r2]
theorem run_bnds3 {len y m : Nat} {k : IntKind} {lo lo' : Option Value} {hi hi' : Value} {h l : Nat} (hlo : OR (VR E) lo lo') (hhi : VR E hi hi') (hm : m ≤ y) (h1 : bndS 0 m (some hi) = some h) (h2 : bndS 0 h lo = some l) :
    (Instr.sliceBounds true len y lo' (some hi') (some (.int k (.ofNat m)))).run P w = .ok (l, h, m) w ∧ h ≤ m ∧ l ≤ h := by
  have q1 := run_bnd (P := P) (w := w) (lo := some hi) (lo' := some hi') hhi h1 .slice3B
  have hh := q1.2.2 hi rfl
  have hl : l ≤ h := by
    cases lo with
    | none => simp only [bndS] at h2; cases h2; omega
    | some v => exact (run_bnd (P := P) (w := w) hlo h2 .sliceB).2.2 v rfl
  refine ⟨?_, hh, hl⟩
  have r1 := q1.1
  have r2 := (run_bnd (P := P) (w := w) hlo h2 .slice3C).1
  have r0 : (Instr.sliceBound (.int k (m : Int)) y .slice3Acap).run P w = .ok m w := by
    have : ((m : Int)) ≤ (y : Int) := by omega
    simp [Instr.sliceBound, asIntOf, this]
  simp only at r1
  unfold Instr.sliceBounds
  cases lo' with
  | none => simp only at r2; cases r2; simp [r0, r1]
  | some u => simp only at r2; simp [r0, r1, r2]
theorem sl_cap {a : Addr} {len cap : Nat} {a' : Addr} {cap' : Nat} (hc : CR E a len cap a' cap') : cap < CAPX → cap' = cap := fun h => by
  rcases hc.2.2.2 with ⟨_, h⟩ | ⟨z, e, h1, _⟩
  · exact h
  · omega
theorem slE_ok {a a' : Addr} {len cap z : Nat} {lo lo' hi hi' : Option Value} (hlo : OR (VR E) lo lo') (hhi : OR (VR E) hi hi') {v : Value} (hs : a.spot = none) (hor : cap = 0 ∨ AR E a a') (hcap : cap < CAPX) (hlen : len ≤ cap) (h : slE z a len cap lo hi = some v) (b : Bool) :
    ∃ hh l, (Instr.sliceBounds b len cap lo' hi' none).run P w = .ok (l, hh, cap) w ∧ VR E v (.slice (some (if cap = l then a' else a'.add (l * z))) (hh - l) (cap - l)) := by
  unfold slE at h
  split at h
  · cases h
  · rename_i hh h1
    split at h
    · cases h
    · rename_i l h2
      cases h
      obtain ⟨hr, hle1, hle2⟩ := run_bnds (P := P) (w := w) b hlo hhi h1 h2 hlen
      exact ⟨hh, l, hr, slice_exact hs hor hcap (Nat.le_refl _) hle1 hle2 z⟩
theorem slice_ok {t : TypeId} {x x' : Value} (hx : VR E x x') {lo lo' hi hi' mx mx' : Option Value} (hlo : OR (VR E) lo lo') (hhi : OR (VR E) hi hi') (hmx : OR (VR E) mx mx') {v : Value} (h : sliceS P t x lo hi mx = some v) :
    ∃ v', (Instr.sliceAt t x' lo' hi' mx').run P w = .ok v' w ∧ VR E v v' := by
  unfold sliceS at h
  split at h
  · rename_i el a len cap hd
    cases hx with | sl hc =>
    rename_i a' cap'
    split at h
    · cases h
    · rename_i z hz
      obtain ⟨i, hsi, rfl⟩ := sizeT_some hz
      have hsat : (Instr.sliceAt t (.slice (some a') len cap') lo' hi' mx').run P w = (Instr.slice t (.slice (some a') len cap') lo' hi' mx').run P w := by
        simp [Instr.sliceAt, run_underlying hd]
      rw [hsat]
      have hlen := hc.2.1
      split at h
      · rename_i k m
        cases mx' with
        | none => exact hmx.elim
        | some mv =>
        cases (show VR E (.int k (.ofNat m)) mv from hmx)
        unfold sl3 at h
        by_cases hm : (Nat.ble m (bif Nat.ble CAPX cap then len else cap) && Nat.blt m CAPX) = true
        · rw [hm, cond_true] at h
          rw [Bool.and_eq_true] at hm
          have hm' := Nat.le_of_ble_eq_true hm.1
          have hmX : m < CAPX := Nat.le_of_ble_eq_true hm.2
          have hmc : m ≤ cap' := by
            by_cases hX : Nat.ble CAPX cap = true
            · rw [hX, cond_true] at hm'; omega
            · rw [Bool.eq_false_iff.2 hX, cond_false] at hm'
              have := sl_cap hc (by rw [Nat.ble_eq] at hX; omega)
              omega
          split at h
          · cases h
          · rename_i hiv
            cases hi' with
            | none => exact hhi.elim
            | some hiv' =>
            split at h
            · cases h
            · rename_i hh h1
              split at h
              · cases h
              · rename_i l h2
                cases h
                obtain ⟨hr, hle1, hle2⟩ := run_bnds3 (P := P) (w := w) (len := len) (k := k) hlo hhi hmc h1 h2
                exact ⟨_, by simp only [Instr.slice, Sem.run_bind, run_underlying hd, Result.andThen_ok, hr, run_size hsi, Option.map_some]; rfl, by
                  have := slice_exact (E := E) (a' := a') hc.1 hc.2.2.1 hmX hmc hle1 hle2 i.size
                  split <;> simp_all⟩
        · rw [Bool.eq_false_iff.2 hm] at h; cases h
      · cases h
      · cases mx' with
        | some _ => exact hmx.elim
        | none =>
        by_cases hX : Nat.ble CAPX cap = true
        · rw [hX, cond_true] at h
          unfold slX at h
          by_cases hz' : Nat.beq cap (CAPX + i.size) = true
          · rw [hz', cond_true] at h
            have hz'' := Nat.eq_of_beq_eq_true hz'
            split at h
            · cases h
            · rename_i hh h1
              split at h
              · cases h
              · rename_i l h2
                cases h
                have h1' : bndS len cap' hi = some hh := by
                  cases hi with
                  | none => exact h1
                  | some hv =>
                    unfold bndS at h1 ⊢
                    split at h1
                    · rename_i heq; cases heq
                    · rename_i k n heq
                      cases heq
                      by_cases hle : Nat.ble n len = true
                      · rw [hle] at h1
                        cases h1
                        have := Nat.le_of_ble_eq_true hle
                        rw [show Nat.ble hh cap' = true from by rw [Nat.ble_eq]; omega]
                        rfl
                      · rw [Bool.eq_false_iff.2 hle] at h1; cases h1
                    · cases h1
                obtain ⟨hr, hle1, hle2⟩ := run_bnds (P := P) (w := w) true hlo hhi h1' h2 hlen
                have hhl : hh ≤ len := by
                  cases hi with
                  | none => simp only [bndS] at h1; cases h1; omega
                  | some hv => exact (run_bnd (P := P) (w := w) hhi h1 .sliceAcap).2.2 hv rfl
                refine ⟨_, by simp only [Instr.slice, Sem.run_bind, run_underlying hd, Result.andThen_ok, hr, run_size hsi, Option.map_some]; rfl, ?_⟩
                obtain ⟨hs, _, hor, hcx⟩ := hc
                rcases hcx with ⟨hcx, _⟩ | ⟨z, e, hcz, he, heq⟩
                · omega
                have hzz : z = i.size := by omega
                subst hzz
                have hk : (a.add (l * i.size)).off + (cap' - l) * i.size = e.k := by
                  rw [Addr.add_off, ← heq, Nat.sub_mul, Nat.add_assoc]
                  congr 1
                  have : l * i.size ≤ cap' * i.size := Nat.mul_le_mul_right _ (by omega)
                  omega
                have hsome : (if cap' = l then some a' else some (a'.add (l * i.size))) = some (if cap' = l then a' else a'.add (l * i.size)) := by split <;> rfl
                have goal : VR E (.slice (some (a.add (l * i.size))) (hh - l) (CAPX + i.size)) (.slice (some (if cap' = l then a' else a'.add (l * i.size))) (hh - l) (cap' - l)) := by
                  refine .sl ⟨Addr.add_spot hs _, by omega, ?_, .inr ⟨i.size, e, rfl, by rw [Addr.add_block]; exact he, hk⟩⟩
                  by_cases hcl : cap' = l
                  · exact .inl (by omega)
                  · rw [if_neg hcl]
                    exact .inr ((hor.resolve_left (by omega)).add _)
                first | exact goal | (rw [hsome]; exact goal) | simpa [hsome] using goal
          · rw [Bool.eq_false_iff.2 hz'] at h; cases h
        · rw [Bool.eq_false_iff.2 hX, cond_false] at h
          have hcap : cap < CAPX := by rw [Nat.ble_eq] at hX; omega
          cases sl_cap hc hcap
          obtain ⟨hh, l, hr, hv⟩ := slE_ok (P := P) (w := w) hlo hhi hc.1 hc.2.2.1 hcap hlen h true
          refine ⟨_, by simp only [Instr.slice, Sem.run_bind, run_underlying hd, Result.andThen_ok, hr, run_size hsi, Option.map_some]; rfl, ?_⟩
          split <;> simp_all
  · rename_i n el a hd
    cases hx with | ptr ha =>
    rename_i a'
    split at h
    · cases h
    · rename_i z hz
      obtain ⟨i, hsi, rfl⟩ := sizeT_some hz
      split at h
      · cases h
      · cases mx' with
        | some _ => exact hmx.elim
        | none =>
        by_cases hX : Nat.ble CAPX n = true
        · rw [hX] at h; cases h
        · rw [Bool.eq_false_iff.2 hX, cond_false] at h
          have hcap : n < CAPX := by rw [Nat.ble_eq] at hX; omega
          obtain ⟨hh, l, hr, hv⟩ := slE_ok (P := P) (w := w) hlo hhi ha.1 (.inr ha) hcap (Nat.le_refl _) h false
          refine ⟨_, by simp only [Instr.sliceAt, Sem.run_bind, run_underlying hd, Result.andThen_ok, Instr.sureAddr, Sem.run_pure, hr, run_size hsi]; rfl, ?_⟩
          split <;> simp_all
  · cases h
end
end Go.Proofs.YtfjippjkikcpfaaGreatDoor

/- The executor: copies, lengths, conversions, calls, blocks laid. -/
import Derived.Test.YtfjippjkikcpfaaGreatDoorExR
import Derived.Laws.IdiomStrings
import Derived.Laws.BytesString
namespace Go.Proofs.YtfjippjkikcpfaaGreatDoor
open Go
section
variable {P : Program} {G : Nat} {F : Nat → Option Obj} {W : World} {E : Env} {S S' : SW} {w : World}
theorem first_ok (h : Sat G F W E S w) {z n : Nat} {x x' : Value} (hx : VR E x x') {l : Nat} (hl : lenS x = some l) (hn : n ≤ l) {news : List Value} (hs : srcS S z n x = some news) :
    ∃ news', VL E news news' ∧ (Builtin.firstCells z n x').run P w = .ok news'.toArray w := by
  unfold srcS at hs
  split at hs
  · rename_i k c
    cases hx
    by_cases h0 : Nat.beq n 0 = true
    · rw [h0, cond_true] at hs
      cases hs
      exact ⟨[], LR.nil, run_firstCells_none w z n k c⟩
    · rw [Bool.eq_false_iff.2 h0] at hs; cases hs
  · rename_i a k c
    cases hx with | sl hc =>
    rename_i a' c'
    simp only [lenS, Option.some.injEq] at hl
    subst hl
    by_cases h0 : Nat.beq (n * z) 0 = true
    · rw [h0, cond_true] at hs
      cases hs
      have h0' := Nat.eq_of_beq_eq_true h0
      exact ⟨[], LR.nil, by simp [Builtin.firstCells, h0', loadCells, loadCellsFrom]⟩
    · rw [Bool.eq_false_iff.2 h0, cond_false] at hs
      have h0' : n * z ≠ 0 := fun hc => h0 (by rw [hc]; rfl)
      have hl0 : 0 < n := Nat.pos_of_ne_zero fun hc => h0' (by rw [hc, Nat.zero_mul])
      obtain ⟨hn', l', hL, hcell⟩ := h.read (hc.2.2.1.resolve_left (by have := hc.2.1; omega)) hs
      exact ⟨l', hL, run_loadN hcell (hL.1.symm.trans hn')⟩
  · rename_i s
    cases hx
    by_cases h0 : (Nat.beq z 1 && Nat.beq n s.size) = true
    · rw [h0, cond_true] at hs
      cases hs
      rw [Bool.and_eq_true] at h0
      have h1 := Nat.eq_of_beq_eq_true h0.1
      have h2 := Nat.eq_of_beq_eq_true h0.2
      subst h1; subst h2
      exact ⟨byteCells s, LR.of_map fun b _ => .int _ _, firstCells_string s w⟩
    · rw [Bool.eq_false_iff.2 h0] at hs; cases hs
  · cases hs
theorem run_lenOf {x x' : Value} (hx : VR E x x') {l : Nat} (hl : lenS x = some l) (w : World) : (Builtin.lenOf x').run P w = .ok l w := by
  unfold lenS at hl
  split at hl
  · cases hl
    cases hx <;> rfl
  · cases hl
    cases hx; rfl
  · cases hl
theorem copy_ok (h : Sat G F W E S w) {ts : Array TypeId} {ty : TypeId} {d d' x x' v : Value} (hd : VR E d d') (hx : VR E x x') (hc : copyS P S ts.toList d x = some (v, S')) :
    ∃ v' w', (Builtin.copy_ ts ty #[d', x']).run P w = .ok v' w' ∧ VR E v v' ∧ Sat G F W E S' w' ∧ S'.n = S.n := by
  unfold copyS at hc
  split at hc
  · rename_i t tl hts
    have ht : ts[0]? = some t := by
      have : ts.toList[0]? = some t := by rw [hts]; rfl
      simpa using this
    split at hc
    · rename_i e b dl cp xl hu hxl
      split at hc
      · cases hc
      · rename_i z hz
        obtain ⟨i, hi, rfl⟩ := sizeT_some hz
        have hL := run_lenOf (P := P) hx hxl w
        split at hc
        · cases hc
        · rename_i hsrc
          cases hc
          obtain ⟨news', hn, hf⟩ := first_ok (P := P) h hx hxl (Nat.min_le_left _ _) hsrc
          have hnn := LR.inv_nil hn
          subst hnn
          refine ⟨.int .i64 (Nat.min xl dl : Nat), w, ?_, .int _ _, h, rfl⟩
          cases hd <;> simp [Builtin.copy_, ht, run_underlying hu, hL, run_size hi, hf, storeCells, goInt]
        · rename_i news hne hsrc
          obtain ⟨news', hn, hf⟩ := first_ok (P := P) h hx hxl (Nat.min_le_left _ _) hsrc
          split at hc
          · rename_i a
            split at hc
            · rename_i S1 hst
              cases hc
              cases hd with | sl hcr =>
              rename_i a' c'
              have hpos : 0 < Nat.min xl dl := by
                rcases Nat.eq_zero_or_pos (Nat.min xl dl) with h0 | h0
                · exfalso
                  rw [h0] at hsrc
                  unfold srcS at hsrc
                  split at hsrc
                  · cases hsrc; exact hne rfl
                  · simp only [Nat.zero_mul] at hsrc
                    cases (show some [] = some news from hsrc)
                    exact hne rfl
                  · rename_i s
                    by_cases hcond : (Nat.beq i.size 1 && Nat.beq 0 s.size) = true
                    · rw [hcond, cond_true] at hsrc
                      rw [Bool.and_eq_true] at hcond
                      have hs0 := Nat.eq_of_beq_eq_true hcond.2
                      have : s.data.toList = [] := List.eq_nil_of_length_eq_zero (by
                        rw [Array.length_toList]; exact hs0.symm)
                      rw [this] at hsrc
                      cases hsrc
                      exact hne rfl
                    · rw [Bool.eq_false_iff.2 hcond] at hsrc; cases hsrc
                  · cases hsrc
                · exact h0
              have hdl : 0 < dl := Nat.lt_of_lt_of_le hpos (Nat.min_le_right _ _)
              obtain ⟨w', hr, hs, hn'⟩ := h.write (hcr.2.2.1.resolve_left (by have := hcr.2.1; omega)) hn hst
              refine ⟨.int .i64 (Nat.min xl dl : Nat), w', ?_, .int _ _, hs, hn'⟩
              simp [Builtin.copy_, ht, run_underlying hu, hL, run_size hi, hf, hr P, goInt]
            · cases hc
          · cases hc
    · cases hc
  · cases hc
theorem len_ok (h : Sat G F W E S w) {ts : Array TypeId} {ty : TypeId} {x x' v : Value} (hx : VR E x x') (hl : lenBS P S ts.toList x = some v) : (Builtin.len_ ts ty #[x']).run P w = .ok v w ∧ VR E v v := by
  unfold lenBS at hl
  split at hl
  · rename_i t tl hts
    have ht : ts[0]? = some t := by
      have : ts.toList[0]? = some t := by rw [hts]; rfl
      simpa using this
    split at hl
    · rename_i e a n c hu
      cases hl
      refine ⟨?_, .int _ _⟩
      cases hx <;> simp [Builtin.len_, ht, run_underlying hu, goInt]
    · rename_i k e r hu
      split at hl
      · rename_i es c hg
        cases hl
        cases hx with | map he =>
        obtain ⟨e', arr, he', h1, hL⟩ := h.map hg
        rw [he] at he'; cases he'
        refine ⟨?_, .int _ _⟩
        have : es.length = arr.size := by simpa using hL.1
        simp [Builtin.len_, ht, run_underlying hu, run_getMap h1, goInt, this]
      · cases hl
    · rename_i a hu
      split at hl
      · rename_i n e hu2
        cases hl
        refine ⟨?_, .int _ _⟩
        simp [Builtin.len_, ht, run_underlying hu, run_underlying hu2, goInt]
      · cases hl
    · cases hl
  · cases hl
theorem cap_ok {ts : Array TypeId} {ty : TypeId} {x x' v : Value} (hx : VR E x x') (hl : capBS P ts.toList x = some v) : (Builtin.cap_ ts ty #[x']).run P w = .ok v w ∧ VR E v v := by
  unfold capBS at hl
  split at hl
  · rename_i t tl hts
    have ht : ts[0]? = some t := by
      have : ts.toList[0]? = some t := by rw [hts]; rfl
      simpa using this
    split at hl
    · rename_i e a n c hu
      by_cases hX : Nat.ble CAPX c = true
      · rw [hX] at hl; cases hl
      · rw [Bool.eq_false_iff.2 hX] at hl
        cases hl
        cases hx with | sl hc =>
        cases sl_cap hc (by rw [Nat.ble_eq] at hX; omega)
        refine ⟨?_, .int _ _⟩
        simp [Builtin.cap_, ht, run_underlying hu, goInt]
    · cases hl
  · cases hl
theorem clear_ok (h : Sat G F W E S w) {ts : Array TypeId} {t ty : TypeId} (ht : ts[0]? = some t) {x x' : Value} (hx : VR E x x') (hc : clearS P S t x = some S') :
    ∃ w', (Builtin.clear_ ts ty #[x']).run P w = .ok (.tuple #[]) w' ∧ Sat G F W E S' w' ∧ S'.n = S.n := by
  unfold clearS at hc
  split at hc
  · rename_i e a n c hu
    split at hc
    · rename_i z hz
      obtain ⟨i, v, hi, hv, rfl, hzz⟩ := zeroOf_some (E := E) hz
      cases hx with | sl hcr =>
      rename_i a' c'
      rcases Nat.eq_zero_or_pos n with h0 | h0
      · subst h0
        have : repL 0 v.cells.toList = [] := rfl
        rw [this] at hc
        cases (show some S = some S' from hc)
        exact ⟨w, by simp [Builtin.clear_, ht, run_underlying hu], h, rfl⟩
      · have hself : VL E (repL n v.cells.toList) (Builtin.zeroCells v.cells n).toList := by
          have : (Builtin.zeroCells v.cells n).toList = repL n v.cells.toList := zeros_eq v.cells n
          rw [this]
          refine ⟨rfl, fun k p q hp hq => ?_⟩
          rw [hp] at hq; cases hq
          have hlt := (List.getElem?_eq_some_iff.1 hp).1
          rw [repL_length] at hlt
          have hl0 : 0 < v.cells.toList.length := Nat.pos_of_ne_zero fun hc => by rw [hc] at hlt; omega
          rw [repL_get _ hl0 _ _ hlt] at hp
          exact hzz.2 _ _ _ hp hp
        obtain ⟨w', hr, hs, hn⟩ := h.write (hcr.2.2.1.resolve_left (by have := hcr.2.1; omega)) hself hc
        refine ⟨w', ?_, hs, hn⟩
        obtain ⟨m, rfl⟩ : ∃ m, n = m + 1 := ⟨n - 1, by omega⟩
        simp [Builtin.clear_, ht, run_underlying hu, run_zero hi hv, hr P]
    · cases hc
  · cases hc
theorem ints_ok : ∀ (l l' : List Value) (ns : List Int), intsOf l = some ns → VL E l l' → l' = ns.map (Value.int .u8)
  | [], l', ns, h, hl => by
    rw [LR.inv_nil hl]
    simp only [intsOf, Option.some.injEq] at h
    subst h; rfl
  | v :: l, l', ns, h, hl => by
    obtain ⟨v', m, rfl, hv, hm⟩ := hl.inv_cons
    unfold intsOf at h
    split at h
    · rename_i heq; cases heq
    · rename_i n l0 heq
      cases heq
      split at h
      · rename_i r hr
        cases h
        cases hv
        rw [ints_ok l m r hr hm]; rfl
      · cases h
    · cases h
theorem strOf_eq (ns : List Int) : ns.foldl (fun r n => r.push (UInt8.ofNat n.toNat)) ByteArray.empty = strOf ns := by
  have : ∀ (ns : List Int) (s : ByteArray), ns.foldl (fun r n => r.push (UInt8.ofNat n.toNat)) s = ⟨s.data ++ (ns.map fun n => UInt8.ofNat n.toNat).toArray⟩ := by
    intro ns
    induction ns with
    | nil => intro s; simp
    | cons n ns ih =>
      intro s
      rw [List.foldl_cons, ih]
      simp [ByteArray.push]
  rw [this]
  simp [strOf, ByteArray.empty, ByteArray.emptyWithCapacity]
  rfl
theorem isU8_some {e : TypeId} (h : isU8 P e = true) : P.underlying e = some (.int .u8) := by
  unfold isU8 at h
  split at h
  · assumption
  · cases h
theorem conv_ok (h : Sat G F W E S w) {src dst : TypeId} {x x' v : Value} (hx : VR E x x') (hc : convS P S src dst x = some (v, S')) :
    AppPost G F W E S S' v ((convert src dst x').run P w) := by
  unfold convS at hc
  split at hc
  · rename_i e a len cp hs hd
    by_cases hu : isU8 P e = true
    · rw [hu, cond_true] at hc
      have he := isU8_some hu
      split at hc
      · rename_i l hl
        split at hc
        · rename_i ns hns
          cases hc
          cases hx with | sl hcr =>
          rename_i a' c'
          obtain ⟨l', hL, hlen, hrun⟩ := head_ok (P := P) h (fun hne => hcr.2.2.1.resolve_left (by have := hcr.2.1; omega)) hl
          have hl' := ints_ok l l' ns hns hL
          subst hl'
          have hr := hrun w (fun _ => rfl)
          refine ⟨_, w, E, ?_, Ext.refl _ _, Nat.le_refl _, h, .string _⟩
          rw [run_convert_bytes_string w src dst e (some a') len c' hs he hd, run_bytesToString w a' len c' ns hr, strOf_eq]
        · cases hc
      · cases hc
    · rw [Bool.eq_false_iff.2 hu] at hc; cases hc
  · rename_i e s hs hd
    by_cases hu : isU8 P e = true
    · rw [hu, cond_true] at hc
      have he := isU8_some hu
      cases hc
      cases hx
      have hge := grownCap_ge w s.size 0 e
      have hsz : (bytesRow s (grownCap w s.size 0 e)).size = grownCap w s.size 0 e := by
        have : s.data.size = s.size := rfl
        simp only [bytesRow, Array.size_append, Array.size_map, Array.size_replicate, this]
        omega
      have hle : E.le (E.put S.n ⟨w.heap.size, 0, grownCap w s.size 0 e⟩) := Env.put_le (h.new _ (Nat.le_refl _)) _
      refine ⟨_, _, E.put S.n ⟨w.heap.size, 0, grownCap w s.size 0 e⟩, run_bytes_of_string w src dst e s hs hd he, Env.put_ext _ _ _, by rw [SW.new_n]; omega, h.drew.lay _ _ ⟨w.heap.size, 0, grownCap w s.size 0 e⟩ rfl ⟨bytesRow s (grownCap w s.size 0 e), ((bytesRow s (grownCap w s.size 0 e)).size, (bytesRow s (grownCap w s.size 0 e)).size + 1), ?_, by simp [hsz], ?_, fun hx => (by cases hx), fun o ho => by simp; omega, fun j v hj => ?_⟩, .sl ⟨rfl, hge, .inr ⟨rfl, _, Env.put_same _ _ _, by simp⟩, .inr ⟨1, _, rfl, Env.put_same _ _ _, by simp⟩⟩⟩
      · show (w.heap.push _)[w.heap.size]? = _
        simp
      · have : s.data.size = s.size := rfl
        simp [this]
        exact hge
      · have hlt := (List.getElem?_eq_some_iff.1 hj).1
        refine ⟨v, ?_, ?_⟩
        · simp only [Nat.zero_add, bytesRow]
          rw [Array.getElem?_append_left (by simpa using hlt)]
          simpa using hj
        · rw [List.getElem?_map] at hj
          cases hb : s.data.toList[j]? with
          | none => rw [hb] at hj; cases hj
          | some b => rw [hb] at hj; cases hj; exact .int _ _
    · rw [Bool.eq_false_iff.2 hu] at hc; cases hc
  · cases hc
end
end Go.Proofs.YtfjippjkikcpfaaGreatDoor

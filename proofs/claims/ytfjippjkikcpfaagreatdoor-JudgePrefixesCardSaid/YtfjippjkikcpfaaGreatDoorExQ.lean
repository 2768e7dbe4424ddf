/- The executor: maps turned; appends, copies. -/
import Derived.Test.YtfjippjkikcpfaaGreatDoorExM
namespace Go.Proofs.YtfjippjkikcpfaaGreatDoor
open Go
section
variable {P : Program} {G : Nat} {F : Nat → Option Obj} {W : World} {E : Env} {S S' : SW} {w : World}
theorem LR.modify {α β : Type} {R : α → β → Prop} {l : List α} {m : List β} (h : LR R l m) (i : Nat) (f : α → α) (g : β → β) (hR : ∀ x y, R x y → R (f x) (g y)) : LR R (l.modify i f) (m.modify i g) :=
  ⟨by simp [h.1], fun j x y hx hy => by
    rw [List.getElem?_modify] at hx hy
    cases hl : l[j]? with
    | none => rw [hl] at hx; cases hx
    | some a =>
      obtain ⟨b, hb, hab⟩ := h.get hl
      rw [hl] at hx; rw [hb] at hy
      simp at hx hy
      subst hx; subst hy
      by_cases hij : i = j
      · simp only [hij, if_true]; exact hR _ _ hab
      · simp only [hij, if_false]; exact hab⟩
theorem setMap_some {r c : Nat} {o : Option (List MapEntry)} (h : setMap S r c o = some S') : ∃ es, o = some es ∧ S' = S.set r (.map es c) := by
  unfold setMap at h
  split at h
  · cases h; exact ⟨_, rfl, rfl⟩
  · cases h
theorem modR_some {α : Type} {f : α → α} {n : Nat} {l m : List α} (h : modR f n l = some m) : n < l.length ∧ m = l.modify n f := by
  rw [modR_eq] at h
  split at h
  · cases h; exact ⟨by assumption, rfl⟩
  · cases h
theorem same_key {e f : MapEntry} (h : MR E e f) {k : Value} (hb : (plainV PD e.key && Instr.sameBits 10000 e.key k) = true) : f.key = e.key ∧ Instr.sameBits 10000 e.key k = true := by
  rw [Bool.and_eq_true] at hb
  exact ⟨plain_eq _ _ _ hb.1 h.key, hb.2⟩
theorem run_stays {old k : Value} (h : Instr.sameBits 10000 old k = true) (w : World) : (Instr.keyThatStays old k).run P w = .ok k w := by
  unfold Instr.keyThatStays
  rw [if_pos h]
  rfl
theorem mapPut_ok (h : Sat G F W E S w) {t : TypeId} {x x' k k' v v' : Value} (hx : VR E x x') (hk : VR E k k') (hv : VR E v v') (hp : mapPutS P S t x k v = some S') :
    ∃ w', (Instr.mapUpdate t x' k' v').run P w = .ok () w' ∧ Sat G F W E S' w' ∧ S'.n = S.n := by
  unfold mapPutS at hp
  split at hp
  · rename_i kt et r hd
    cases hx with | map he =>
    split at hp
    · rename_i es c hg
      obtain ⟨e, arr, he', h1, hL⟩ := h.map hg
      rw [he] at he'; cases he'
      split at hp
      · rename_i i hf
        obtain ⟨rfl, _, hc, hfk, hin⟩ := findS_ok (P := P) hk hL hf
        obtain ⟨e0, f0, he0, hf0⟩ := hin i rfl
        rw [he0] at hp
        simp only at hp
        by_cases hb : (plainV PD e0.key && Instr.sameBits 10000 e0.key k') = true
        · rw [hb, cond_true] at hp
          obtain ⟨es', hm, rfl⟩ := setMap_some hp
          obtain ⟨hlt, rfl⟩ := modR_some hm
          have hef := hL.2 i e0 f0 he0 hf0
          obtain ⟨hkey, hsb⟩ := same_key hef hb
          have hfk' := hfk w
          simp only [hit, hf0, Option.map_some] at hfk'
          have hf0' : arr[i]? = some f0 := by simpa using hf0
          obtain ⟨w', hr, hs⟩ := h.putMap hg he h1 (arr' := arr.modify i fun f => { f with key := k', val := v' }) (es' := es.modify i fun e => ⟨k', v, e.born⟩) (by
            rw [Array.toList_modify]
            exact hL.modify i _ _ fun a b hab => ⟨hk, hv, hab.born⟩) c
          refine ⟨w', ?_, hs, SW.set_n _ _ _⟩
          unfold Instr.mapUpdate
          simp only [Sem.run_bind, run_underlying hd, Result.andThen_ok, run_getMap h1, hc w, hfk', hf0', Option.map_some, Option.getD_some, hkey, run_stays hsb, hr P]
        · rw [Bool.eq_false_iff.2 hb] at hp; cases hp
      · rename_i hf
        obtain ⟨rfl, _, hc, hfk, _⟩ := findS_ok (P := P) hk hL hf
        obtain ⟨es', hm, rfl⟩ := setMap_some hp
        rw [snocR_eq] at hm
        cases hm
        have hfk' := hfk w
        simp only [hit] at hfk'
        obtain ⟨w', hr, hs⟩ := h.putMap hg he h1 (arr' := arr.push { key := k', val := v', born := c }) (es' := es ++ [{ key := k', val := v, born := c }]) (by
            rw [Array.toList_push]
            exact hL.append (LR.cons ⟨hk, hv, rfl⟩ LR.nil)) (c + 1)
        refine ⟨w', ?_, hs, SW.set_n _ _ _⟩
        unfold Instr.mapUpdate
        simp only [Sem.run_bind, run_underlying hd, Result.andThen_ok, run_getMap h1, hc w, hfk', hr P]
      · cases hp
    · cases hp
  · cases hp
theorem mapEntry_ok (h : Sat G F W E S w) {t : TypeId} {x x' k k' v : Value} (hx : VR E x x') (hk : VR E k k') (hp : mapEntryS P S t x k = some (v, S')) :
    ∃ w' v', (Instr.mapEntry t x' k').run P w = .ok v' w' ∧ VR E v v' ∧ Sat G F W E S' w' ∧ S'.n = S.n := by
  unfold mapEntryS at hp
  split at hp
  · rename_i kt et r hd
    cases hx with | map he =>
    split at hp
    · rename_i es c hg
      obtain ⟨e, arr, he', h1, hL⟩ := h.map hg
      rw [he] at he'; cases he'
      split at hp
      · rename_i i hf
        obtain ⟨rfl, _, hc, hfk, hin⟩ := findS_ok (P := P) hk hL hf
        obtain ⟨e0, f0, he0, hf0⟩ := hin i rfl
        rw [he0] at hp
        simp only at hp
        by_cases hb : (plainV PD e0.key && Instr.sameBits 10000 e0.key k') = true
        · rw [hb, cond_true] at hp
          unfold tupS at hp
          split at hp
          · rename_i S1 hm1
            cases hp
            obtain ⟨es', hm, rfl⟩ := setMap_some hm1
            obtain ⟨hlt, rfl⟩ := modR_some hm
            have hef := hL.2 i e0 f0 he0 hf0
            obtain ⟨hkey, hsb⟩ := same_key hef hb
            have hfk' := hfk w
            simp only [hit, hf0, Option.map_some] at hfk'
            have hf0' : arr[i]? = some f0 := by simpa using hf0
            obtain ⟨w', hr, hs⟩ := h.putMap hg he h1 (arr' := arr.modify i fun f => { f with key := k' }) (es' := es.modify i fun e => ⟨k', e.val, e.born⟩) (by
              rw [Array.toList_modify]
              exact hL.modify i _ _ fun a b hab => ⟨hk, hab.val, hab.born⟩) c
            refine ⟨w', .tuple #[f0.val, .int .i64 f0.born], ?_, .tuple' (LR.cons hef.val (LR.cons (by rw [hef.born]; exact .int _ _) LR.nil)), hs, SW.set_n _ _ _⟩
            unfold Instr.mapEntry
            simp only [Sem.run_bind, run_underlying hd, Result.andThen_ok, run_getMap h1, hc w, hfk', hf0', Option.map_some, Option.getD_some, hkey, run_stays hsb, hr P, Sem.run_pure, goInt]
          · cases hp
        · rw [Bool.eq_false_iff.2 hb] at hp; cases hp
      · rename_i hf
        obtain ⟨rfl, _, hc, hfk, _⟩ := findS_ok (P := P) hk hL hf
        split at hp
        · rename_i z hz
          obtain ⟨hz1, hz2⟩ := zeroP_some (E := E) hz
          unfold tupS at hp
          split at hp
          · rename_i S1 hm1
            cases hp
            obtain ⟨es', hm, rfl⟩ := setMap_some hm1
            rw [snocR_eq] at hm
            cases hm
            have hfk' := hfk w
            simp only [hit] at hfk'
            obtain ⟨w', hr, hs⟩ := h.putMap hg he h1 (arr' := arr.push { key := k', val := z, born := c }) (es' := es ++ [{ key := k', val := z, born := c }]) (by
                rw [Array.toList_push]
                exact hL.append (LR.cons ⟨hk, hz2, rfl⟩ LR.nil)) (c + 1)
            refine ⟨w', .tuple #[z, .int .i64 c], ?_, .tuple' (LR.cons hz2 (LR.cons (.int _ _) LR.nil)), hs, SW.set_n _ _ _⟩
            unfold Instr.mapEntry
            simp only [Sem.run_bind, run_underlying hd, Result.andThen_ok, run_getMap h1, hc w, hfk', hz1, hr P, Sem.run_pure, goInt]
          · cases hp
        · cases hp
      · cases hp
    · cases hp
  · cases hp
theorem entryPut_ok (h : Sat G F W E S w) {t : TypeId} {x x' k k' v v' : Value} (hx : VR E x x') (hk : VR E k k') (hv : VR E v v') (hp : entryPutS S x k v = some S') :
    ∃ w', (Instr.entryStore t x' k' v').run P w = .ok () w' ∧ Sat G F W E S' w' ∧ S'.n = S.n := by
  unfold entryPutS at hp
  split at hp
  · rename_i r ik n
    cases hx with | map he =>
    cases hk
    split at hp
    · rename_i es c hg
      obtain ⟨e, arr, he', h1, hL⟩ := h.map hg
      rw [he] at he'; cases he'
      split at hp
      · rename_i i hf
        obtain ⟨es', hm, rfl⟩ := setMap_some hp
        obtain ⟨hlt, rfl⟩ := modR_some hm
        have hfi : arr.findIdx? (fun e => (e.born : Int) == n) = some i := by
          rw [show arr = arr.toList.toArray by simp, List.findIdx?_toArray]
          rw [List.findIdx?_eq_some_iff_getElem] at hf ⊢
          obtain ⟨hi, hp1, hp2⟩ := hf
          have hl := hL.1
          have born : ∀ (j : Nat) (hj : j < es.length) (hj' : j < arr.toList.length), (arr.toList[j]).born = (es[j]).born := fun j hj hj' =>
            (hL.2 j _ _ (List.getElem?_eq_getElem hj) (List.getElem?_eq_getElem hj')).born
          refine ⟨by omega, ?_, fun j hj => ?_⟩
          · rw [born i hi]; exact hp1
          · rw [born j (by omega)]; exact hp2 j hj
        obtain ⟨w', hr, hs⟩ := h.putMap hg he h1 (arr' := arr.modify i fun f => { f with val := v' }) (es' := es.modify i fun e => ⟨e.key, v, e.born⟩) (by
            rw [Array.toList_modify]
            exact hL.modify i _ _ fun a b hab => ⟨hab.key, hv, hab.born⟩) c
        refine ⟨w', ?_, hs, SW.set_n _ _ _⟩
        unfold Instr.entryStore
        simp only [Sem.run_bind, Result.andThen_ok, run_getMap h1, asInt, asIntOf, Sem.run_pure, hfi, hr P]
      · cases hp
    · cases hp
  · cases hp
theorem LR.eraseIdx {α β : Type} {R : α → β → Prop} {l : List α} {m : List β} (h : LR R l m) (i : Nat) : LR R (l.eraseIdx i) (m.eraseIdx i) := by
  rw [List.eraseIdx_eq_take_drop_succ, List.eraseIdx_eq_take_drop_succ]
  exact (h.take i).append (h.drop (i + 1))
theorem run_setSame {b c : Nat} {arr : Array MapEntry} (h1 : w.heap[b]? = some (.map arr c)) : (setObj b (.map arr c)).run P w = .ok () w := by
  have hlt : b < w.heap.size := (Array.getElem?_eq_some_iff.1 h1).1
  have hh : w.heap.setIfInBounds b (.map arr c) = w.heap := by
    apply Array.ext_getElem?
    intro k
    by_cases hk : k = b
    · subst hk
      rw [h1]
      simp [hlt]
    · rw [Array.getElem?_setIfInBounds_ne (Ne.symm hk)]
  simp only [setObj, Sem.run, h1, hh]
theorem del_ok (h : Sat G F W E S w) {ts : Array TypeId} {t ty : TypeId} (ht : ts[0]? = some t) {x x' k k' : Value} (hx : VR E x x') (hk : VR E k k') (hp : delS P S t x k = some S') :
    ∃ w', (Builtin.delete_ ts ty #[x', k']).run P w = .ok (.tuple #[]) w' ∧ Sat G F W E S' w' ∧ S'.n = S.n := by
  unfold delS at hp
  split at hp
  · rename_i kt et r hd
    cases hx with | map he =>
    split at hp
    · rename_i es c hg
      obtain ⟨e, arr, he', h1, hL⟩ := h.map hg
      rw [he] at he'; cases he'
      split at hp
      · rename_i i hf
        obtain ⟨rfl, hc, _, hfk, hin⟩ := findS_ok (P := P) hk hL hf
        obtain ⟨e0, f0, he0, hf0⟩ := hin i rfl
        obtain ⟨es', hm, rfl⟩ := setMap_some hp
        rw [delR_eq] at hm
        split at hm
        · rename_i hlt
          cases hm
          have hfk' := hfk w
          simp only [hit, hf0, Option.map_some] at hfk'
          have hc' := hc w
          rw [Array.isEmpty_toList] at hc'
          have hl : es.length = arr.size := by simpa using hL.1
          obtain ⟨w', hr, hs⟩ := h.putMap hg he h1 (arr' := arr.eraseIdxIfInBounds i) (es' := es.eraseIdx i) (by
            have : i < arr.size := by omega
            simp only [Array.eraseIdxIfInBounds, this, dif_pos, Array.toList_eraseIdx]
            exact hL.eraseIdx i) c
          refine ⟨w', ?_, hs, SW.set_n _ _ _⟩
          unfold Builtin.delete_
          simp only [ht, List.getElem?_toArray, List.getElem?_cons_zero, List.getElem?_cons_succ, Sem.run_bind, run_underlying hd, Result.andThen_ok, run_getMap h1, hc', hfk', hr P, Sem.run_pure]
        · cases hm
      · rename_i hf
        cases hp
        obtain ⟨rfl, hc, _, hfk, _⟩ := findS_ok (P := P) hk hL hf
        have hfk' := hfk w
        simp only [hit] at hfk'
        have hc' := hc w
        rw [Array.isEmpty_toList] at hc'
        have hself := run_setSame (P := P) h1
        refine ⟨w, ?_, h, rfl⟩
        unfold Builtin.delete_
        simp only [ht, List.getElem?_toArray, List.getElem?_cons_zero, List.getElem?_cons_succ, Sem.run_bind, run_underlying hd, Result.andThen_ok, run_getMap h1, hc', hfk', hself, Sem.run_pure]
      · cases hp
    · cases hp
  · cases hp
end
end Go.Proofs.YtfjippjkikcpfaaGreatDoor

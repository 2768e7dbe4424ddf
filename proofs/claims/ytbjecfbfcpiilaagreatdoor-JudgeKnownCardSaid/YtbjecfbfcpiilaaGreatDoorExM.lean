/- The executor: maps. The executor: maps turned; appends, copies. -/
import Derived.Test.YtbjecfbfcpiilaaGreatDoorExC
namespace Go.Proofs.YtbjecfbfcpiilaaGreatDoor
open Go
section
variable {P : Program} {G : Nat} {F : Nat → Option Obj} {W : World} {E : Env} {S S' : SW} {w : World}
def hit (fs : List MapEntry) : Option Nat → Option (Nat × Value)
  | some j => (fs[j]?).map fun f => (j, f.val)
  | none => none
theorem check_int (b : Bool) {kt : TypeId} {j : IntKind} (hd : P.underlying kt = some (.int j)) (i : IntKind) (n : Int) (d : Nat) (w : World) : (Instr.checkKey b (d + 1) kt (.int i n)).run P w = .ok () w := by
  simp [Instr.checkKey, run_underlying hd]
theorem now_lt {d : TypeDesc} {k : Value} : ∀ (es : List MapEntry) (i j : Nat) (u : Value), Instr.findNow d k (keysOnly es) i = some (some (j, u)) → j - i < es.length
  | [], i, j, u, h => by simp [Instr.findNow, keysOnly] at h
  | e :: es, i, j, u, h => by
    simp only [keysOnly, List.map_cons, Instr.findNow] at h
    split at h
    · cases h; simp
    · have := now_lt es (i + 1) j u h
      simp only [List.length_cons]
      omega
    · cases h
theorem asking_lt {kt : TypeId} {k : Value} : ∀ (es : List MapEntry) (i j : Nat) (u : Value), prun P (Instr.findAsking kt k (keysOnly es) i) = some (.ok (some (j, u))) → j - i < es.length
  | [], i, j, u, h => by
    simp only [keysOnly, List.map_nil, Instr.findAsking] at h
    cases (show some (Except.ok none) = some (Except.ok (some (j, u))) from h)
  | e :: es, i, j, u, h => by
    simp only [keysOnly, List.map_cons, Instr.findAsking] at h
    rcases prun_bind h with ⟨b, hb, hp'⟩ | ⟨v, _, hv⟩
    · cases b with
      | true =>
        simp only [if_true] at hp'
        cases (show some (Except.ok (some (i, Value.nilIface))) = some (Except.ok (some (j, u))) from hp')
        simp
      | false =>
        simp only [Bool.false_eq_true, if_false] at hp'
        have := asking_lt es (i + 1) j u hp'
        simp only [List.length_cons]
        omega
    · cases hv
theorem findG_ok {kt : TypeId} {k k' : Value} (hk : VR E k k') {es fs : List MapEntry} (hes : LR (MR E) es fs) {r : Option Nat} (h : findG P kt k es = some r) :
    k' = k ∧ (∀ w, (Instr.checkKey fs.isEmpty 10000 kt k').run P w = .ok () w) ∧ (∀ w, (Instr.checkKey false 10000 kt k').run P w = .ok () w) ∧ (∀ w, (Instr.findKey kt k' fs).run P w = .ok (hit fs r) w) ∧
      (∀ j, r = some j → ∃ e f, es[j]? = some e ∧ fs[j]? = some f) := by
  unfold findG at h
  by_cases hp : (plainV PD k && allL (fun e => plainV PD e.key) es) = true
  · rw [hp, cond_true] at h
    rw [Bool.and_eq_true] at hp
    have hkk : k' = k := plain_eq _ _ _ hp.1 hk
    subst hkk
    have hkeys : es.map (·.key) = fs.map (·.key) := by
      apply List.ext_getElem?
      intro i
      rw [List.getElem?_map, List.getElem?_map]
      cases h1 : es[i]? with
      | none =>
        have : fs[i]? = none := by rw [List.getElem?_eq_none_iff] at h1 ⊢; have := hes.1; omega
        rw [this]
      | some e =>
        obtain ⟨f, hf, hr⟩ := hes.get h1
        rw [hf]
        have := plain_eq _ _ _ ((allL_iff _ _).1 hp.2 e (List.mem_of_getElem? h1)) hr.key
        simp [this]
    have hemp : fs.isEmpty = es.isEmpty := by
      have := hes.1
      cases es <;> cases fs <;> simp_all
    split at h
    · rename_i u1 u2 hc1 hc2
      cases u1; cases u2
      have key : ∀ (q : Option (Nat × Value)), prun P (Instr.findKey kt k' (keysOnly es)) = some (.ok q) → (∀ w, (Instr.findKey kt k' fs).run P w = .ok (hit fs (q.map (·.1))) w) := by
        intro q hq w
        unfold Instr.findKey at hq ⊢
        rcases prun_bind hq with ⟨d, hd, hq'⟩ | ⟨v, _, hv⟩
        · rw [Sem.run_bind, prun_ok hd w, Result.andThen_ok]
          have h1 := findNow_keys (d := d) (k := k') es fs 0 hkeys
          cases hn : Instr.findNow d k' (keysOnly es) 0 with
          | some q0 =>
            rw [hn] at hq' h1
            rw [h1]
            simp only at hq' ⊢
            cases (show some (Except.ok q0) = some (Except.ok q) from hq')
            simp only [Option.map_some, Sem.run_pure]
            congr 1
            cases q <;> rfl
          | none =>
            rw [hn] at hq' h1
            rw [h1]
            simp only [Option.map_none] at hq' ⊢
            have := (findAsking_keys (w := w) es fs 0 q hkeys hq').1
            rw [this]
            congr 1
            cases q <;> rfl
        · cases hv
      refine ⟨rfl, fun w => by rw [hemp]; exact prun_ok hc1 w, fun w => prun_ok hc2 w, ?_, ?_⟩
      · split at h
        · rename_i i u hq
          cases h
          exact key _ hq
        · rename_i hq
          cases h
          exact key _ hq
        · cases h
      · intro j hj
        subst hj
        split at h
        · rename_i i u hq
          cases h
          have hlt : j < es.length := by
            unfold Instr.findKey at hq
            rcases prun_bind hq with ⟨d, hd, hq'⟩ | ⟨v, _, hv⟩
            · cases hn : Instr.findNow d k' (keysOnly es) 0 with
              | some q0 =>
                rw [hn] at hq'
                cases (show some (Except.ok q0) = some (Except.ok (some (j, u))) from hq')
                exact now_lt _ _ _ _ hn
              | none =>
                rw [hn] at hq'
                exact asking_lt es 0 j u hq'
            · cases hv
          have h1 : es[j]? = some (es[j]'hlt) := List.getElem?_eq_getElem _
          obtain ⟨f, hf, _⟩ := hes.get h1
          exact ⟨_, f, h1, hf⟩
        · cases h
        · cases h
    · cases h
  · rw [Bool.eq_false_iff.2 hp] at h; cases h
theorem findS_ok {kt : TypeId} {k k' : Value} (hk : VR E k k') {es fs : List MapEntry} (hes : LR (MR E) es fs) {r : Option Nat} (h : findS P kt k es = some r) :
    k' = k ∧ (∀ w, (Instr.checkKey fs.isEmpty 10000 kt k').run P w = .ok () w) ∧ (∀ w, (Instr.checkKey false 10000 kt k').run P w = .ok () w) ∧ (∀ w, (Instr.findKey kt k' fs).run P w = .ok (hit fs r) w) ∧
      (∀ j, r = some j → ∃ e f, es[j]? = some e ∧ fs[j]? = some f) := by
  unfold findS at h
  split at h
  · rename_i j i n hd
    cases hk
    obtain ⟨h1, h2⟩ := findI_ok (d := .int j) rfl es fs 0 r hes h
    refine ⟨rfl, fun w => check_int _ hd i n 9999 w, fun w => check_int _ hd i n 9999 w, fun w => ?_, fun q hq => ?_⟩
    · simp only [Instr.findKey, Sem.run_bind, run_underlying hd, Result.andThen_ok, h1, Sem.run_pure]
      cases r <;> rfl
    · obtain ⟨_, e, f, he, hf⟩ := h2 q hq
      exact ⟨e, f, by simpa using he, by simpa using hf⟩
  · exact findG_ok hk hes h
theorem Sat.map (h : Sat G F W E S w) {r : Nat} {es : List MapEntry} {c : Nat} (hg : S.h.get r = some (.map es c)) : ∃ e arr, E r = some e ∧ w.heap[e.b]? = some (.map arr c) ∧ LR (MR E) es arr.toList := by
  obtain ⟨e, he, arr, h1, h2⟩ := h.obj _ _ hg
  exact ⟨e, arr, he, h1, h2⟩
theorem run_getMap {b c : Nat} {arr : Array MapEntry} (h : w.heap[b]? = some (.map arr c)) : (getObj b).run P w = .ok (.map arr c) w := by simp [getObj, Sem.run, h]
/-- A map turned. -/
theorem Sat.putMap (h : Sat G F W E S w) {r : Nat} {es : List MapEntry} {c : Nat} (hg : S.h.get r = some (.map es c)) {e : Ent} (he : E r = some e) {arr : Array MapEntry} (hb : w.heap[e.b]? = some (.map arr c)) {es' : List MapEntry} {arr' : Array MapEntry} (hl : LR (MR E) es' arr'.toList) (c' : Nat) :
    ∃ w', (∀ P, (setObj e.b (.map arr' c')).run P w = .ok () w') ∧ Sat G F W E (S.set r (.map es' c')) w' := by
  have hlt : e.b < w.heap.size := (Array.getElem?_eq_some_iff.1 hb).1
  refine ⟨{ w with heap := w.heap.setIfInBounds e.b (.map arr' c') }, fun P => by simp [setObj, Sem.run, hb], ?_⟩
  refine h.turn hg he _ (fun k hk => ?_) (by simp) rfl rfl rfl ⟨arr', ?_, hl⟩
  · show (w.heap.setIfInBounds e.b _)[k]? = _
    rw [Array.getElem?_setIfInBounds_ne (Ne.symm hk)]
  · show (w.heap.setIfInBounds e.b _)[e.b]? = _
    simp [hlt]
theorem zeroP_some {t : TypeId} {z : Value} (h : zeroP P t = some z) : (∀ w, (zeroValue t).run P w = .ok z w) ∧ VR E z z := by
  unfold zeroP at h
  split at h
  · rename_i ti hi
    split at h
    · rename_i v hv
      by_cases hp : plainV PD v = true
      · rw [hp] at h
        cases h
        exact ⟨fun w => run_zero hi hv w, plain_refl _ _ hp⟩
      · rw [Bool.eq_false_iff.2 hp] at h; cases h
    · cases h
  · cases h
theorem okV_VR {ok b : Bool} {v v' : Value} (h : VR E v v') : VR E (okV ok v b) (if ok then .tuple #[v', .bool b] else v') := by
  cases ok with
  | false => exact h
  | true => exact .tuple' (LR.cons h (LR.cons (.bool b) LR.nil))
theorem lookup_fin {t kt et : TypeId} {x' k' : Value} {ok : Bool} {arr : Array MapEntry} {q : Option (Nat × Value)} (hr : (x' = .map none ∧ arr = #[]) ∨ ∃ b c, x' = .map (some b) ∧ w.heap[b]? = some (.map arr c)) (hd : P.underlying t = some (.map kt et))
    (hc : (Instr.checkKey arr.isEmpty 10000 kt k').run P w = .ok () w) (hf : (Instr.findKey kt k' arr.toList).run P w = .ok q w) :
    (Instr.lookup t x' k' ok).run P w = (match q with
      | some (_, v) => .ok (if ok then .tuple #[v, .bool true] else v) w
      | none => ((zeroValue et).run P w).andThen fun z w => .ok (if ok then .tuple #[z, .bool false] else z) w) := by
  unfold Instr.lookup
  rcases hr with ⟨rfl, rfl⟩ | ⟨b, c, rfl, hb⟩
  · simp only [Sem.run_bind, run_underlying hd, Result.andThen_ok, Sem.run_pure, hc, hf]
    cases q with
    | none =>
      simp only [Sem.run_bind]
      cases (zeroValue et).run P w <;> rfl
    | some p => rfl
  · simp only [Sem.run_bind, run_underlying hd, Result.andThen_ok, run_getMap hb, Sem.run_pure, hc, hf]
    cases q with
    | none =>
      simp only [Sem.run_bind]
      cases (zeroValue et).run P w <;> rfl
    | some p => rfl
theorem lookup_ok (h : Sat G F W E S w) {t : TypeId} {x x' k k' : Value} (hx : VR E x x') (hk : VR E k k') {ok : Bool} {v : Value} (hl : lookupS P S t x k ok = some v) : ∃ v', (Instr.lookup t x' k' ok).run P w = .ok v' w ∧ VR E v v' := by
  unfold lookupS at hl
  split at hl
  · rename_i kt et hd
    split at hl
    · cases hl
    · rename_i es hes
      have key : ∃ arr : Array MapEntry, ((x' = .map none ∧ arr = #[]) ∨ ∃ b c, x' = .map (some b) ∧ w.heap[b]? = some (.map arr c)) ∧ LR (MR E) es arr.toList := by
        unfold entriesS at hes
        split at hes
        · cases hes; cases hx
          exact ⟨#[], .inl ⟨rfl, rfl⟩, LR.nil⟩
        · rename_i r
          split at hes
          · rename_i es' c hg
            cases hes
            cases hx with | map he =>
            obtain ⟨e', arr, he', h1, h2⟩ := h.map hg
            rw [he] at he'; cases he'
            exact ⟨arr, .inr ⟨_, _, rfl, h1⟩, h2⟩
          · cases hes
        · cases hes
      obtain ⟨arr, hrun, hL⟩ := key
      split at hl
      · rename_i i hf
        obtain ⟨rfl, hc, _, hfk, hin⟩ := findS_ok hk hL hf
        obtain ⟨e, f, he, hf'⟩ := hin i rfl
        rw [he] at hl
        cases hl
        have hc' := hc w
        have hfk' := hfk w
        simp only [hit, hf', Option.map_some] at hfk'
        rw [Array.isEmpty_toList] at hc'
        exact ⟨if ok then .tuple #[f.val, .bool true] else f.val, lookup_fin hrun hd hc' hfk', okV_VR (hL.2 i e f he hf').val⟩
      · rename_i hf
        obtain ⟨rfl, hc, _, hfk, hin⟩ := findS_ok hk hL hf
        split at hl
        · rename_i z hz
          cases hl
          obtain ⟨hz1, hz2⟩ := zeroP_some (E := E) hz
          have hc' := hc w
          have hfk' := hfk w
          simp only [hit] at hfk'
          rw [Array.isEmpty_toList] at hc'
          refine ⟨if ok then .tuple #[z, .bool false] else z, ?_, okV_VR hz2⟩
          rw [lookup_fin hrun hd hc' hfk']
          simp only [hz1, Result.andThen_ok]
        · cases hl
      · cases hl
  · cases hl
end
end Go.Proofs.YtbjecfbfcpiilaaGreatDoor
namespace Go.Proofs.YtbjecfbfcpiilaaGreatDoor
open Go
section
variable {P : Program} {G : Nat} {F : Nat → Option Obj} {W : World} {E : Env} {S S' : SW} {w : World}
theorem LR.modify {α β : Type} {R : α → β → Prop} {l : List α} {m : List β} (h : LR R l m) (i : Nat) (f : α → α) (g : β → β) (hR : ∀ x y, R x y → R (f x) (g y)) : LR R (l.modify i f) (m.modify i g) :=
  ⟨by simp [h.1], fun j x y hx hy => by
    rw [List.getElem?_modify] at hx hy
    cases hl : l[j]? with
    | none => rw [hl] at hx; cases hx
    | some a =>
      obtain ⟨b, hb, hab⟩ := h.get hl
      rw [hl] at hx; rw [hb] at hy
      simp at hx hy
      subst hx; subst hy
      by_cases hij : i = j
      · simp only [hij, if_true]; exact hR _ _ hab
      · simp only [hij, if_false]; exact hab⟩
theorem setMap_some {r c : Nat} {o : Option (List MapEntry)} (h : setMap S r c o = some S') : ∃ es, o = some es ∧ S' = S.set r (.map es c) := by
  unfold setMap at h
  split at h
  · cases h; exact ⟨_, rfl, rfl⟩
  · cases h
theorem modR_some {α : Type} {f : α → α} {n : Nat} {l m : List α} (h : modR f n l = some m) : n < l.length ∧ m = l.modify n f := by
  rw [modR_eq] at h
  split at h
  · cases h; exact ⟨by assumption, rfl⟩
  · cases h
theorem same_key {e f : MapEntry} (h : MR E e f) {k : Value} (hb : (plainV PD e.key && Instr.sameBits 10000 e.key k) = true) : f.key = e.key ∧ Instr.sameBits 10000 e.key k = true := by
  rw [Bool.and_eq_true] at hb
  exact ⟨plain_eq _ _ _ hb.1 h.key, hb.2⟩
theorem run_stays {old k : Value} (h : Instr.sameBits 10000 old k = true) (w : World) : (Instr.keyThatStays old k).run P w = .ok k w := by
  unfold Instr.keyThatStays
  rw [if_pos h]
  rfl
theorem mapPut_ok (h : Sat G F W E S w) {t : TypeId} {x x' k k' v v' : Value} (hx : VR E x x') (hk : VR E k k') (hv : VR E v v') (hp : mapPutS P S t x k v = some S') :
    ∃ w', (Instr.mapUpdate t x' k' v').run P w = .ok () w' ∧ Sat G F W E S' w' ∧ S'.n = S.n := by
  unfold mapPutS at hp
  split at hp
  · rename_i kt et r hd
    cases hx with | map he =>
    split at hp
    · rename_i es c hg
      obtain ⟨e, arr, he', h1, hL⟩ := h.map hg
      rw [he] at he'; cases he'
      split at hp
      · rename_i i hf
        obtain ⟨rfl, _, hc, hfk, hin⟩ := findS_ok (P := P) hk hL hf
        obtain ⟨e0, f0, he0, hf0⟩ := hin i rfl
        rw [he0] at hp
        simp only at hp
        by_cases hb : (plainV PD e0.key && Instr.sameBits 10000 e0.key k') = true
        · rw [hb, cond_true] at hp
          obtain ⟨es', hm, rfl⟩ := setMap_some hp
          obtain ⟨hlt, rfl⟩ := modR_some hm
          have hef := hL.2 i e0 f0 he0 hf0
          obtain ⟨hkey, hsb⟩ := same_key hef hb
          have hfk' := hfk w
          simp only [hit, hf0, Option.map_some] at hfk'
          have hf0' : arr[i]? = some f0 := by simpa using hf0
          obtain ⟨w', hr, hs⟩ := h.putMap hg he h1 (arr' := arr.modify i fun f => { f with key := k', val := v' }) (es' := es.modify i fun e => ⟨k', v, e.born⟩) (by
            rw [Array.toList_modify]
            exact hL.modify i _ _ fun a b hab => ⟨hk, hv, hab.born⟩) c
          refine ⟨w', ?_, hs, SW.set_n _ _ _⟩
          unfold Instr.mapUpdate
          simp only [Sem.run_bind, run_underlying hd, Result.andThen_ok, run_getMap h1, hc w, hfk', hf0', Option.map_some, Option.getD_some, hkey, run_stays hsb, hr P]
        · rw [Bool.eq_false_iff.2 hb] at hp; cases hp
      · rename_i hf
        obtain ⟨rfl, _, hc, hfk, _⟩ := findS_ok (P := P) hk hL hf
        obtain ⟨es', hm, rfl⟩ := setMap_some hp
        rw [snocR_eq] at hm
        cases hm
        have hfk' := hfk w
        simp only [hit] at hfk'
        obtain ⟨w', hr, hs⟩ := h.putMap hg he h1 (arr' := arr.push { key := k', val := v', born := c }) (es' := es ++ [{ key := k', val := v, born := c }]) (by
            rw [Array.toList_push]
            exact hL.append (LR.cons ⟨hk, hv, rfl⟩ LR.nil)) (c + 1)
        refine ⟨w', ?_, hs, SW.set_n _ _ _⟩
        unfold Instr.mapUpdate
        simp only [Sem.run_bind, run_underlying hd, Result.andThen_ok, run_getMap h1, hc w, hfk', hr P]
      · cases hp
    · cases hp
  · cases hp
theorem mapEntry_ok (h : Sat G F W E S w) {t : TypeId} {x x' k k' v : Value} (hx : VR E x x') (hk : VR E k k') (hp : mapEntryS P S t x k = some (v, S')) :
    ∃ w' v', (Instr.mapEntry t x' k').run P w = .ok v' w' ∧ VR E v v' ∧ Sat G F W E S' w' ∧ S'.n = S.n := by
  unfold mapEntryS at hp
  split at hp
  · rename_i kt et r hd
    cases hx with | map he =>
    split at hp
    · rename_i es c hg
      obtain ⟨e, arr, he', h1, hL⟩ := h.map hg
      rw [he] at he'; cases he'
      split at hp
      · rename_i i hf
        obtain ⟨rfl, _, hc, hfk, hin⟩ := findS_ok (P := P) hk hL hf
        obtain ⟨e0, f0, he0, hf0⟩ := hin i rfl
        rw [he0] at hp
        simp only at hp
        by_cases hb : (plainV PD e0.key && Instr.sameBits 10000 e0.key k') = true
        · rw [hb, cond_true] at hp
          unfold tupS at hp
          split at hp
          · rename_i S1 hm1
            cases hp
            obtain ⟨es', hm, rfl⟩ := setMap_some hm1
            obtain ⟨hlt, rfl⟩ := modR_some hm
            have hef := hL.2 i e0 f0 he0 hf0
            obtain ⟨hkey, hsb⟩ := same_key hef hb
            have hfk' := hfk w
            simp only [hit, hf0, Option.map_some] at hfk'
            have hf0' : arr[i]? = some f0 := by simpa using hf0
            obtain ⟨w', hr, hs⟩ := h.putMap hg he h1 (arr' := arr.modify i fun f => { f with key := k' }) (es' := es.modify i fun e => ⟨k', e.val, e.born⟩) (by
              rw [Array.toList_modify]
              exact hL.modify i _ _ fun a b hab => ⟨hk, hab.val, hab.born⟩) c
            refine ⟨w', .tuple #[f0.val, .int .i64 f0.born], ?_, .tuple' (LR.cons hef.val (LR.cons (by rw [hef.born]; exact .int _ _) LR.nil)), hs, SW.set_n _ _ _⟩
            unfold Instr.mapEntry
            simp only [Sem.run_bind, run_underlying hd, Result.andThen_ok, run_getMap h1, hc w, hfk', hf0', Option.map_some, Option.getD_some, hkey, run_stays hsb, hr P, Sem.run_pure, goInt]
          · cases hp
        · rw [Bool.eq_false_iff.2 hb] at hp; cases hp
      · rename_i hf
        obtain ⟨rfl, _, hc, hfk, _⟩ := findS_ok (P := P) hk hL hf
        split at hp
        · rename_i z hz
          obtain ⟨hz1, hz2⟩ := zeroP_some (E := E) hz
          unfold tupS at hp
          split at hp
          · rename_i S1 hm1
            cases hp
            obtain ⟨es', hm, rfl⟩ := setMap_some hm1
            rw [snocR_eq] at hm
            cases hm
            have hfk' := hfk w
            simp only [hit] at hfk'
            obtain ⟨w', hr, hs⟩ := h.putMap hg he h1 (arr' := arr.push { key := k', val := z, born := c }) (es' := es ++ [{ key := k', val := z, born := c }]) (by
                rw [Array.toList_push]
                exact hL.append (LR.cons ⟨hk, hz2, rfl⟩ LR.nil)) (c + 1)
            refine ⟨w', .tuple #[z, .int .i64 c], ?_, .tuple' (LR.cons hz2 (LR.cons (.int _ _) LR.nil)), hs, SW.set_n _ _ _⟩
            unfold Instr.mapEntry
            simp only [Sem.run_bind, run_underlying hd, Result.andThen_ok, run_getMap h1, hc w, hfk', hz1, hr P, Sem.run_pure, goInt]
          · cases hp
        · cases hp
      · cases hp
    · cases hp
  · cases hp
theorem entryPut_ok (h : Sat G F W E S w) {t : TypeId} {x x' k k' v v' : Value} (hx : VR E x x') (hk : VR E k k') (hv : VR E v v') (hp : entryPutS S x k v = some S') :
    ∃ w', (Instr.entryStore t x' k' v').run P w = .ok () w' ∧ Sat G F W E S' w' ∧ S'.n = S.n := by
  unfold entryPutS at hp
  split at hp
  · rename_i r ik n
    cases hx with | map he =>
    cases hk
    split at hp
    · rename_i es c hg
      obtain ⟨e, arr, he', h1, hL⟩ := h.map hg
      rw [he] at he'; cases he'
      split at hp
      · rename_i i hf
        obtain ⟨es', hm, rfl⟩ := setMap_some hp
        obtain ⟨hlt, rfl⟩ := modR_some hm
        have hfi : arr.findIdx? (fun e => (e.born : Int) == n) = some i := by
          rw [show arr = arr.toList.toArray by simp, List.findIdx?_toArray]
          rw [List.findIdx?_eq_some_iff_getElem] at hf ⊢
          obtain ⟨hi, hp1, hp2⟩ := hf
          have hl := hL.1
          have born : ∀ (j : Nat) (hj : j < es.length) (hj' : j < arr.toList.length), (arr.toList[j]).born = (es[j]).born := fun j hj hj' =>
            (hL.2 j _ _ (List.getElem?_eq_getElem hj) (List.getElem?_eq_getElem hj')).born
          refine ⟨by omega, ?_, fun j hj => ?_⟩
          · rw [born i hi]; exact hp1
          · rw [born j (by omega)]; exact hp2 j hj
        obtain ⟨w', hr, hs⟩ := h.putMap hg he h1 (arr' := arr.modify i fun f => { f with val := v' }) (es' := es.modify i fun e => ⟨e.key, v, e.born⟩) (by
            rw [Array.toList_modify]
            exact hL.modify i _ _ fun a b hab => ⟨hab.key, hv, hab.born⟩) c
        refine ⟨w', ?_, hs, SW.set_n _ _ _⟩
        unfold Instr.entryStore
        simp only [Sem.run_bind, Result.andThen_ok, run_getMap h1, asInt, asIntOf, Sem.run_pure, hfi, hr P]
      · cases hp
    · cases hp
  · cases hp
theorem LR.eraseIdx {α β : Type} {R : α → β → Prop} {l : List α} {m : List β} (h : LR R l m) (i : Nat) : LR R (l.eraseIdx i) (m.eraseIdx i) := by
  rw [List.eraseIdx_eq_take_drop_succ, List.eraseIdx_eq_take_drop_succ]
  exact (h.take i).append (h.drop (i + 1))
theorem run_setSame {b c : Nat} {arr : Array MapEntry} (h1 : w.heap[b]? = some (.map arr c)) : (setObj b (.map arr c)).run P w = .ok () w := by
  have hlt : b < w.heap.size := (Array.getElem?_eq_some_iff.1 h1).1
  have hh : w.heap.setIfInBounds b (.map arr c) = w.heap := by
    apply Array.ext_getElem?
    intro k
    by_cases hk : k = b
    · subst hk
      rw [h1]
      simp [hlt]
    · rw [Array.getElem?_setIfInBounds_ne (Ne.symm hk)]
  simp only [setObj, Sem.run, h1, hh]
theorem del_ok (h : Sat G F W E S w) {ts : Array TypeId} {t ty : TypeId} (ht : ts[0]? = some t) {x x' k k' : Value} (hx : VR E x x') (hk : VR E k k') (hp : delS P S t x k = some S') :
    ∃ w', (Builtin.delete_ ts ty #[x', k']).run P w = .ok (.tuple #[]) w' ∧ Sat G F W E S' w' ∧ S'.n = S.n := by
  unfold delS at hp
  split at hp
  · rename_i kt et r hd
    cases hx with | map he =>
    split at hp
    · rename_i es c hg
      obtain ⟨e, arr, he', h1, hL⟩ := h.map hg
      rw [he] at he'; cases he'
      split at hp
      · rename_i i hf
        obtain ⟨rfl, hc, _, hfk, hin⟩ := findS_ok (P := P) hk hL hf
        obtain ⟨e0, f0, he0, hf0⟩ := hin i rfl
        obtain ⟨es', hm, rfl⟩ := setMap_some hp
        rw [delR_eq] at hm
        split at hm
        · rename_i hlt
          cases hm
          have hfk' := hfk w
          simp only [hit, hf0, Option.map_some] at hfk'
          have hc' := hc w
          rw [Array.isEmpty_toList] at hc'
          have hl : es.length = arr.size := by simpa using hL.1
          obtain ⟨w', hr, hs⟩ := h.putMap hg he h1 (arr' := arr.eraseIdxIfInBounds i) (es' := es.eraseIdx i) (by
            have : i < arr.size := by omega
            simp only [Array.eraseIdxIfInBounds, this, dif_pos, Array.toList_eraseIdx]
            exact hL.eraseIdx i) c
          refine ⟨w', ?_, hs, SW.set_n _ _ _⟩
          unfold Builtin.delete_
          simp only [ht, List.getElem?_toArray, List.getElem?_cons_zero, List.getElem?_cons_succ, Sem.run_bind, run_underlying hd, Result.andThen_ok, run_getMap h1, hc', hfk', hr P, Sem.run_pure]
        · cases hm
      · rename_i hf
        cases hp
        obtain ⟨rfl, hc, _, hfk, _⟩ := findS_ok (P := P) hk hL hf
        have hfk' := hfk w
        simp only [hit] at hfk'
        have hc' := hc w
        rw [Array.isEmpty_toList] at hc'
        have hself := run_setSame (P := P) h1
        refine ⟨w, ?_, h, rfl⟩
        unfold Builtin.delete_
        simp only [ht, List.getElem?_toArray, List.getElem?_cons_zero, List.getElem?_cons_succ, Sem.run_bind, run_underlying hd, Result.andThen_ok, run_getMap h1, hc', hfk', hself, Sem.run_pure]
      · cases hp
    · cases hp
  · cases hp
end
end Go.Proofs.YtbjecfbfcpiilaaGreatDoor

/- The executor: maps. The executor: maps turned; appends, copies. The executor: appends. The executor: copies, lengths, conversions, calls, blocks laid. -/
import Derived.Test.YtaeophaecclnbaaGreatDoorMgI
import Derived.Deep.Upon
import Derived.Laws.IdiomStrings
import Derived.Laws.BytesString
namespace Go.Proofs.YtaeophaecclnbaaGreatDoor
open Go
section
variable {P : Program} {G : Nat} {F : Nat → Option Obj} {W : World} {E : Env} {S S' : SW} {w : World}
def hit (fs : List MapEntry) : Option Nat → Option (Nat × Value)
  | some j => (fs[j]?).map fun f => (j, f.val)
  | none => none
theorem check_int (b : Bool) {kt : TypeId} {j : IntKind} (hd : P.underlying kt = some (.int j)) (i : IntKind) (n : Int) (d : Nat) (w : World) : (Instr.checkKey b (d + 1) kt (.int i n)).run P w = .ok () w := by
  simp [Instr.checkKey, run_underlying hd]
theorem now_lt {d : TypeDesc} {k : Value} : ∀ (es : List MapEntry) (i j : Nat) (u : Value), Instr.findNow d k (keysOnly es) i = some (some (j, u)) → j - i < es.length
  | [], i, j, u, h => by simp [Instr.findNow, keysOnly] at h
  | e :: es, i, j, u, h => by
    simp only [keysOnly, List.map_cons, Instr.findNow] at h
    split at h
    · cases h; simp
    · have := now_lt es (i + 1) j u h
      simp only [List.length_cons]
      omega
    · cases h
theorem asking_lt {kt : TypeId} {k : Value} : ∀ (es : List MapEntry) (i j : Nat) (u : Value), prun P (Instr.findAsking kt k (keysOnly es) i) = some (.ok (some (j, u))) → j - i < es.length
  | [], i, j, u, h => by
    simp only [keysOnly, List.map_nil, Instr.findAsking] at h
    cases (show some (Except.ok none) = some (Except.ok (some (j, u))) from h)
  | e :: es, i, j, u, h => by
    simp only [keysOnly, List.map_cons, Instr.findAsking] at h
    rcases prun_bind h with ⟨b, hb, hp'⟩ | ⟨v, _, hv⟩
    · cases b with
      | true =>
        simp only [if_true] at hp'
        cases (show some (Except.ok (some (i, Value.nilIface))) = some (Except.ok (some (j, u))) from hp')
        simp
      | false =>
        simp only [Bool.false_eq_true, if_false] at hp'
        have := asking_lt es (i + 1) j u hp'
        simp only [List.length_cons]
        omega
    · cases hv
theorem findG_ok {kt : TypeId} {k k' : Value} (hk : VR E k k') {es fs : List MapEntry} (hes : LR (MR E) es fs) {r : Option Nat} (h : findG P kt k es = some r) :
    k' = k ∧ (∀ w, (Instr.checkKey fs.isEmpty 10000 kt k').run P w = .ok () w) ∧ (∀ w, (Instr.checkKey false 10000 kt k').run P w = .ok () w) ∧ (∀ w, (Instr.findKey kt k' fs).run P w = .ok (hit fs r) w) ∧
      (∀ j, r = some j → ∃ e f, es[j]? = some e ∧ fs[j]? = some f) := by
  unfold findG at h
  by_cases hp : (plainV PD k && allL (fun e => plainV PD e.key) es) = true
  · rw [hp, cond_true] at h
    rw [Bool.and_eq_true] at hp
    have hkk : k' = k := plain_eq _ _ _ hp.1 hk
    subst hkk
    have hkeys : es.map (·.key) = fs.map (·.key) := by
      apply List.ext_getElem?
      intro i
      rw [List.getElem?_map, List.getElem?_map]
      cases h1 : es[i]? with
      | none =>
        have : fs[i]? = none := by rw [List.getElem?_eq_none_iff] at h1 ⊢; have := hes.1; omega
        rw [this]
      | some e =>
        obtain ⟨f, hf, hr⟩ := hes.get h1
        rw [hf]
        have := plain_eq _ _ _ ((allL_iff _ _).1 hp.2 e (List.mem_of_getElem? h1)) hr.key
        simp [this]
    have hemp : fs.isEmpty = es.isEmpty := by
      have := hes.1
      cases es <;> cases fs <;> simp_all
    split at h
    · rename_i u1 u2 hc1 hc2
      cases u1; cases u2
      have key : ∀ (q : Option (Nat × Value)), prun P (Instr.findKey kt k' (keysOnly es)) = some (.ok q) → (∀ w, (Instr.findKey kt k' fs).run P w = .ok (hit fs (q.map (·.1))) w) := by
        intro q hq w
        unfold Instr.findKey at hq ⊢
        rcases prun_bind hq with ⟨d, hd, hq'⟩ | ⟨v, _, hv⟩
        · rw [Sem.run_bind, prun_ok hd w, Result.andThen_ok]
          have h1 := findNow_keys (d := d) (k := k') es fs 0 hkeys
          cases hn : Instr.findNow d k' (keysOnly es) 0 with
          | some q0 =>
            rw [hn] at hq' h1
            rw [h1]
            simp only at hq' ⊢
            cases (show some (Except.ok q0) = some (Except.ok q) from hq')
            simp only [Option.map_some, Sem.run_pure]
            congr 1
            cases q <;> rfl
          | none =>
            rw [hn] at hq' h1
            rw [h1]
            simp only [Option.map_none] at hq' ⊢
            have := (findAsking_keys (w := w) es fs 0 q hkeys hq').1
            rw [this]
            congr 1
            cases q <;> rfl
        · cases hv
      refine ⟨rfl, fun w => by rw [hemp]; exact prun_ok hc1 w, fun w => prun_ok hc2 w, ?_, ?_⟩
      · split at h
        · rename_i i u hq
          cases h
          exact key _ hq
        · rename_i hq
          cases h
          exact key _ hq
        · cases h
      · intro j hj
        subst hj
        split at h
        · rename_i i u hq
          cases h
          have hlt : j < es.length := by
            unfold Instr.findKey at hq
            rcases prun_bind hq with ⟨d, hd, hq'⟩ | ⟨v, _, hv⟩
            · cases hn : Instr.findNow d k' (keysOnly es) 0 with
              | some q0 =>
                rw [hn] at hq'
                cases (show some (Except.ok q0) = some (Except.ok (some (j, u))) from hq')
                exact now_lt _ _ _ _ hn
              | none =>
                rw [hn] at hq'
                exact asking_lt es 0 j u hq'
            · cases hv
          have h1 : es[j]? = some (es[j]'hlt) := List.getElem?_eq_getElem _
          obtain ⟨f, hf, _⟩ := hes.get h1
          exact ⟨_, f, h1, hf⟩
        · cases h
        · cases h
    · cases h
  · rw [Bool.eq_false_iff.2 hp] at h; cases h
theorem findS_ok {kt : TypeId} {k k' : Value} (hk : VR E k k') {es fs : List MapEntry} (hes : LR (MR E) es fs) {r : Option Nat} (h : findS P kt k es = some r) :
    k' = k ∧ (∀ w, (Instr.checkKey fs.isEmpty 10000 kt k').run P w = .ok () w) ∧ (∀ w, (Instr.checkKey false 10000 kt k').run P w = .ok () w) ∧ (∀ w, (Instr.findKey kt k' fs).run P w = .ok (hit fs r) w) ∧
      (∀ j, r = some j → ∃ e f, es[j]? = some e ∧ fs[j]? = some f) := by
  unfold findS at h
  split at h
  · rename_i j i n hd
    cases hk
    obtain ⟨h1, h2⟩ := findI_ok (d := .int j) rfl es fs 0 r hes h
    refine ⟨rfl, fun w => check_int _ hd i n 9999 w, fun w => check_int _ hd i n 9999 w, fun w => ?_, fun q hq => ?_⟩
    · simp only [Instr.findKey, Sem.run_bind, run_underlying hd, Result.andThen_ok, h1, Sem.run_pure]
      cases r <;> rfl
    · obtain ⟨_, e, f, he, hf⟩ := h2 q hq
      exact ⟨e, f, by simpa using he, by simpa using hf⟩
  · exact findG_ok hk hes h
theorem Sat.map (h : Sat G F W E S w) {r : Nat} {es : List MapEntry} {c : Nat} (hg : S.h.get r = some (.map es c)) : ∃ e arr, E r = some e ∧ w.heap[e.b]? = some (.map arr c) ∧ LR (MR E) es arr.toList := by
  obtain ⟨e, he, arr, h1, h2⟩ := h.obj _ _ hg
  exact ⟨e, arr, he, h1, h2⟩
theorem run_getMap {b c : Nat} {arr : Array MapEntry} (h : w.heap[b]? = some (.map arr c)) : (getObj b).run P w = .ok (.map arr c) w := by simp [getObj, Sem.run, h]
/-- A map turned. -/
theorem Sat.putMap (h : Sat G F W E S w) {r : Nat} {es : List MapEntry} {c : Nat} (hg : S.h.get r = some (.map es c)) {e : Ent} (he : E r = some e) {arr : Array MapEntry} (hb : w.heap[e.b]? = some (.map arr c)) {es' : List MapEntry} {arr' : Array MapEntry} (hl : LR (MR E) es' arr'.toList) (c' : Nat) :
    ∃ w', (∀ P, (setObj e.b (.map arr' c')).run P w = .ok () w') ∧ Sat G F W E (S.set r (.map es' c')) w' := by
  have hlt : e.b < w.heap.size := (Array.getElem?_eq_some_iff.1 hb).1
  refine ⟨{ w with heap := w.heap.setIfInBounds e.b (.map arr' c') }, fun P => by simp [setObj, Sem.run, hb], ?_⟩
  refine h.turn hg he _ (fun k hk => ?_) (by simp) rfl rfl rfl ⟨arr', ?_, hl⟩
  · show (w.heap.setIfInBounds e.b _)[k]? = _
    rw [Array.getElem?_setIfInBounds_ne (Ne.symm hk)]
  · show (w.heap.setIfInBounds e.b _)[e.b]? = _
    simp [hlt]
theorem zeroP_some {t : TypeId} {z : Value} (h : zeroP P t = some z) : (∀ w, (zeroValue t).run P w = .ok z w) ∧ VR E z z := by
  unfold zeroP at h
  split at h
  · rename_i ti hi
    split at h
    · rename_i v hv
      by_cases hp : plainV PD v = true
      · rw [hp] at h
        cases h
        exact ⟨fun w => run_zero hi hv w, plain_refl _ _ hp⟩
      · rw [Bool.eq_false_iff.2 hp] at h; cases h
    · cases h
  · cases h
theorem okV_VR {ok b : Bool} {v v' : Value} (h : VR E v v') : VR E (okV ok v b) (if ok then .tuple #[v', .bool b] else v') := by
  cases ok with
  | false => exact h
  | true => exact .tuple' (LR.cons h (LR.cons (.bool b) LR.nil))
theorem lookup_fin {t kt et : TypeId} {x' k' : Value} {ok : Bool} {arr : Array MapEntry} {q : Option (Nat × Value)} (hr : (x' = .map none ∧ arr = #[]) ∨ ∃ b c, x' = .map (some b) ∧ w.heap[b]? = some (.map arr c)) (hd : P.underlying t = some (.map kt et))
    (hc : (Instr.checkKey arr.isEmpty 10000 kt k').run P w = .ok () w) (hf : (Instr.findKey kt k' arr.toList).run P w = .ok q w) :
    (Instr.lookup t x' k' ok).run P w = (match q with
      | some (_, v) => .ok (if ok then .tuple #[v, .bool true] else v) w
      | none => ((zeroValue et).run P w).andThen fun z w => .ok (if ok then .tuple #[z, .bool false] else z) w) := by
  unfold Instr.lookup
  rcases hr with ⟨rfl, rfl⟩ | ⟨b, c, rfl, hb⟩
  · simp only [Sem.run_bind, run_underlying hd, Result.andThen_ok, Sem.run_pure, hc, hf]
    cases q with
    | none =>
      simp only [Sem.run_bind]
      cases (zeroValue et).run P w <;> rfl
    | some p => rfl
  · simp only [Sem.run_bind, run_underlying hd, Result.andThen_ok, run_getMap hb, Sem.run_pure, hc, hf]
    cases q with
    | none =>
      simp only [Sem.run_bind]
      cases (zeroValue et).run P w <;> rfl
    | some p => rfl
theorem lookup_ok (h : Sat G F W E S w) {t : TypeId} {x x' k k' : Value} (hx : VR E x x') (hk : VR E k k') {ok : Bool} {v : Value} (hl : lookupS P S t x k ok = some v) : ∃ v', (Instr.lookup t x' k' ok).run P w = .ok v' w ∧ VR E v v' := by
  unfold lookupS at hl
  split at hl
  · rename_i kt et hd
    split at hl
    · cases hl
    · rename_i es hes
      have key : ∃ arr : Array MapEntry, ((x' = .map none ∧ arr = #[]) ∨ ∃ b c, x' = .map (some b) ∧ w.heap[b]? = some (.map arr c)) ∧ LR (MR E) es arr.toList := by
        unfold entriesS at hes
        split at hes
        · cases hes; cases hx
          exact ⟨#[], .inl ⟨rfl, rfl⟩, LR.nil⟩
        · rename_i r
          split at hes
          · rename_i es' c hg
            cases hes
            cases hx with | map he =>
            obtain ⟨e', arr, he', h1, h2⟩ := h.map hg
            rw [he] at he'; cases he'
            exact ⟨arr, .inr ⟨_, _, rfl, h1⟩, h2⟩
          · cases hes
        · cases hes
      obtain ⟨arr, hrun, hL⟩ := key
      split at hl
      · rename_i i hf
        obtain ⟨rfl, hc, _, hfk, hin⟩ := findS_ok hk hL hf
        obtain ⟨e, f, he, hf'⟩ := hin i rfl
        rw [he] at hl
        cases hl
        have hc' := hc w
        have hfk' := hfk w
        simp only [hit, hf', Option.map_some] at hfk'
        rw [Array.isEmpty_toList] at hc'
        exact ⟨if ok then .tuple #[f.val, .bool true] else f.val, lookup_fin hrun hd hc' hfk', okV_VR (hL.2 i e f he hf').val⟩
      · rename_i hf
        obtain ⟨rfl, hc, _, hfk, hin⟩ := findS_ok hk hL hf
        split at hl
        · rename_i z hz
          cases hl
          obtain ⟨hz1, hz2⟩ := zeroP_some (E := E) hz
          have hc' := hc w
          have hfk' := hfk w
          simp only [hit] at hfk'
          rw [Array.isEmpty_toList] at hc'
          refine ⟨if ok then .tuple #[z, .bool false] else z, ?_, okV_VR hz2⟩
          rw [lookup_fin hrun hd hc' hfk']
          simp only [hz1, Result.andThen_ok]
        · cases hl
      · cases hl
  · cases hl
end
end Go.Proofs.YtaeophaecclnbaaGreatDoor
namespace Go.Proofs.YtaeophaecclnbaaGreatDoor
open Go
section
variable {P : Program} {G : Nat} {F : Nat → Option Obj} {W : World} {E : Env} {S S' : SW} {w : World}
theorem LR.modify {α β : Type} {R : α → β → Prop} {l : List α} {m : List β} (h : LR R l m) (i : Nat) (f : α → α) (g : β → β) (hR : ∀ x y, R x y → R (f x) (g y)) : LR R (l.modify i f) (m.modify i g) :=
  ⟨by simp [h.1], fun j x y hx hy => by
    rw [List.getElem?_modify] at hx hy
    cases hl : l[j]? with
    | none => rw [hl] at hx; cases hx
    | some a =>
      obtain ⟨b, hb, hab⟩ := h.get hl
      rw [hl] at hx; rw [hb] at hy
      simp at hx hy
      subst hx; subst hy
      by_cases hij : i = j
      · simp only [hij, if_true]; exact hR _ _ hab
      · simp only [hij, if_false]; exact hab⟩
theorem setMap_some {r c : Nat} {o : Option (List MapEntry)} (h : setMap S r c o = some S') : ∃ es, o = some es ∧ S' = S.set r (.map es c) := by
  unfold setMap at h
  split at h
  · cases h; exact ⟨_, rfl, rfl⟩
  · cases h
theorem modR_some {α : Type} {f : α → α} {n : Nat} {l m : List α} (h : modR f n l = some m) : n < l.length ∧ m = l.modify n f := by
  rw [modR_eq] at h
  split at h
  · cases h; exact ⟨by assumption, rfl⟩
  · cases h
theorem same_key {e f : MapEntry} (h : MR E e f) {k : Value} (hb : (plainV PD e.key && Instr.sameBits 10000 e.key k) = true) : f.key = e.key ∧ Instr.sameBits 10000 e.key k = true := by
  rw [Bool.and_eq_true] at hb
  exact ⟨plain_eq _ _ _ hb.1 h.key, hb.2⟩
theorem run_stays {old k : Value} (h : Instr.sameBits 10000 old k = true) (w : World) : (Instr.keyThatStays old k).run P w = .ok k w := by
  unfold Instr.keyThatStays
  rw [if_pos h]
  rfl
theorem mapPut_ok (h : Sat G F W E S w) {t : TypeId} {x x' k k' v v' : Value} (hx : VR E x x') (hk : VR E k k') (hv : VR E v v') (hp : mapPutS P S t x k v = some S') :
    ∃ w', (Instr.mapUpdate t x' k' v').run P w = .ok () w' ∧ Sat G F W E S' w' ∧ S'.n = S.n := by
  unfold mapPutS at hp
  split at hp
  · rename_i kt et r hd
    cases hx with | map he =>
    split at hp
    · rename_i es c hg
      obtain ⟨e, arr, he', h1, hL⟩ := h.map hg
      rw [he] at he'; cases he'
      split at hp
      · rename_i i hf
        obtain ⟨rfl, _, hc, hfk, hin⟩ := findS_ok (P := P) hk hL hf
        obtain ⟨e0, f0, he0, hf0⟩ := hin i rfl
        rw [he0] at hp
        simp only at hp
        by_cases hb : (plainV PD e0.key && Instr.sameBits 10000 e0.key k') = true
        · rw [hb, cond_true] at hp
          obtain ⟨es', hm, rfl⟩ := setMap_some hp
          obtain ⟨hlt, rfl⟩ := modR_some hm
          have hef := hL.2 i e0 f0 he0 hf0
          obtain ⟨hkey, hsb⟩ := same_key hef hb
          have hfk' := hfk w
          simp only [hit, hf0, Option.map_some] at hfk'
          have hf0' : arr[i]? = some f0 := by simpa using hf0
          obtain ⟨w', hr, hs⟩ := h.putMap hg he h1 (arr' := arr.modify i fun f => { f with key := k', val := v' }) (es' := es.modify i fun e => ⟨k', v, e.born⟩) (by
            rw [Array.toList_modify]
            exact hL.modify i _ _ fun a b hab => ⟨hk, hv, hab.born⟩) c
          refine ⟨w', ?_, hs, SW.set_n _ _ _⟩
          unfold Instr.mapUpdate
          simp only [Sem.run_bind, run_underlying hd, Result.andThen_ok, run_getMap h1, hc w, hfk', hf0', Option.map_some, Option.getD_some, hkey, run_stays hsb, hr P]
        · rw [Bool.eq_false_iff.2 hb] at hp; cases hp
      · rename_i hf
        obtain ⟨rfl, _, hc, hfk, _⟩ := findS_ok (P := P) hk hL hf
        obtain ⟨es', hm, rfl⟩ := setMap_some hp
        rw [snocR_eq] at hm
        cases hm
        have hfk' := hfk w
        simp only [hit] at hfk'
        obtain ⟨w', hr, hs⟩ := h.putMap hg he h1 (arr' := arr.push { key := k', val := v', born := c }) (es' := es ++ [{ key := k', val := v, born := c }]) (by
            rw [Array.toList_push]
            exact hL.append (LR.cons ⟨hk, hv, rfl⟩ LR.nil)) (c + 1)
        refine ⟨w', ?_, hs, SW.set_n _ _ _⟩
        unfold Instr.mapUpdate
        simp only [Sem.run_bind, run_underlying hd, Result.andThen_ok, run_getMap h1, hc w, hfk', hr P]
      · cases hp
    · cases hp
  · cases hp
theorem mapEntry_ok (h : Sat G F W E S w) {t : TypeId} {x x' k k' v : Value} (hx : VR E x x') (hk : VR E k k') (hp : mapEntryS P S t x k = some (v, S')) :
    ∃ w' v', (Instr.mapEntry t x' k').run P w = .ok v' w' ∧ VR E v v' ∧ Sat G F W E S' w' ∧ S'.n = S.n := by
  unfold mapEntryS at hp
  split at hp
  · rename_i kt et r hd
    cases hx with | map he =>
    split at hp
    · rename_i es c hg
      obtain ⟨e, arr, he', h1, hL⟩ := h.map hg
      rw [he] at he'; cases he'
      split at hp
      · rename_i i hf
        obtain ⟨rfl, _, hc, hfk, hin⟩ := findS_ok (P := P) hk hL hf
        obtain ⟨e0, f0, he0, hf0⟩ := hin i rfl
        rw [he0] at hp
        simp only at hp
        by_cases hb : (plainV PD e0.key && Instr.sameBits 10000 e0.key k') = true
        · rw [hb, cond_true] at hp
          unfold tupS at hp
          split at hp
          · rename_i S1 hm1
            cases hp
            obtain ⟨es', hm, rfl⟩ := setMap_some hm1
            obtain ⟨hlt, rfl⟩ := modR_some hm
            have hef := hL.2 i e0 f0 he0 hf0
            obtain ⟨hkey, hsb⟩ := same_key hef hb
            have hfk' := hfk w
            simp only [hit, hf0, Option.map_some] at hfk'
            have hf0' : arr[i]? = some f0 := by simpa using hf0
            obtain ⟨w', hr, hs⟩ := h.putMap hg he h1 (arr' := arr.modify i fun f => { f with key := k' }) (es' := es.modify i fun e => ⟨k', e.val, e.born⟩) (by
              rw [Array.toList_modify]
              exact hL.modify i _ _ fun a b hab => ⟨hk, hab.val, hab.born⟩) c
            refine ⟨w', .tuple #[f0.val, .int .i64 f0.born], ?_, .tuple' (LR.cons hef.val (LR.cons (by rw [hef.born]; exact .int _ _) LR.nil)), hs, SW.set_n _ _ _⟩
            unfold Instr.mapEntry
            simp only [Sem.run_bind, run_underlying hd, Result.andThen_ok, run_getMap h1, hc w, hfk', hf0', Option.map_some, Option.getD_some, hkey, run_stays hsb, hr P, Sem.run_pure, goInt]
          · cases hp
        · rw [Bool.eq_false_iff.2 hb] at hp; cases hp
      · rename_i hf
        obtain ⟨rfl, _, hc, hfk, _⟩ := findS_ok (P := P) hk hL hf
        split at hp
        · rename_i z hz
          obtain ⟨hz1, hz2⟩ := zeroP_some (E := E) hz
          unfold tupS at hp
          split at hp
          · rename_i S1 hm1
            cases hp
            obtain ⟨es', hm, rfl⟩ := setMap_some hm1
            rw [snocR_eq] at hm
            cases hm
            have hfk' := hfk w
            simp only [hit] at hfk'
            obtain ⟨w', hr, hs⟩ := h.putMap hg he h1 (arr' := arr.push { key := k', val := z, born := c }) (es' := es ++ [{ key := k', val := z, born := c }]) (by
                rw [Array.toList_push]
                exact hL.append (LR.cons ⟨hk, hz2, rfl⟩ LR.nil)) (c + 1)
            refine ⟨w', .tuple #[z, .int .i64 c], ?_, .tuple' (LR.cons hz2 (LR.cons (.int _ _) LR.nil)), hs, SW.set_n _ _ _⟩
            unfold Instr.mapEntry
            simp only [Sem.run_bind, run_underlying hd, Result.andThen_ok, run_getMap h1, hc w, hfk', hz1, hr P, Sem.run_pure, goInt]
          · cases hp
        · cases hp
      · cases hp
    · cases hp
  · cases hp
theorem entryPut_ok (h : Sat G F W E S w) {t : TypeId} {x x' k k' v v' : Value} (hx : VR E x x') (hk : VR E k k') (hv : VR E v v') (hp : entryPutS S x k v = some S') :
    ∃ w', (Instr.entryStore t x' k' v').run P w = .ok () w' ∧ Sat G F W E S' w' ∧ S'.n = S.n := by
  unfold entryPutS at hp
  split at hp
  · rename_i r ik n
    cases hx with | map he =>
    cases hk
    split at hp
    · rename_i es c hg
      obtain ⟨e, arr, he', h1, hL⟩ := h.map hg
      rw [he] at he'; cases he'
      split at hp
      · rename_i i hf
        obtain ⟨es', hm, rfl⟩ := setMap_some hp
        obtain ⟨hlt, rfl⟩ := modR_some hm
        have hfi : arr.findIdx? (fun e => (e.born : Int) == n) = some i := by
          rw [show arr = arr.toList.toArray by simp, List.findIdx?_toArray]
          rw [List.findIdx?_eq_some_iff_getElem] at hf ⊢
          obtain ⟨hi, hp1, hp2⟩ := hf
          have hl := hL.1
          have born : ∀ (j : Nat) (hj : j < es.length) (hj' : j < arr.toList.length), (arr.toList[j]).born = (es[j]).born := fun j hj hj' =>
            (hL.2 j _ _ (List.getElem?_eq_getElem hj) (List.getElem?_eq_getElem hj')).born
          refine ⟨by omega, ?_, fun j hj => ?_⟩
          · rw [born i hi]; exact hp1
          · rw [born j (by omega)]; exact hp2 j hj
        obtain ⟨w', hr, hs⟩ := h.putMap hg he h1 (arr' := arr.modify i fun f => { f with val := v' }) (es' := es.modify i fun e => ⟨e.key, v, e.born⟩) (by
            rw [Array.toList_modify]
            exact hL.modify i _ _ fun a b hab => ⟨hab.key, hv, hab.born⟩) c
        refine ⟨w', ?_, hs, SW.set_n _ _ _⟩
        unfold Instr.entryStore
        simp only [Sem.run_bind, Result.andThen_ok, run_getMap h1, asInt, asIntOf, Sem.run_pure, hfi, hr P]
      · cases hp
    · cases hp
  · cases hp
theorem LR.eraseIdx {α β : Type} {R : α → β → Prop} {l : List α} {m : List β} (h : LR R l m) (i : Nat) : LR R (l.eraseIdx i) (m.eraseIdx i) := by
  rw [List.eraseIdx_eq_take_drop_succ, List.eraseIdx_eq_take_drop_succ]
  exact (h.take i).append (h.drop (i + 1))
theorem run_setSame {b c : Nat} {arr : Array MapEntry} (h1 : w.heap[b]? = some (.map arr c)) : (setObj b (.map arr c)).run P w = .ok () w := by
  have hlt : b < w.heap.size := (Array.getElem?_eq_some_iff.1 h1).1
  have hh : w.heap.setIfInBounds b (.map arr c) = w.heap := by
    apply Array.ext_getElem?
    intro k
    by_cases hk : k = b
    · subst hk
      rw [h1]
      simp [hlt]
    · rw [Array.getElem?_setIfInBounds_ne (Ne.symm hk)]
  simp only [setObj, Sem.run, h1, hh]
theorem del_ok (h : Sat G F W E S w) {ts : Array TypeId} {t ty : TypeId} (ht : ts[0]? = some t) {x x' k k' : Value} (hx : VR E x x') (hk : VR E k k') (hp : delS P S t x k = some S') :
    ∃ w', (Builtin.delete_ ts ty #[x', k']).run P w = .ok (.tuple #[]) w' ∧ Sat G F W E S' w' ∧ S'.n = S.n := by
  unfold delS at hp
  split at hp
  · rename_i kt et r hd
    cases hx with | map he =>
    split at hp
    · rename_i es c hg
      obtain ⟨e, arr, he', h1, hL⟩ := h.map hg
      rw [he] at he'; cases he'
      split at hp
      · rename_i i hf
        obtain ⟨rfl, hc, _, hfk, hin⟩ := findS_ok (P := P) hk hL hf
        obtain ⟨e0, f0, he0, hf0⟩ := hin i rfl
        obtain ⟨es', hm, rfl⟩ := setMap_some hp
        rw [delR_eq] at hm
        split at hm
        · rename_i hlt
          cases hm
          have hfk' := hfk w
          simp only [hit, hf0, Option.map_some] at hfk'
          have hc' := hc w
          rw [Array.isEmpty_toList] at hc'
          have hl : es.length = arr.size := by simpa using hL.1
          obtain ⟨w', hr, hs⟩ := h.putMap hg he h1 (arr' := arr.eraseIdxIfInBounds i) (es' := es.eraseIdx i) (by
            have : i < arr.size := by omega
            simp only [Array.eraseIdxIfInBounds, this, dif_pos, Array.toList_eraseIdx]
            exact hL.eraseIdx i) c
          refine ⟨w', ?_, hs, SW.set_n _ _ _⟩
          unfold Builtin.delete_
          simp only [ht, List.getElem?_toArray, List.getElem?_cons_zero, List.getElem?_cons_succ, Sem.run_bind, run_underlying hd, Result.andThen_ok, run_getMap h1, hc', hfk', hr P, Sem.run_pure]
        · cases hm
      · rename_i hf
        cases hp
        obtain ⟨rfl, hc, _, hfk, _⟩ := findS_ok (P := P) hk hL hf
        have hfk' := hfk w
        simp only [hit] at hfk'
        have hc' := hc w
        rw [Array.isEmpty_toList] at hc'
        have hself := run_setSame (P := P) h1
        refine ⟨w, ?_, h, rfl⟩
        unfold Builtin.delete_
        simp only [ht, List.getElem?_toArray, List.getElem?_cons_zero, List.getElem?_cons_succ, Sem.run_bind, run_underlying hd, Result.andThen_ok, run_getMap h1, hc', hfk', hself, Sem.run_pure]
      · cases hp
    · cases hp
  · cases hp
end
end Go.Proofs.YtaeophaecclnbaaGreatDoor
namespace Go.Proofs.YtaeophaecclnbaaGreatDoor
open Go
section
variable {P : Program} {G : Nat} {F : Nat → Option Obj} {W : World} {E : Env} {S S' : SW} {w : World}
/-- What is appended. -/
theorem src_ok (h : Sat G F W E S w) {z n : Nat} {u : TypeId} (hu : srcOk P u = true) {x x' : Value} (hx : VR E x x') (hn : lenS x = some n) {news : List Value} (hs : srcS S z n x = some news) (hone : allL oneC news = true) (hlen : news.length = n * z) :
    ∃ news', VL E news news' ∧ Src P z u x' n news' w := by
  have hk : (∃ e', P.underlying u = some (.slice e')) ∨ P.underlying u = some .string := by
    unfold srcOk at hu
    split at hu
    · exact .inl ⟨_, by assumption⟩
    · exact .inr (by assumption)
    · cases hu
  have one : ∀ news', VL E news news' → ∀ v ∈ news', v.oneCell' = true := fun news' hv v hv' => by
    obtain ⟨i, hi⟩ := List.getElem?_of_mem hv'
    have hlt : i < news.length := by have := (List.getElem?_eq_some_iff.1 hi).1; have := hv.1; omega
    have hx : news[i]? = some (news[i]'hlt) := List.getElem?_eq_getElem _
    rw [oneC_eq _ _ (hv.2 i _ _ hx hi)]
    exact (allL_iff _ _).1 hone _ (List.mem_of_getElem? hx)
  unfold srcS at hs
  split at hs
  · rename_i l c
    cases hx
    simp only [lenS, Option.some.injEq] at hn
    subst hn
    by_cases h0 : Nat.beq l 0 = true
    · rw [h0, cond_true] at hs
      cases hs
      have := Nat.eq_of_beq_eq_true h0
      subst this
      exact ⟨[], LR.nil, hk, fun _ => rfl, run_firstCells_none w z 0 0 c, run_firstCells_none w.drew z 0 0 c, by simp, fun _ h => by cases h⟩
    · rw [Bool.eq_false_iff.2 h0] at hs; cases hs
  · rename_i a l c
    cases hx with | sl hc =>
    rename_i a' c'
    simp only [lenS, Option.some.injEq] at hn
    subst hn
    by_cases h0 : Nat.beq (l * z) 0 = true
    · rw [h0, cond_true] at hs
      cases hs
      have h0' := Nat.eq_of_beq_eq_true h0
      refine ⟨[], LR.nil, hk, fun _ => rfl, ?_, ?_, by simp [h0'], fun _ h => by cases h⟩ <;> simp [Builtin.firstCells, h0', loadCells, loadCellsFrom]
    · rw [Bool.eq_false_iff.2 h0, cond_false] at hs
      have h0' : l * z ≠ 0 := fun hc => h0 (by rw [hc]; rfl)
      have hl0 : 0 < l := Nat.pos_of_ne_zero fun hc => h0' (by rw [hc, Nat.zero_mul])
      obtain ⟨hn', l', hL, hcell⟩ := h.read (hc.2.2.1.resolve_left (by have := hc.2.1; omega)) hs
      have hll : l'.length = l * z := hL.1.symm.trans hn'
      refine ⟨l', hL, hk, fun _ => rfl, ?_, ?_, hll, one l' hL⟩
      · exact run_loadN hcell hll
      · exact run_loadN (w := w.drew) (fun j v' hj => by simpa using hcell j v' hj) hll
  · rename_i s
    cases hx
    simp only [lenS, Option.some.injEq] at hn
    subst hn
    by_cases h0 : (Nat.beq z 1 && Nat.beq s.size s.size) = true
    · rw [h0, cond_true] at hs
      cases hs
      rw [Bool.and_eq_true] at h0
      have := Nat.eq_of_beq_eq_true h0.1
      subst this
      have hself : VL E (byteCells s) (byteCells s) := LR.of_map fun b _ => .int _ _
      exact ⟨byteCells s, hself, hk, fun _ => rfl, firstCells_string s w, firstCells_string s w.drew, by rw [byteCells_length, Nat.mul_one], one _ hself⟩
    · rw [Bool.eq_false_iff.2 h0] at hs; cases hs
  · cases hs
theorem zlen_some {e : TypeId} {z : Nat} (h : zlen P e z = true) : ∃ i v, P.info? e = some i ∧ i.zero = some v ∧ v.cells.size = z := by
  unfold zlen at h
  split at h
  · rename_i l hl
    obtain ⟨i, v, hi, hv, rfl, _⟩ := zeroOf_some (E := fun _ => none) hl
    exact ⟨i, v, hi, hv, by simpa using Nat.eq_of_beq_eq_true h⟩
  · cases h
/-- A row that grew: a new one. -/
theorem Sat.grown (h : Sat G F W E S w) {cs cs' : List Value} (hc : VL E cs cs') (rest : Array Value) (e : TypeId) {z cap m : Nat} (hk : (cs'.toArray ++ rest).size = cap * z) (hm : m ≤ cap) :
    Sat G F W (E.put S.n ⟨w.heap.size, 0, cap * z⟩) (S.new (.cells cs e false)) (w.drew.alloc (.cells (cs'.toArray ++ rest) e)) ∧
      VR (E.put S.n ⟨w.heap.size, 0, cap * z⟩) (.slice (some ⟨S.n, 0, none⟩) m (CAPX + z)) (.slice (some ⟨w.heap.size, 0, none⟩) m cap) := by
  have hle : E.le (E.put S.n ⟨w.heap.size, 0, cap * z⟩) := Env.put_le (h.new _ (Nat.le_refl _)) _
  have hl := hc.1
  simp at hk
  refine ⟨h.drew.lay _ _ ⟨w.heap.size, 0, cap * z⟩ rfl ⟨cs'.toArray ++ rest, (0, 0), ?_, by simp; omega, ?_, fun hx => (by cases hx), fun o _ ho => by omega, fun j v hj => ?_⟩, .sl ⟨rfl, hm, .inr ⟨rfl, _, Env.put_same _ _ _, by simp⟩, .inr ⟨z, _, rfl, Env.put_same _ _ _, by simp⟩⟩⟩
  · show (w.heap.push _)[w.heap.size]? = _
    simp
  · show cs.length ≤ cap * z
    omega
  · obtain ⟨v', h1, h2⟩ := hc.get hj
    refine ⟨v', ?_, h2.mono hle⟩
    have hlt : j < cs'.length := (List.getElem?_eq_some_iff.1 h1).1
    show (cs'.toArray ++ rest)[0 + j]? = _
    rw [Nat.zero_add, Array.getElem?_append_left (by simpa using hlt)]
    simpa using h1
theorem head_ok (h : Sat G F W E S w) {a a' : Addr} {n : Nat} (ha : n ≠ 0 → AR E a a') {old : List Value} (ho : headS S a n = some old) :
    ∃ old', VL E old old' ∧ old.length = n ∧ ∀ w' : World, (∀ x, w'.cell? x = w.cell? x) → (loadCells a' n).run P w' = .ok old'.toArray w' := by
  unfold headS at ho
  by_cases h0 : Nat.beq n 0 = true
  · rw [h0, cond_true] at ho
    cases ho
    have := Nat.eq_of_beq_eq_true h0
    subst this
    exact ⟨[], LR.nil, rfl, fun w' _ => by simp [loadCells, loadCellsFrom]⟩
  · rw [Bool.eq_false_iff.2 h0, cond_false] at ho
    obtain ⟨hn', l', hL, hcell⟩ := h.read (ha fun hc => h0 (by rw [hc]; rfl)) ho
    exact ⟨l', hL, hn', fun w' hw => run_loadN (w := w') (fun j v' hj => by rw [hw]; exact hcell j v' hj) (hL.1.symm.trans hn')⟩
def AppPost (G : Nat) (F : Nat → Option Obj) (W : World) (E : Env) (S S' : SW) (v : Value) (r : Result Value) : Prop :=
  ∃ v' w' E', r = .ok v' w' ∧ Ext S.n E E' ∧ S.n ≤ S'.n ∧ Sat G F W E' S' w' ∧ VR E' v v'
theorem AppPost.grow {t u ty e : TypeId} {ie : TypeInfo} {zv : Value} (ht : P.underlying t = some (.slice e)) (hi : P.info? e = some ie) (hz : ie.zero = some zv) (hzs : zv.cells.size = ie.size) {base : Option Addr} {len cap : Nat} {old old' news news' : List Value} (hold : VL E old old')
    (hol : old.length = len * ie.size) (hrun : (Builtin.firstCells ie.size len (.slice base len cap)).run P w.drew = .ok old'.toArray w.drew) {x' : Value} {n : Nat} (hsrc : Src P ie.size u x' n news' w) (hnews : VL E news news') (hg : cap < len + n) (hsm : (len + n) * (ie.bytes + 1) ≤ 1000000000)
    {S1 : SW} (h1 : Sat G F W E S1 w) (hn1 : S1.n = S.n) :
    AppPost G F W E S (S1.new (.cells (old ++ news) e false)) (.slice (some ⟨S.n, 0, none⟩) (len + n) (CAPX + ie.size)) ((Builtin.append_ #[t, u] ty #[.slice base len cap, x']).run P w) := by
  have hb : (len + n) * ie.bytes ≤ 1000000000 := Nat.le_trans (Nat.mul_le_mul_left _ (Nat.le_succ _)) hsm
  have hl : len + n ≤ 1000000000 := Nat.le_trans (Nat.le_mul_of_pos_right _ (Nat.succ_pos _)) hsm
  have hr := run_append_grow_src (P := P) w t u ty e ie zv ht hi hz base len cap old' hrun x' n news' hsrc hg (by omega) (growslice_fits hg (by omega))
  have hge := grownCap_ge w (len + n) cap e
  have hsize : ((old' ++ news').toArray ++ Builtin.zeroCells zv.cells (grownCap w (len + n) cap e - (len + n))).size = grownCap w (len + n) cap e * ie.size := by
    rw [Array.size_append, size_zeroCells, hzs]
    have e1 := hold.1
    have e2 := hsrc.newsLen
    simp only [List.size_toArray, List.length_append]
    rw [← e1, hol, e2, ← Nat.add_mul, ← Nat.add_mul]
    congr 1
    omega
  obtain ⟨hs, hv⟩ := h1.grown (m := len + n) (hold.append hnews) (Builtin.zeroCells zv.cells (grownCap w (len + n) cap e - (len + n))) e hsize hge
  rw [hn1] at hs hv
  exact ⟨_, _, _, hr, Env.put_ext _ _ _, by rw [SW.new_n, hn1]; omega, hs, hv⟩
theorem append_ok (h : Sat G F W E S w) {ts : Array TypeId} {ty : TypeId} {s s' x x' v : Value} (hs : VR E s s') (hx : VR E x x') (ha : appendS P S ts.toList s x = some (v, S')) :
    AppPost G F W E S S' v ((Builtin.append_ ts ty #[s', x']).run P w) := by
  unfold appendS at ha
  split at ha
  · rename_i t u hts
    have : ts = #[t, u] := by apply Array.ext'; simpa using hts
    subst this
    split at ha
    · rename_i e ht
      split at ha
      · rename_i ie n len hi hlx hls
        split at ha
        · cases ha
        · rename_i news hnews
          by_cases hall : (srcOk P u && Nat.blt 0 ie.size && Nat.ble ((len + n) * (ie.bytes + 1)) 1000000000 && zlen P e ie.size && allL oneC news && Nat.beq news.length (n * ie.size)) = true
          · rw [hall, cond_true] at ha
            simp only [Bool.and_eq_true] at hall
            obtain ⟨⟨⟨⟨⟨q1, q2⟩, q3⟩, q4⟩, q5⟩, q6⟩ := hall
            have q2' : 0 < ie.size := Nat.le_of_ble_eq_true q2
            have q3' := Nat.le_of_ble_eq_true q3
            have q6' := Nat.eq_of_beq_eq_true q6
            obtain ⟨i', zv, hi', hz, hzs⟩ := zlen_some q4
            rw [hi] at hi'; cases hi'
            obtain ⟨news', hnl, hsrc⟩ := src_ok (P := P) h q1 hx hlx hnews q5 q6'
            unfold appN at ha
            split at ha
            · cases hs
              simp only [lenS, Option.some.injEq] at hls
              subst hls
              by_cases h0 : Nat.beq n 0 = true
              · rw [h0, cond_true] at ha
                cases ha
                have := Nat.eq_of_beq_eq_true h0
                subst this
                have hnn : news' = [] := List.eq_nil_of_length_eq_zero (by rw [hsrc.newsLen]; simp)
                subst hnn
                exact ⟨_, w, E, run_append_nothing w t u ty e ie ht hi none 0 0 (Nat.le_refl _) x' hsrc, Ext.refl _ _, Nat.le_refl _, h, .snil _ _⟩
              · rw [Bool.eq_false_iff.2 h0, cond_false] at ha
                cases ha
                have hn0 : n ≠ 0 := fun hc => h0 (by rw [hc]; rfl)
                have := AppPost.grow (ty := ty) ht hi hz hzs (base := none) (len := 0) (cap := 0) (old := []) (old' := []) LR.nil (by simp) (run_firstCells_none _ _ _ _ _) hsrc hnl (by omega) q3' h rfl
                simpa using this
            · rename_i a len' cap
              simp only [lenS, Option.some.injEq] at hls
              subst hls
              cases hs with | sl hc =>
              rename_i a' cap'
              by_cases h0 : Nat.beq n 0 = true
              · rw [h0, cond_true] at ha
                cases ha
                have := Nat.eq_of_beq_eq_true h0
                subst this
                have hnn : news' = [] := List.eq_nil_of_length_eq_zero (by rw [hsrc.newsLen]; simp)
                subst hnn
                exact ⟨_, w, E, run_append_nothing w t u ty e ie ht hi (some a') len' cap' hc.2.1 x' hsrc, Ext.refl _ _, Nat.le_refl _, h, .sl hc⟩
              · rw [Bool.eq_false_iff.2 h0, cond_false] at ha
                have hn0 : n ≠ 0 := fun hc => h0 (by rw [hc]; rfl)
                have old_run : ∀ {old : List Value}, headS S a (len' * ie.size) = some old → ∃ old', VL E old old' ∧ old.length = len' * ie.size ∧ (Builtin.firstCells ie.size len' (.slice (some a') len' cap')).run P w.drew = .ok old'.toArray w.drew := fun {old} ho => by
                  obtain ⟨old', h1, h2, h3⟩ := head_ok (P := P) h (a' := a') (fun hne => hc.2.2.1.resolve_left (fun h0 => hne (by have := hc.2.1; rw [show len' = 0 by omega, Nat.zero_mul]))) ho
                  exact ⟨old', h1, h2, h3 w.drew (fun x => by simp)⟩
                have place : cap' ≠ 0 → S.store (a.add (len' * ie.size)) news = some S' → len' + n ≤ cap' → ∃ w', (Builtin.append_ #[t, u] ty #[.slice (some a') len' cap', x']).run P w = .ok (.slice (some a') (len' + n) cap') w' ∧ Sat G F W E S' w' ∧ S'.n = S.n := fun hne hst hroom => by
                  have hA := hc.2.2.1.resolve_left hne
                  obtain ⟨b, o, hbo, h1, h2, h3, h4, h5⟩ := h.write2 (hA.add _) hnl hst
                  obtain ⟨_, ee, _, rfl⟩ := hA
                  rw [Addr.add_none] at hbo
                  injection hbo with hb ho
                  subst hb; subst ho
                  exact ⟨_, run_append_room_src (P := P) w t u ty e ie ht hi _ _ _ _ x' n news' hsrc hroom h3 h4, h1, h2⟩
                by_cases hX : Nat.ble CAPX cap = true
                · rw [hX, cond_true] at ha
                  unfold appX at ha
                  by_cases hcz : Nat.beq cap (CAPX + ie.size) = true
                  · rw [hcz, cond_true] at ha
                    have hcz' := Nat.eq_of_beq_eq_true hcz
                    subst hcz'
                    have hcx : ∃ ee, E a.block = some ee ∧ a.off + cap' * ie.size = ee.k := by
                      rcases hc.2.2.2 with ⟨hlt, _⟩ | ⟨z, ee, hz', he, hk⟩
                      · omega
                      · have : z = ie.size := by omega
                        subst this
                        exact ⟨ee, he, hk⟩
                    obtain ⟨ee, hee, hk⟩ := hcx
                    split at ha
                    · rename_i cs t0 x0 hg
                      by_cases hfit : Nat.ble (a.off + (len' + n) * ie.size) cs.length = true
                      · rw [hfit, cond_true] at ha
                        have hfit' := Nat.le_of_ble_eq_true hfit
                        obtain ⟨ee', he', arr, fr, k1, k2, k3, k4, k5, k6⟩ := h.obj _ _ hg
                        rw [hee] at he'; cases he'
                        have hroom : len' + n ≤ cap' := Nat.le_of_mul_le_mul_right (by omega) q2'
                        split at ha
                        · rename_i S1 hst
                          cases ha
                          obtain ⟨w', hr, hsat, hn⟩ := place (by omega) hst hroom
                          exact ⟨_, w', E, hr, Ext.refl _ _, by omega, hsat, .sl ⟨hc.1, hroom, hc.2.2.1, hc.2.2.2⟩⟩
                        · cases ha
                      · rw [Bool.eq_false_iff.2 hfit, cond_false] at ha
                        by_cases hte : Nat.beq t0 e = true
                        case neg => rw [Bool.eq_false_iff.2 hte] at ha; cases ha
                        rw [hte, cond_true] at ha
                        have hte' := (Nat.eq_of_beq_eq_true hte).symm
                        subst hte'
                        split at ha
                        · rename_i old hold
                          cases ha
                          obtain ⟨old', g1, g2, g3⟩ := old_run hold
                          by_cases hroom : len' + n ≤ cap'
                          · -- in place: the row goes on under a new name
                            have hA := hc.2.2.1.resolve_left (by omega)
                            obtain ⟨e1, arr, fr, he1, rfl, k1, k2, k3, k4, k5, k6⟩ := h.row hA hg
                            rw [hee] at he1; cases he1
                            have hlen_old : a.off + len' * ie.size ≤ cs.length ∨ len' * ie.size = 0 := by
                              unfold headS at hold
                              by_cases hz0 : Nat.beq (len' * ie.size) 0 = true
                              · exact .inr (Nat.eq_of_beq_eq_true hz0)
                              · rw [Bool.eq_false_iff.2 hz0, cond_false] at hold
                                obtain ⟨_, cs', t', x', hg', hle, _⟩ := cells_some hold
                                rw [hg] at hg'; cases hg'
                                exact .inl hle
                            have hmul : (len' + n) * ie.size ≤ cap' * ie.size := Nat.mul_le_mul_right _ hroom
                            have hnewsl : news'.length = n * ie.size := hsrc.newsLen
                            rw [Nat.add_mul] at hmul
                            have hin : a.off + ee.d + len' * ie.size + news'.length ≤ arr.size := by omega
                            have hr := run_append_room_src (P := P) w t u ty e ie ht hi ee.b (a.off + ee.d) len' cap' x' n news' hsrc hroom (fun j hj => by
                              rw [cell_arr k1, Array.getElem?_eq_getElem (by omega)]; rfl) (fun j hj => frozen_arr k1 (k5 _ (by omega)))
                            obtain ⟨arr', s1, s2, s3⟩ := setCells_heap ee.b news' (a.off + ee.d + len' * ie.size) w arr k1 hin
                            obtain ⟨r1, r2, r3, r4⟩ := setCells_rest ee.b news' (a.off + ee.d + len' * ie.size) w
                            have hle : E.le (E.put S.n ⟨ee.b, ee.d + a.off, ee.k - a.off⟩) := Env.put_le (h.new _ (Nat.le_refl _)) _
                            have hnotn : a.block ≠ S.n := fun hc => by rw [hc] at hee; rw [h.new _ (Nat.le_refl _)] at hee; cases hee
                            refine ⟨_, _, E.put S.n ⟨ee.b, ee.d + a.off, ee.k - a.off⟩, hr, Env.put_ext _ _ _, by rw [SW.new_n, SW.del_n]; omega, ?_, ?_⟩
                            · refine h.step ee.b S.n hle (fun i hi => ?_) (fun k hk _ => setCells_other _ _ _ _ _ hk) (by rw [r1]; exact Nat.le_refl _) (fun i o hi hio => ?_) (fun o hio => ?_) (h.own _ _ _ hg hee) r2 r3 r4
                              · rw [SW.new_n, SW.del_n] at hi
                                unfold Env.put
                                rw [if_neg (by omega)]
                                exact h.new i (by omega)
                              · rw [SW.new_get, SW.del_n, if_neg hi, SW.del_get] at hio
                                split at hio
                                · cases hio
                                · rename_i hne
                                  exact ⟨hio, fun e' he' hb => hne (h.inj _ _ _ _ _ _ hio hg he' hee hb)⟩
                              · rw [SW.new_get, SW.del_n, if_pos rfl] at hio
                                cases hio
                                refine ⟨_, Env.put_same _ _ _, rfl, arr', fr, ?_, by simp only; omega, ?_, fun hx => (by cases hx), fun o ho => k5 o (by omega), fun j v hj => ?_⟩
                                · exact s1
                                · simp only [List.length_append]; have := hnl.1; omega
                                · simp only
                                  rw [s3]
                                  by_cases hj1 : j < old.length
                                  · rw [List.getElem?_append_left hj1] at hj
                                    rw [if_neg (by omega)]
                                    unfold headS at hold
                                    by_cases hz0 : Nat.beq (len' * ie.size) 0 = true
                                    · rw [hz0, cond_true] at hold
                                      cases hold
                                      simp at hj1
                                    · rw [Bool.eq_false_iff.2 hz0, cond_false] at hold
                                      obtain ⟨_, cs', t', x', hg', hle', rfl⟩ := cells_some hold
                                      rw [hg] at hg'; cases hg'
                                      rw [List.getElem?_take, List.getElem?_drop] at hj
                                      split at hj
                                      · obtain ⟨v', g4, g5⟩ := k6 _ _ hj
                                        exact ⟨v', by rw [show ee.d + a.off + j = ee.d + (a.off + j) by omega]; exact g4, g5.mono hle⟩
                                      · cases hj
                                  · rw [List.getElem?_append_right (by omega)] at hj
                                    obtain ⟨v', g4, g5⟩ := hnl.get hj
                                    have hjl : j - old.length < news'.length := (List.getElem?_eq_some_iff.1 g4).1
                                    rw [if_pos (by omega)]
                                    exact ⟨v', by rw [show ee.d + a.off + j - (a.off + ee.d + len' * ie.size) = j - old.length by omega]; exact g4, g5.mono hle⟩
                            · refine .sl ⟨rfl, hroom, .inr ⟨rfl, _, Env.put_same _ _ _, by simp [Nat.add_comm]⟩, .inr ⟨ie.size, _, rfl, Env.put_same _ _ _, by simp only; omega⟩⟩
                          · exact AppPost.grow ht hi hz hzs g1 g2 g3 hsrc hnl (by omega) q3' (h.del _) (SW.del_n _ _)
                        · cases ha
                    · cases ha
                  · rw [Bool.eq_false_iff.2 hcz] at ha; cases ha
                · rw [Bool.eq_false_iff.2 hX, cond_false] at ha
                  have hcap : cap < CAPX := by rw [Nat.ble_eq] at hX; omega
                  cases sl_cap hc hcap
                  unfold appE at ha
                  by_cases hroom : Nat.ble (len' + n) cap = true
                  · rw [hroom, cond_true] at ha
                    have hroom' := Nat.le_of_ble_eq_true hroom
                    split at ha
                    · rename_i S1 hst
                      cases ha
                      obtain ⟨w', hr, hsat, hn⟩ := place (by omega) hst hroom'
                      exact ⟨_, w', E, hr, Ext.refl _ _, by omega, hsat, .sl ⟨hc.1, hroom', hc.2.2.1, hc.2.2.2⟩⟩
                    · cases ha
                  · rw [Bool.eq_false_iff.2 hroom, cond_false] at ha
                    have hroom' : ¬ (len' + n ≤ cap) := by rw [Nat.ble_eq] at hroom; exact hroom
                    split at ha
                    · rename_i old hold
                      cases ha
                      obtain ⟨old', g1, g2, g3⟩ := old_run hold
                      exact AppPost.grow ht hi hz hzs g1 g2 g3 hsrc hnl (by omega) q3' h rfl
                    · cases ha
            · cases ha
          · rw [Bool.eq_false_iff.2 hall] at ha; cases ha
      · cases ha
    · cases ha
  · cases ha
end
end Go.Proofs.YtaeophaecclnbaaGreatDoor
namespace Go.Proofs.YtaeophaecclnbaaGreatDoor
open Go
section
variable {P : Program} {G : Nat} {F : Nat → Option Obj} {W : World} {E : Env} {S S' : SW} {w : World}
theorem first_ok (h : Sat G F W E S w) {z n : Nat} {x x' : Value} (hx : VR E x x') {l : Nat} (hl : lenS x = some l) (hn : n ≤ l) {news : List Value} (hs : srcS S z n x = some news) :
    ∃ news', VL E news news' ∧ (Builtin.firstCells z n x').run P w = .ok news'.toArray w := by
  unfold srcS at hs
  split at hs
  · rename_i k c
    cases hx
    by_cases h0 : Nat.beq n 0 = true
    · rw [h0, cond_true] at hs
      cases hs
      exact ⟨[], LR.nil, run_firstCells_none w z n k c⟩
    · rw [Bool.eq_false_iff.2 h0] at hs; cases hs
  · rename_i a k c
    cases hx with | sl hc =>
    rename_i a' c'
    simp only [lenS, Option.some.injEq] at hl
    subst hl
    by_cases h0 : Nat.beq (n * z) 0 = true
    · rw [h0, cond_true] at hs
      cases hs
      have h0' := Nat.eq_of_beq_eq_true h0
      exact ⟨[], LR.nil, by simp [Builtin.firstCells, h0', loadCells, loadCellsFrom]⟩
    · rw [Bool.eq_false_iff.2 h0, cond_false] at hs
      have h0' : n * z ≠ 0 := fun hc => h0 (by rw [hc]; rfl)
      have hl0 : 0 < n := Nat.pos_of_ne_zero fun hc => h0' (by rw [hc, Nat.zero_mul])
      obtain ⟨hn', l', hL, hcell⟩ := h.read (hc.2.2.1.resolve_left (by have := hc.2.1; omega)) hs
      exact ⟨l', hL, run_loadN hcell (hL.1.symm.trans hn')⟩
  · rename_i s
    cases hx
    by_cases h0 : (Nat.beq z 1 && Nat.beq n s.size) = true
    · rw [h0, cond_true] at hs
      cases hs
      rw [Bool.and_eq_true] at h0
      have h1 := Nat.eq_of_beq_eq_true h0.1
      have h2 := Nat.eq_of_beq_eq_true h0.2
      subst h1; subst h2
      exact ⟨byteCells s, LR.of_map fun b _ => .int _ _, firstCells_string s w⟩
    · rw [Bool.eq_false_iff.2 h0] at hs; cases hs
  · cases hs
theorem run_lenOf {x x' : Value} (hx : VR E x x') {l : Nat} (hl : lenS x = some l) (w : World) : (Builtin.lenOf x').run P w = .ok l w := by
  unfold lenS at hl
  split at hl
  · cases hl
    cases hx <;> rfl
  · cases hl
    cases hx; rfl
  · cases hl
theorem copy_ok (h : Sat G F W E S w) {ts : Array TypeId} {ty : TypeId} {d d' x x' v : Value} (hd : VR E d d') (hx : VR E x x') (hc : copyS P S ts.toList d x = some (v, S')) :
    ∃ v' w', (Builtin.copy_ ts ty #[d', x']).run P w = .ok v' w' ∧ VR E v v' ∧ Sat G F W E S' w' ∧ S'.n = S.n := by
  unfold copyS at hc
  split at hc
  · rename_i t tl hts
    have ht : ts[0]? = some t := by
      have : ts.toList[0]? = some t := by rw [hts]; rfl
      simpa using this
    split at hc
    · rename_i e b dl cp xl hu hxl
      split at hc
      · cases hc
      · rename_i z hz
        obtain ⟨i, hi, rfl⟩ := sizeT_some hz
        have hL := run_lenOf (P := P) hx hxl w
        split at hc
        · cases hc
        · rename_i hsrc
          cases hc
          obtain ⟨news', hn, hf⟩ := first_ok (P := P) h hx hxl (Nat.min_le_left _ _) hsrc
          have hnn := LR.inv_nil hn
          subst hnn
          refine ⟨.int .i64 (Nat.min xl dl : Nat), w, ?_, .int _ _, h, rfl⟩
          cases hd <;> simp [Builtin.copy_, ht, run_underlying hu, hL, run_size hi, hf, storeCells, goInt]
        · rename_i news hne hsrc
          obtain ⟨news', hn, hf⟩ := first_ok (P := P) h hx hxl (Nat.min_le_left _ _) hsrc
          split at hc
          · rename_i a
            split at hc
            · rename_i S1 hst
              cases hc
              cases hd with | sl hcr =>
              rename_i a' c'
              have hpos : 0 < Nat.min xl dl := by
                rcases Nat.eq_zero_or_pos (Nat.min xl dl) with h0 | h0
                · exfalso
                  rw [h0] at hsrc
                  unfold srcS at hsrc
                  split at hsrc
                  · cases hsrc; exact hne rfl
                  · simp only [Nat.zero_mul] at hsrc
                    cases (show some [] = some news from hsrc)
                    exact hne rfl
                  · rename_i s
                    by_cases hcond : (Nat.beq i.size 1 && Nat.beq 0 s.size) = true
                    · rw [hcond, cond_true] at hsrc
                      rw [Bool.and_eq_true] at hcond
                      have hs0 := Nat.eq_of_beq_eq_true hcond.2
                      have : s.data.toList = [] := List.eq_nil_of_length_eq_zero (by
                        rw [Array.length_toList]; exact hs0.symm)
                      rw [this] at hsrc
                      cases hsrc
                      exact hne rfl
                    · rw [Bool.eq_false_iff.2 hcond] at hsrc; cases hsrc
                  · cases hsrc
                · exact h0
              have hdl : 0 < dl := Nat.lt_of_lt_of_le hpos (Nat.min_le_right _ _)
              obtain ⟨w', hr, hs, hn'⟩ := h.write (hcr.2.2.1.resolve_left (by have := hcr.2.1; omega)) hn hst
              refine ⟨.int .i64 (Nat.min xl dl : Nat), w', ?_, .int _ _, hs, hn'⟩
              simp [Builtin.copy_, ht, run_underlying hu, hL, run_size hi, hf, hr P, goInt]
            · cases hc
          · cases hc
    · cases hc
  · cases hc
theorem len_ok (h : Sat G F W E S w) {ts : Array TypeId} {ty : TypeId} {x x' v : Value} (hx : VR E x x') (hl : lenBS P S ts.toList x = some v) : (Builtin.len_ ts ty #[x']).run P w = .ok v w ∧ VR E v v := by
  unfold lenBS at hl
  split at hl
  · rename_i t tl hts
    have ht : ts[0]? = some t := by
      have : ts.toList[0]? = some t := by rw [hts]; rfl
      simpa using this
    split at hl
    · rename_i e a n c hu
      cases hl
      refine ⟨?_, .int _ _⟩
      cases hx <;> simp [Builtin.len_, ht, run_underlying hu, goInt]
    · rename_i k e r hu
      split at hl
      · rename_i es c hg
        cases hl
        cases hx with | map he =>
        obtain ⟨e', arr, he', h1, hL⟩ := h.map hg
        rw [he] at he'; cases he'
        refine ⟨?_, .int _ _⟩
        have : es.length = arr.size := by simpa using hL.1
        simp [Builtin.len_, ht, run_underlying hu, run_getMap h1, goInt, this]
      · cases hl
    · rename_i a hu
      split at hl
      · rename_i n e hu2
        cases hl
        refine ⟨?_, .int _ _⟩
        simp [Builtin.len_, ht, run_underlying hu, run_underlying hu2, goInt]
      · cases hl
    · cases hl
  · cases hl
theorem cap_ok {ts : Array TypeId} {ty : TypeId} {x x' v : Value} (hx : VR E x x') (hl : capBS P ts.toList x = some v) : (Builtin.cap_ ts ty #[x']).run P w = .ok v w ∧ VR E v v := by
  unfold capBS at hl
  split at hl
  · rename_i t tl hts
    have ht : ts[0]? = some t := by
      have : ts.toList[0]? = some t := by rw [hts]; rfl
      simpa using this
    split at hl
    · rename_i e a n c hu
      by_cases hX : Nat.ble CAPX c = true
      · rw [hX] at hl; cases hl
      · rw [Bool.eq_false_iff.2 hX] at hl
        cases hl
        cases hx with | sl hc =>
        cases sl_cap hc (by rw [Nat.ble_eq] at hX; omega)
        refine ⟨?_, .int _ _⟩
        simp [Builtin.cap_, ht, run_underlying hu, goInt]
    · cases hl
  · cases hl
theorem clear_ok (h : Sat G F W E S w) {ts : Array TypeId} {t ty : TypeId} (ht : ts[0]? = some t) {x x' : Value} (hx : VR E x x') (hc : clearS P S t x = some S') :
    ∃ w', (Builtin.clear_ ts ty #[x']).run P w = .ok (.tuple #[]) w' ∧ Sat G F W E S' w' ∧ S'.n = S.n := by
  unfold clearS at hc
  split at hc
  · rename_i e a n c hu
    split at hc
    · rename_i z hz
      obtain ⟨i, v, hi, hv, rfl, hzz⟩ := zeroOf_some (E := E) hz
      cases hx with | sl hcr =>
      rename_i a' c'
      rcases Nat.eq_zero_or_pos n with h0 | h0
      · subst h0
        have : repL 0 v.cells.toList = [] := rfl
        rw [this] at hc
        cases (show some S = some S' from hc)
        exact ⟨w, by simp [Builtin.clear_, ht, run_underlying hu], h, rfl⟩
      · have hself : VL E (repL n v.cells.toList) (Builtin.zeroCells v.cells n).toList := by
          have : (Builtin.zeroCells v.cells n).toList = repL n v.cells.toList := zeros_eq v.cells n
          rw [this]
          refine ⟨rfl, fun k p q hp hq => ?_⟩
          rw [hp] at hq; cases hq
          have hlt := (List.getElem?_eq_some_iff.1 hp).1
          rw [repL_length] at hlt
          have hl0 : 0 < v.cells.toList.length := Nat.pos_of_ne_zero fun hc => by rw [hc] at hlt; omega
          rw [repL_get _ hl0 _ _ hlt] at hp
          exact hzz.2 _ _ _ hp hp
        obtain ⟨w', hr, hs, hn⟩ := h.write (hcr.2.2.1.resolve_left (by have := hcr.2.1; omega)) hself hc
        refine ⟨w', ?_, hs, hn⟩
        obtain ⟨m, rfl⟩ : ∃ m, n = m + 1 := ⟨n - 1, by omega⟩
        simp [Builtin.clear_, ht, run_underlying hu, run_zero hi hv, hr P]
    · cases hc
  · cases hc
theorem ints_ok : ∀ (l l' : List Value) (ns : List Int), intsOf l = some ns → VL E l l' → l' = ns.map (Value.int .u8)
  | [], l', ns, h, hl => by
    rw [LR.inv_nil hl]
    simp only [intsOf, Option.some.injEq] at h
    subst h; rfl
  | v :: l, l', ns, h, hl => by
    obtain ⟨v', m, rfl, hv, hm⟩ := hl.inv_cons
    unfold intsOf at h
    split at h
    · rename_i heq; cases heq
    · rename_i n l0 heq
      cases heq
      split at h
      · rename_i r hr
        cases h
        cases hv
        rw [ints_ok l m r hr hm]; rfl
      · cases h
    · cases h
theorem strOf_eq (ns : List Int) : ns.foldl (fun r n => r.push (UInt8.ofNat n.toNat)) ByteArray.empty = strOf ns := by
  have : ∀ (ns : List Int) (s : ByteArray), ns.foldl (fun r n => r.push (UInt8.ofNat n.toNat)) s = ⟨s.data ++ (ns.map fun n => UInt8.ofNat n.toNat).toArray⟩ := by
    intro ns
    induction ns with
    | nil => intro s; simp
    | cons n ns ih =>
      intro s
      rw [List.foldl_cons, ih]
      simp [ByteArray.push]
  rw [this]
  simp [strOf, ByteArray.empty, ByteArray.emptyWithCapacity]
  rfl
theorem isU8_some {e : TypeId} (h : isU8 P e = true) : P.underlying e = some (.int .u8) := by
  unfold isU8 at h
  split at h
  · assumption
  · cases h
theorem conv_ok (h : Sat G F W E S w) {src dst : TypeId} {x x' v : Value} (hx : VR E x x') (hc : convS P S src dst x = some (v, S')) :
    AppPost G F W E S S' v ((convert src dst x').run P w) := by
  unfold convS at hc
  split at hc
  · rename_i e a len cp hs hd
    by_cases hu : isU8 P e = true
    · rw [hu, cond_true] at hc
      have he := isU8_some hu
      split at hc
      · rename_i l hl
        split at hc
        · rename_i ns hns
          cases hc
          cases hx with | sl hcr =>
          rename_i a' c'
          obtain ⟨l', hL, hlen, hrun⟩ := head_ok (P := P) h (fun hne => hcr.2.2.1.resolve_left (by have := hcr.2.1; omega)) hl
          have hl' := ints_ok l l' ns hns hL
          subst hl'
          have hr := hrun w (fun _ => rfl)
          refine ⟨_, w, E, ?_, Ext.refl _ _, Nat.le_refl _, h, .string _⟩
          rw [run_convert_bytes_string w src dst e (some a') len c' hs he hd, run_bytesToString w a' len c' ns hr, strOf_eq]
        · cases hc
      · cases hc
    · rw [Bool.eq_false_iff.2 hu] at hc; cases hc
  · rename_i e s hs hd
    by_cases hu : isU8 P e = true
    · rw [hu, cond_true] at hc
      have he := isU8_some hu
      cases hc
      cases hx
      have hge := grownCap_ge w s.size 0 e
      have hsz : (bytesRow s (grownCap w s.size 0 e)).size = grownCap w s.size 0 e := by
        have : s.data.size = s.size := rfl
        simp only [bytesRow, Array.size_append, Array.size_map, Array.size_replicate, this]
        omega
      have hle : E.le (E.put S.n ⟨w.heap.size, 0, grownCap w s.size 0 e⟩) := Env.put_le (h.new _ (Nat.le_refl _)) _
      refine ⟨_, _, E.put S.n ⟨w.heap.size, 0, grownCap w s.size 0 e⟩, run_bytes_of_string w src dst e s hs hd he, Env.put_ext _ _ _, by rw [SW.new_n]; omega, h.drew.lay _ _ ⟨w.heap.size, 0, grownCap w s.size 0 e⟩ rfl ⟨bytesRow s (grownCap w s.size 0 e), ((bytesRow s (grownCap w s.size 0 e)).size, (bytesRow s (grownCap w s.size 0 e)).size + 1), ?_, by simp [hsz], ?_, fun hx => (by cases hx), fun o ho => by simp; omega, fun j v hj => ?_⟩, .sl ⟨rfl, hge, .inr ⟨rfl, _, Env.put_same _ _ _, by simp⟩, .inr ⟨1, _, rfl, Env.put_same _ _ _, by simp⟩⟩⟩
      · show (w.heap.push _)[w.heap.size]? = _
        simp
      · have : s.data.size = s.size := rfl
        simp [this]
        exact hge
      · have hlt := (List.getElem?_eq_some_iff.1 hj).1
        refine ⟨v, ?_, ?_⟩
        · simp only [Nat.zero_add, bytesRow]
          rw [Array.getElem?_append_left (by simpa using hlt)]
          simpa using hj
        · rw [List.getElem?_map] at hj
          cases hb : s.data.toList[j]? with
          | none => rw [hb] at hj; cases hj
          | some b => rw [hb] at hj; cases hj; exact .int _ _
    · rw [Bool.eq_false_iff.2 hu] at hc; cases hc
  · cases hc
end
end Go.Proofs.YtaeophaecclnbaaGreatDoor

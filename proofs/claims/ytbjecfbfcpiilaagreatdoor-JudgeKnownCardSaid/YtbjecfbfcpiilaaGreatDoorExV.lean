/- The executor: a step. -/
import Derived.Test.YtbjecfbfcpiilaaGreatDoorExT
namespace Go.Proofs.YtbjecfbfcpiilaaGreatDoor
open Go
section
variable {P : Program} {G : Nat} {F : Nat → Option Obj} {W : World} {E : Env} {S S' : SW} {w : World} {x : ONext}
theorem next_ok (h : Sat G F W E S w) {it it' v : Value} {ty : TypeId} (hi : VR E it it') (hn : nextS S it = some (v, S')) :
    ∃ v' w', (Instr.next it' true ty).run P w = .ok v' w' ∧ VR E v v' ∧ Sat G F W E S' w' ∧ S'.n = S.n := by
  unfold nextS at hn
  split at hn
  · rename_i r
    cases hi with | ptr ha =>
    obtain ⟨_, e, he, rfl⟩ := ha
    split at hn
    · rename_i s pos hg
      obtain ⟨e', he', hb⟩ := h.obj _ _ hg
      simp only at he
      rw [he] at he'; cases he'
      obtain ⟨hd0, hb'⟩ : e.d = 0 ∧ w.heap[e.b]? = some (.stringIter s pos) := hb
      have hlt : e.b < w.heap.size := (Array.getElem?_eq_some_iff.1 hb').1
      have hget : (getObj e.b).run P w = .ok (.stringIter s pos) w := by simp [getObj, Sem.run, hb']
      have hset : ∀ o, (setObj e.b o).run P w = .ok () { w with heap := w.heap.setIfInBounds e.b o } := fun o => by simp [setObj, Sem.run, hb']
      simp only [hd0, Nat.zero_add]
      by_cases hp : Nat.blt pos s.size = true
      · rw [hp, cond_true] at hn
        have hp' : pos < s.size := Nat.le_of_ble_eq_true hp
        cases hu : Utf8.decode s pos with
        | mk c wd =>
        rw [hu] at hn
        cases hn
        refine ⟨.tuple #[.bool true, .int .i64 pos, .int .i32 c], { w with heap := w.heap.setIfInBounds e.b (.stringIter s (pos + wd)) }, ?_, plain_refl 2 _ rfl, ?_, SW.set_n _ _ _⟩
        · simp only [Instr.next, Sem.run_bind, hget, Result.andThen_ok, hp', if_true, hu, hset, Sem.run_pure, goInt]
        · refine h.turn hg he _ (fun k hk => ?_) (by simp) rfl rfl rfl ⟨hd0, ?_⟩
          · show (w.heap.setIfInBounds e.b _)[k]? = _
            rw [Array.getElem?_setIfInBounds_ne (Ne.symm hk)]
          · show (w.heap.setIfInBounds e.b _)[e.b]? = _
            simp [hlt]
      · rw [Bool.eq_false_iff.2 hp, cond_false] at hn
        cases hn
        have hp' : ¬ (pos < s.size) := fun hc => hp (Nat.ble_eq ▸ hc)
        refine ⟨.tuple #[.bool false], w, ?_, plain_refl 2 _ rfl, h, rfl⟩
        simp only [Instr.next, Sem.run_bind, hget, Result.andThen_ok, hp', if_false, Sem.run_pure]
    · cases hn
  · cases hn
theorem LR.cons_inv {α β : Type} {R : α → β → Prop} {x : α} {y : β} {l : List α} {m : List β} (h : LR R (x :: l) (y :: m)) : R x y ∧ LR R l m := by
  obtain ⟨y', m', e, h1, h2⟩ := h.inv_cons
  cases e
  exact ⟨h1, h2⟩
theorem filter_rel {E : Env} {es fs : List MapEntry} (h : LR (MR E) es fs) (p : Nat → Bool) : LR (MR E) (es.filter fun e => p e.born) (fs.filter fun e => p e.born) := by
  induction es generalizing fs with
  | nil => cases fs with
    | nil => exact LR.nil
    | cons y fs => exact absurd h.1 (by simp)
  | cons x es ih => cases fs with
    | nil => exact absurd h.1 (by simp)
    | cons y fs =>
      obtain ⟨h1, h2⟩ := LR.cons_inv h
      have hb := h1.born
      simp only [List.filter_cons, hb]
      split
      · exact LR.cons h1 (ih h2)
      · exact ih h2
theorem all_rel {E : Env} {es fs : List MapEntry} (h : LR (MR E) es fs) (p : Nat → Bool) : (es.all fun e => p e.born) = (fs.all fun e => p e.born) := by
  induction es generalizing fs with
  | nil => cases fs with
    | nil => rfl
    | cons y fs => exact absurd h.1 (by simp)
  | cons x es ih => cases fs with
    | nil => exact absurd h.1 (by simp)
    | cons y fs =>
      obtain ⟨h1, h2⟩ := LR.cons_inv h
      simp only [List.all_cons, h1.born, ih h2]
theorem find_rel {E : Env} {es fs : List MapEntry} (h : LR (MR E) es fs) (p : Nat → Bool) {e : MapEntry} (he : es.find? (fun e => p e.born) = some e) : ∃ f, fs.find? (fun e => p e.born) = some f ∧ MR E e f := by
  induction es generalizing fs with
  | nil => cases he
  | cons x es ih => cases fs with
    | nil => exact absurd h.1 (by simp)
    | cons y fs =>
      obtain ⟨h1, h2⟩ := LR.cons_inv h
      simp only [List.find?_cons, h1.born] at he ⊢
      split at he
      · rename_i hp
        cases he
        exact ⟨y, rfl, h1⟩
      · exact ih h2 he
theorem nextMap_ok (h : Sat G F W E S w) {it it' v : Value} {ty : TypeId} (hi : VR E it it') (hn : nextMapS S it = some (v, S')) :
    ∃ v' w', (Instr.next it' false ty).run P w = .ok v' w' ∧ VR E v v' ∧ Sat G F W E S' w' ∧ S'.n = S.n := by
  unfold nextMapS at hn
  split at hn
  · rename_i r
    cases hi with | ptr ha =>
    obtain ⟨_, e, he, rfl⟩ := ha
    simp only at he
    split at hn
    · rename_i c l q hg
      cases hn
      obtain ⟨e', he', hb⟩ := h.obj _ _ hg
      rw [he] at he'; cases he'
      obtain ⟨hd0, m', hm, hb'⟩ : e.d = 0 ∧ ∃ m', VR E (.map none) (.map m') ∧ w.heap[e.b]? = some (.mapIter m' c l.toArray q) := hb
      cases hm
      have hget : (getObj e.b).run P w = .ok (.mapIter none c l.toArray q) w := by simp [getObj, Sem.run, hb']
      simp only [hd0, Nat.zero_add]
      refine ⟨.tuple #[.bool false], w, ?_, plain_refl 2 _ rfl, h, trivial⟩
      simp only [Instr.next, Sem.run_bind, hget, Result.andThen_ok, Sem.run_pure]
    · rename_i m since seen last hg
      split at hn
      · rename_i es clock hgm
        obtain ⟨e', he', hb⟩ := h.obj _ _ hg
        rw [he] at he'; cases he'
        obtain ⟨hd0, m', hm, hb'⟩ : e.d = 0 ∧ ∃ m', VR E (.map (some m)) (.map m') ∧ w.heap[e.b]? = some (.mapIter m' since seen.toArray last) := hb
        cases hm with | map hem =>
        rename_i em
        obtain ⟨em', arr, hem', h1, hL⟩ := h.map hgm
        rw [hem] at hem'; cases hem'
        have hlt : e.b < w.heap.size := (Array.getElem?_eq_some_iff.1 hb').1
        have hget : (getObj e.b).run P w = .ok (.mapIter (some em.b) since seen.toArray last) w := by simp [getObj, Sem.run, hb']
        have hgetm : (getObj em.b).run P w = .ok (.map arr clock) w := by simp [getObj, Sem.run, h1]
        have hset : ∀ o, (setObj e.b o).run P w = .ok () { w with heap := w.heap.setIfInBounds e.b o } := fun o => by simp [setObj, Sem.run, hb']
        have hF := filter_rel hL (fun b => !(seen.contains b))
        have hA := all_rel hL (fun b => decide (last ≤ b))
        have he0 : es.isEmpty = arr.isEmpty := by
          have h5 := hL.1
          have h6 : arr.toList.length = arr.size := Array.length_toList
          rw [h6] at h5
          cases es with
          | nil => show true = decide (arr.size = 0); rw [← h5]; rfl
          | cons x es => show false = decide (arr.size = 0); rw [← h5]; rfl
        cases hbad : (!seen.isEmpty && !es.isEmpty && es.all fun e => decide (last ≤ e.born)) with
        | true => rw [hbad, cond_true] at hn; cases hn
        | false =>
        rw [hbad, cond_false] at hn
        have hbad' : (!seen.toArray.isEmpty && !arr.isEmpty && arr.all (fun e => decide (e.born ≥ last))) = false := by
          rw [← he0, ← hbad, hA]
          congr 1
          · cases seen <;> rfl
          · rw [← Array.all_toList]
        have hleft : arr.filter (fun e => !seen.toArray.contains e.born) = (arr.toList.filter fun e => !(seen.contains e.born)).toArray := by
          rw [← Array.toList_inj]; simp
        simp only [hd0, Nat.zero_add]
        unfold leftS at hn
        generalize hLl : (es.filter fun e => !(seen.contains e.born)) = L at hF hn
        generalize hLr : (arr.toList.filter fun e => !(seen.contains e.born)) = R at hF hleft
        split at hn
        · cases hn
          cases R with
          | cons y R => exact absurd hF.1 (by simp)
          | nil =>
          refine ⟨.tuple #[.bool false], w, ?_, plain_refl 2 _ rfl, h, rfl⟩
          simp only [Instr.next, Sem.run_bind, hget, Result.andThen_ok, hgetm, hbad', Bool.false_eq_true, if_false, hleft]
          simp [choose, Sem.run, Question.forced, Result.andThen]
        · rename_i x
          cases R with
          | nil => exact absurd hF.1 (by simp)
          | cons y R =>
          cases R with
          | cons z R => exact absurd hF.1 (by simp)
          | nil =>
          obtain ⟨hxy, _⟩ := LR.cons_inv hF
          by_cases hs : x.born < since
          · rw [decide_eq_true hs, cond_true] at hn
            cases hn
            have hs' : y.born < since := by rw [hxy.born]; exact hs
            have hs2 : ¬ (y.born ≥ since) := by omega
            refine ⟨.tuple #[.bool true, y.key, y.val], { w with heap := w.heap.setIfInBounds e.b (.mapIter (some em.b) since (seen.toArray.push y.born) clock) }, ?_, VR.tuple' (LR.cons (.bool true) (LR.cons hxy.key (LR.cons hxy.val LR.nil))), ?_, SW.set_n _ _ _⟩
            · simp only [Instr.next, Sem.run_bind, hget, Result.andThen_ok, hgetm, hbad', Bool.false_eq_true, if_false, hleft]
              simp [choose, Sem.run, Question.forced, Result.andThen, hs', hs2, hb', setObj]
            · refine h.turn hg he _ (fun k hk => ?_) (by simp) rfl rfl rfl ⟨hd0, some em.b, .map hem, ?_⟩
              · show (w.heap.setIfInBounds e.b _)[k]? = _
                rw [Array.getElem?_setIfInBounds_ne (Ne.symm hk)]
              · show (w.heap.setIfInBounds e.b _)[e.b]? = _
                simp [hlt, hxy.born]
          · rw [decide_eq_false hs, cond_false] at hn; cases hn
        · cases hn
      · cases hn
    · cases hn
  · cases hn
theorem entry_ok (h : Sat G F W E S w) {it it' v : Value} (hi : VR E it it') (hn : entryS S it = some v) :
    ∃ v', (Instr.entry it').run P w = .ok v' w ∧ VR E v v' := by
  unfold entryS at hn
  split at hn
  · rename_i r
    cases hi with | ptr ha =>
    obtain ⟨_, e, he, rfl⟩ := ha
    simp only at he
    split at hn
    · rename_i m since seen last hg
      split at hn
      · rename_i es clock b hgm hlb
        obtain ⟨e', he', hb⟩ := h.obj _ _ hg
        rw [he] at he'; cases he'
        obtain ⟨hd0, m', hm, hb'⟩ : e.d = 0 ∧ ∃ m', VR E (.map (some m)) (.map m') ∧ w.heap[e.b]? = some (.mapIter m' since seen.toArray last) := hb
        cases hm with | map hem =>
        rename_i em
        obtain ⟨em', arr, hem', h1, hL⟩ := h.map hgm
        rw [hem] at hem'; cases hem'
        have hget : (getObj e.b).run P w = .ok (.mapIter (some em.b) since seen.toArray last) w := by simp [getObj, Sem.run, hb']
        have hgetm : (getObj em.b).run P w = .ok (.map arr clock) w := by simp [getObj, Sem.run, h1]
        by_cases hc : clock = last
        · rw [decide_eq_true hc, cond_true] at hn
          subst hc
          split at hn
          · rename_i x hx
            cases hn
            obtain ⟨y, hy, hxy⟩ := find_rel hL (fun n => n == b) hx
            refine ⟨.tuple #[y.key, y.val], ?_, VR.tuple' (LR.cons hxy.key (LR.cons hxy.val LR.nil))⟩
            have hy' : arr.find? (fun e => e.born == b) = some y := by rw [← Array.find?_toList]; exact hy
            simp only [hd0, Nat.zero_add]
            have hbk : seen.toArray.back? = some b := by rw [← hlb]; simp
            simp only [Instr.entry, Sem.run_bind, hget, Result.andThen_ok, hbk, hgetm, bne_self_eq_false, Bool.false_eq_true, if_false, hy', Sem.run_pure]
          · cases hn
        · rw [decide_eq_false hc, cond_false] at hn; cases hn
      · cases hn
    · cases hn
  · cases hn
theorem lay_ok (h : Sat G F W E S w) {v : Value} {so : SObj} {obj : Obj} {k : Nat} {mk : Nat → Value} {r : Result Next} (h1 : r = .ok (.value (mk w.heap.size)) (w.alloc obj)) (h2 : ∀ (E' : Env) b, E' S.n = some ⟨b, 0, k⟩ → VR E' v (mk b)) (h3 : ∀ (E' : Env) w b, E.le E' → w.heap[b]? = some obj → ObjR E' w ⟨b, 0, k⟩ so) :
    OpOk P G F W E S (S.new so) w (.val v) r := by
  have hle : E.le (E.put S.n ⟨w.heap.size, 0, k⟩) := Env.put_le (h.new _ (Nat.le_refl _)) _
  refine ⟨_, _, _, h1, Env.put_ext _ _ ⟨w.heap.size, 0, k⟩, by rw [SW.new_n]; omega, h.lay obj so ⟨w.heap.size, 0, k⟩ rfl (h3 _ _ _ hle ?_), h2 _ _ (Env.put_same _ _ _)⟩
  show (w.heap.push obj)[w.heap.size]? = _
  simp
theorem opS_ok (h : Sat G F W E S w) {ρ ρ' : Operand → Value} {o : Oper} (hρ : ∀ x ∈ opL o.op, VR E (ρ x) (ρ' x)) (hx : opS P S ρ o = some (x, S')) : OpOk P G F W E S S' w x ((execOp ρ' o).run P w) := by
  have halloc : ∀ {v : Value} {so : SObj}, allocS P S.n ρ o = some (v, so) → OpOk P G F W E S (S.new so) w (.val v) ((execOp ρ' o).run P w) := fun {v so} ha => by
    obtain ⟨obj, k, mk, h1, h2, h3⟩ := alloc_ok (n := S.n) hρ ha
    exact lay_ok h (h1 w) h2 h3
  have hAll : allocV S (allocS P S.n ρ o) = some (x, S') → OpOk P G F W E S S' w x ((execOp ρ' o).run P w) := fun hh => by
    obtain ⟨v, so, h1, rfl, rfl⟩ := allocV_some hh
    exact halloc h1
  obtain ⟨dst, op, type, pos, after, guard⟩ := o
  cases op with
  | move a => cases (show some (ONext.val (ρ a), S) = some (x, S') from hx); exact OpOk.val h (hρ a (by simp [opL])) rfl
  | assign a => cases (show some (ONext.val (ρ a), S) = some (x, S') from hx); exact OpOk.val h (hρ a (by simp [opL])) rfl
  | pick c a b =>
    have hx : opPick c a b P S ρ ⟨dst, .pick c a b, type, pos, after, guard⟩ = some (x, S') := hx
    have hc := hρ c (by simp [opL, Op.operands])
    have ha := hρ a (by simp [opL, Op.operands])
    have hb := hρ b (by simp [opL, Op.operands])
    unfold opPick at hx
    split at hx
    · rename_i hv
      cases hx
      rw [hv] at hc
      generalize hv' : ρ' c = cv at hc
      cases hc
      exact OpOk.val h ha (by simp [execOp, asBool, hv'])
    · rename_i hv
      cases hx
      rw [hv] at hc
      generalize hv' : ρ' c = cv at hc
      cases hc
      exact OpOk.val h hb (by simp [execOp, asBool, hv'])
    · cases hx
  | alloc t => exact hAll hx
  | box t a => exact hAll hx
  | buildSlice t n ps => exact hAll hx
  | makeMap t r => exact hAll hx
  | makeSlice t l c => exact hAll hx
  | build t ps =>
    obtain ⟨v, h1, rfl, rfl⟩ := valS_some (show valS S (buildS P t (ps.toList.map fun p => (p.1, ρ p.2))) = some (x, S') from hx)
    have hps : LR (fun p q : Nat × Value => p.1 = q.1 ∧ VR E p.2 q.2) (ps.toList.map fun p => (p.1, ρ p.2)) (ps.toList.map fun p => (p.1, ρ' p.2)) := LR.of_map fun p hp => ⟨rfl, hρ p.2 (by simp [opL, Op.operands]; exact ⟨p.1, by simpa using hp⟩)⟩
    refine OpOk.quiet h (s := Instr.build t (ps.map fun p => (p.1, ρ' p.2))) ?_ (run_v _ _)
    have := build_ok (P := P) (w := w) hps h1
    have he : (ps.toList.map fun p => (p.1, ρ' p.2)).toArray = ps.map fun p => (p.1, ρ' p.2) := by apply Array.ext'; simp
    rw [he] at this
    exact this
  | load t a =>
    have hx : opLoad t a P S ρ ⟨dst, .load t a, type, pos, after, guard⟩ = some (x, S') := hx
    have ha := hρ a (by simp [opL])
    unfold opLoad at hx
    split at hx
    · rename_i ad hv
      rw [hv] at ha
      generalize hv' : ρ' a = av at ha
      cases ha with | ptr hA =>
      obtain ⟨v, h1, rfl, rfl⟩ := valS_some hx
      refine OpOk.quiet h (s := Instr.loadAt t (ρ' a)) ?_ (run_v _ _)
      obtain ⟨v', q1, q2⟩ := h.loadVar (P := P) hA h1
      exact ⟨v', by simp [Instr.loadAt, hv', Instr.sureAddr, q1], q2⟩
    · cases hx
  | store t a b =>
    have hx : opStore t a b P S ρ ⟨dst, .store t a b, type, pos, after, guard⟩ = some (x, S') := hx
    have ha := hρ a (by simp [opL])
    have hb := hρ b (by simp [opL])
    unfold opStore at hx
    split at hx
    · rename_i ad hv
      rw [hv] at ha
      generalize hv' : ρ' a = av at ha
      cases ha with | ptr hA =>
      obtain ⟨h1, rfl⟩ := skipV_some hx
      refine OpOk.skipped (s := Instr.storeAt t (ρ' a) (ρ' b)) ?_ (run_u _ _)
      obtain ⟨w', q1, q2, q3⟩ := h.storeVar (P := P) hA hb h1
      exact ⟨w', by simp [Instr.storeAt, hv', Instr.sureAddr, q1], q2, q3⟩
    · cases hx
  | nilCheck a =>
    have hx : opNilCheck a P S ρ ⟨dst, .nilCheck a, type, pos, after, guard⟩ = some (x, S') := hx
    have ha := hρ a (by simp [opL])
    unfold opNilCheck at hx
    split at hx
    · rename_i ad hv
      rw [hv] at ha
      generalize hv' : ρ' a = av at ha
      cases ha with | ptr hA =>
      cases hx
      exact OpOk.val h (.ptr hA) (by simp [execOp, hv'])
    · rename_i f p q hv
      rw [hv] at ha
      generalize hv' : ρ' a = av at ha
      cases ha with | func hf ha1 ha2 hb1 hb2 =>
      cases hf
      cases hx
      exact OpOk.val h (.func (.same _ rfl) ha1 ha2 hb1 hb2) (by simp [execOp, hv'])
    · rename_i t v hv
      rw [hv] at ha
      generalize hv' : ρ' a = av at ha
      cases ha with | iface hA =>
      cases hx
      exact OpOk.val h (.iface hA) (by simp [execOp, hv'])
    · cases hx
  | binOp op t a b ty => exact opBin_ok (ty := ty) h (hρ a (by simp [opL])) (hρ b (by simp [opL])) (show opBin op t a b P S ρ _ = some (x, S') from hx) rfl
  | convert s d a =>
    obtain ⟨v, h1, rfl⟩ := setV_some (show setV (convS P S s d (ρ a)) = some (x, S') from hx)
    exact OpOk.app (s := convert s d (ρ' a)) (conv_ok h (hρ a (by simp [opL])) h1) (run_v _ _)
  | makeInterface t a =>
    have hx : opIface t a P S ρ ⟨dst, .makeInterface t a, type, pos, after, guard⟩ = some (x, S') := hx
    unfold opIface at hx
    split at hx
    · rename_i d hd
      split at hx
      · cases hx
      · rename_i hno
        cases hx
        refine OpOk.quiet h (s := Instr.makeInterface t (ρ' a)) ⟨.iface t (ρ' a), ?_, .iface (hρ a (by simp [opL]))⟩ (run_v _ _)
        cases d <;> first | exact absurd rfl (hno _) | simp [Instr.makeInterface, run_underlying hd]
    · cases hx
  | makeFunc fn a b =>
    have hx : opFunc fn a b P S ρ ⟨dst, .makeFunc fn a b, type, pos, after, guard⟩ = some (x, S') := hx
    unfold opFunc at hx
    by_cases hy : isYield fn = true
    · rw [hy] at hx; cases hx
    · rw [Bool.eq_false_iff.2 hy] at hx
      cases hx
      refine OpOk.quiet h (s := Instr.makeFunc fn (a.map ρ') (b.map ρ')) ⟨_, rfl, .func' (.same fn (Bool.eq_false_iff.2 hy)) ?_ ?_⟩ (run_v _ _)
      · rw [Array.toList_map, Array.toList_map]
        exact VL_map fun y hy => hρ y (by simp [opL, Op.operands]; exact .inl (by simpa using hy))
      · rw [Array.toList_map, Array.toList_map]
        exact VL_map fun y hy => hρ y (by simp [opL, Op.operands]; exact .inr (by simpa using hy))
  | slice t a lo hi mx =>
    obtain ⟨v, h1, rfl, rfl⟩ := valS_some (show valS S (sliceS P t (ρ a) (lo.map ρ) (hi.map ρ) (mx.map ρ)) = some (x, S') from hx)
    refine OpOk.quiet h (s := Instr.sliceAt t (ρ' a) (lo.map ρ') (hi.map ρ') (mx.map ρ')) ?_ (run_v _ _)
    exact slice_ok (hρ a (by simp [opL, Op.operands])) (OR_map fun y hy => hρ y (by simp [opL, Op.operands] at hy ⊢; simp [hy])) (OR_map fun y hy => hρ y (by simp [opL, Op.operands] at hy ⊢; simp [hy])) (OR_map fun y hy => hρ y (by simp [opL, Op.operands] at hy ⊢; simp [hy])) h1
  | fieldAddr t a f =>
    obtain ⟨v, h1, rfl, rfl⟩ := valS_some (show valS S (fieldAtS P t (ρ a) f) = some (x, S') from hx)
    exact OpOk.quiet h (s := Instr.fieldAt t (ρ' a) f) (fieldAt_ok (hρ a (by simp [opL])) h1) (run_v _ _)
  | field t a f =>
    obtain ⟨v, h1, rfl, rfl⟩ := valS_some (show valS S (fieldS P t (ρ a) f) = some (x, S') from hx)
    exact OpOk.quiet h (s := Instr.field t (ρ' a) f) (field_ok (hρ a (by simp [opL])) h1) (run_v _ _)
  | indexAddr t a i =>
    obtain ⟨v, h1, rfl, rfl⟩ := valS_some (show valS S (indexAtS P t (ρ a) (ρ i)) = some (x, S') from hx)
    exact OpOk.quiet h (s := Instr.indexAt t (ρ' a) (ρ' i)) (indexAt_ok (hρ a (by simp [opL])) (hρ i (by simp [opL])) h1) (run_v _ _)
  | index t a i =>
    obtain ⟨v, h1, rfl, rfl⟩ := valS_some (show valS S (indexS P t (ρ a) (ρ i)) = some (x, S') from hx)
    exact OpOk.quiet h (s := Instr.index t (ρ' a) (ρ' i)) (index_ok (hρ a (by simp [opL])) (hρ i (by simp [opL])) h1) (run_v _ _)
  | lookup t a i ok =>
    obtain ⟨v, h1, rfl, rfl⟩ := valS_some (show valS S (lookupS P S t (ρ a) (ρ i) ok) = some (x, S') from hx)
    exact OpOk.quiet h (s := Instr.lookup t (ρ' a) (ρ' i) ok) (lookup_ok h (hρ a (by simp [opL])) (hρ i (by simp [opL])) h1) (run_v _ _)
  | mapUpdate t m k v =>
    obtain ⟨h1, rfl⟩ := skipV_some (show skipV (mapPutS P S t (ρ m) (ρ k) (ρ v)) = some (x, S') from hx)
    exact OpOk.skipped (s := Instr.mapUpdate t (ρ' m) (ρ' k) (ρ' v)) (mapPut_ok h (hρ m (by simp [opL, Op.operands])) (hρ k (by simp [opL, Op.operands])) (hρ v (by simp [opL, Op.operands])) h1) (run_u _ _)
  | insert t m k v =>
    obtain ⟨h1, rfl⟩ := skipV_some (show skipV (mapPutS P S t (ρ m) (ρ k) (ρ v)) = some (x, S') from hx)
    exact OpOk.skipped (s := Instr.mapUpdate t (ρ' m) (ρ' k) (ρ' v)) (mapPut_ok h (hρ m (by simp [opL, Op.operands])) (hρ k (by simp [opL, Op.operands])) (hρ v (by simp [opL, Op.operands])) h1) (run_u _ _)
  | mapEntry t m k =>
    obtain ⟨v, h1, rfl⟩ := setV_some (show setV (mapEntryS P S t (ρ m) (ρ k)) = some (x, S') from hx)
    obtain ⟨w', v', q1, q2, q3, q4⟩ := mapEntry_ok (P := P) h (hρ m (by simp [opL])) (hρ k (by simp [opL])) h1
    exact OpOk.turned (s := Instr.mapEntry t (ρ' m) (ρ' k)) ⟨v', w', q1, q2, q3, q4⟩ (run_v _ _)
  | entryStore t m s v =>
    obtain ⟨h1, rfl⟩ := skipV_some (show skipV (entryPutS S (ρ m) (ρ s) (ρ v)) = some (x, S') from hx)
    exact OpOk.skipped (s := Instr.entryStore t (ρ' m) (ρ' s) (ρ' v)) (entryPut_ok h (hρ m (by simp [opL, Op.operands])) (hρ s (by simp [opL, Op.operands])) (hρ v (by simp [opL, Op.operands])) h1) (run_u _ _)
  | range t a =>
    have hx : opRange t a P S ρ ⟨dst, .range t a, type, pos, after, guard⟩ = some (x, S') := hx
    have ha := hρ a (by simp [opL])
    unfold opRange at hx
    split at hx
    · rename_i s hd hv
      rw [hv] at ha
      generalize hv' : ρ' a = av at ha
      cases ha
      cases hx
      exact lay_ok h (obj := .stringIter s 0) (k := 0) (mk := fun b => .pointer (some ⟨b, 0, none⟩)) (by simp [execOp, Instr.range, hv', run_underlying hd]) (fun E' b he => .ptr ⟨rfl, _, he, by simp⟩) (fun E' w b _ hb => ⟨rfl, hb⟩)
    · rename_i kt et hd
      obtain ⟨v, so, h1, rfl, rfl⟩ := allocV_some hx
      generalize hv : ρ a = av at ha h1
      generalize hv' : ρ' a = av' at ha
      unfold rangeMapS at h1
      split at h1
      · cases h1
        cases ha
        exact lay_ok h (obj := .mapIter none 0 #[] 0) (k := 0) (mk := fun b => .pointer (some ⟨b, 0, none⟩)) (by simp [execOp, Instr.range, hv', run_underlying hd]) (fun E' b he => .ptr ⟨rfl, _, he, by simp⟩) (fun E' w b _ hb => ⟨rfl, none, .mnil, hb⟩)
      · rename_i r
        split at h1
        · rename_i es clock hg
          cases h1
          cases ha with | map hem =>
          rename_i em
          obtain ⟨em', arr, hem', h1, hL⟩ := h.map hg
          rw [hem] at hem'; cases hem'
          have hgetm : (getObj em.b).run P w = .ok (.map arr clock) w := by simp [getObj, Sem.run, h1]
          exact lay_ok h (obj := .mapIter (some em.b) clock #[] clock) (k := 0) (mk := fun b => .pointer (some ⟨b, 0, none⟩)) (by simp [execOp, Instr.range, hv', run_underlying hd, hgetm]) (fun E' b he => .ptr ⟨rfl, _, he, by simp⟩) (fun E' w b hle hb => ⟨rfl, some em.b, .map (hle _ _ hem), hb⟩)
        · cases h1
      · cases h1
    · cases hx
  | next it b =>
    have hx : opNext it b P S ρ ⟨dst, .next it b, type, pos, after, guard⟩ = some (x, S') := hx
    unfold opNext at hx
    cases b with
    | false =>
      rw [cond_false] at hx
      obtain ⟨v, h1, rfl⟩ := setV_some hx
      exact OpOk.turned (s := Instr.next (ρ' it) false type) (nextMap_ok h (hρ it (by simp [opL])) h1) (run_v _ _)
    | true =>
      rw [cond_true] at hx
      obtain ⟨v, h1, rfl⟩ := setV_some hx
      exact OpOk.turned (s := Instr.next (ρ' it) true type) (next_ok h (hρ it (by simp [opL])) h1) (run_v _ _)
  | typeAssert a xt t ok =>
    obtain ⟨v, h1, rfl, rfl⟩ := valS_some (show valS S (assertS P (ρ a) t ok) = some (x, S') from hx)
    exact OpOk.quiet h (s := Instr.typeAssert (ρ' a) xt t ok) (assert_ok (hρ a (by simp [opL])) h1) (run_v _ _)
  | extract t i =>
    have hx : opExtract t i P S ρ ⟨dst, .extract t i, type, pos, after, guard⟩ = some (x, S') := hx
    have ha := hρ t (by simp [opL])
    unfold opExtract at hx
    split at hx
    · rename_i vs hv
      rw [hv] at ha
      generalize hv' : ρ' t = av at ha
      cases ha with | tuple h1 h2 =>
      rename_i arr
      obtain ⟨v, q1, rfl, rfl⟩ := valS_some hx
      obtain ⟨v', q2, q3⟩ := LR.get (R := VR E) ⟨h1, h2⟩ q1
      refine OpOk.quiet h (s := Instr.extract (ρ' t) i) ⟨v', ?_, q3⟩ (run_v _ _)
      rw [hv']
      simp [Instr.extract, show arr[i]? = some v' by simpa using q2]
    · cases hx
  | call c => exact call_ok h rfl hρ (show callS P S ρ c = some (x, S') from hx)
  | defer c =>
    have hx : opDefer c P S ρ ⟨dst, .defer c, type, pos, after, guard⟩ = some (x, S') := hx
    unfold opDefer at hx
    split at hx
    · rename_i y hy
      cases hx
      exact defer_ok rfl hρ hy
    · cases hx
  | panic a =>
    have hx : opPanic a P S ρ ⟨dst, .panic a, type, pos, after, guard⟩ = some (x, S') := hx
    have ha := hρ a (by simp [opL])
    unfold opPanic at hx
    split at hx
    · rename_i t v hv
      rw [hv] at ha
      generalize hv' : ρ' a = av at ha
      cases ha with | iface hA =>
      cases hx
      exact ⟨_, by simp [execOp, hv', Instr.panic], .iface hA, rfl⟩
    · cases hx
  | ready g => cases (show none = some (x, S') from hx)
  | waits g => cases (show none = some (x, S') from hx)
  | unOp a b c => cases (show none = some (x, S') from hx)
  | sliceToArrayPointer a b => cases (show none = some (x, S') from hx)
  | makeChan a b => cases (show none = some (x, S') from hx)
  | entry a =>
    obtain ⟨v, h1, rfl, rfl⟩ := valS_some (show valS S (entryS S (ρ a)) = some (x, S') from hx)
    exact OpOk.quiet h (s := Instr.entry (ρ' a)) (entry_ok h (hρ a (by simp [opL])) h1) (run_v _ _)
  | go a => cases (show none = some (x, S') from hx)
  | send a b => cases (show none = some (x, S') from hx)
  | recv a b c => cases (show none = some (x, S') from hx)
  | select a b => cases (show none = some (x, S') from hx)
theorem opL_all (o : Oper) : ∀ x ∈ o.op.operands, x ∈ opL o.op := fun x hx => by
  cases h : o.op <;> rw [h] at hx <;> simp [opL, Op.operands] at hx ⊢ <;> first | exact hx | (rcases hx with hx | hx <;> simp [hx]) | simp [hx]
theorem plainNext_ok (h : Sat G F W E S w) {y : Next} (hy : plainNext y = some x) : OpOk P G F W E S S w x (.ok y w) := by
  have hV : ∀ v, plainV PD v = true → VR E v v := fun v hv => plain_refl _ _ hv
  have hVL : ∀ l, allPlain l = true → VL E l l := fun l hl => ⟨rfl, fun i a b ha hb => by rw [ha] at hb; cases hb; exact hV _ ((allL_iff _ _).1 hl _ (List.mem_of_getElem? ha))⟩
  unfold plainNext at hy
  split at hy
  · rename_i v
    by_cases hp : plainV PD v = true
    · rw [hp] at hy; cases hy
      exact OpOk.val h (hV v hp) rfl
    · rw [Bool.eq_false_iff.2 hp] at hy; cases hy
  · cases hy
    exact ⟨w, E, rfl, Ext.refl _ _, Nat.le_refl _, h⟩
  · rename_i f args
    by_cases hp : allPlain args.toList = true
    · rw [hp] at hy; cases hy
      exact ⟨args, rfl, hVL _ hp, rfl⟩
    · rw [Bool.eq_false_iff.2 hp] at hy; cases hy
  · rename_i f cap args
    by_cases hp : (allPlain cap.toList && allPlain args.toList) = true
    · rw [hp] at hy; cases hy
      rw [Bool.and_eq_true] at hp
      exact ⟨_, rfl, .fn (hVL _ hp.1) (hVL _ hp.2), rfl⟩
    · rw [Bool.eq_false_iff.2 hp] at hy; cases hy
  · cases hy; exact ⟨rfl, rfl⟩
  · cases hy
theorem plainS_ok (h : Sat G F W E S w) {ρ ρ' : Operand → Value} {o : Oper} (hρ : ∀ x ∈ opL o.op, VR E (ρ x) (ρ' x)) (hx : plainS P S ρ o = some (x, S')) : OpOk P G F W E S S' w x ((execOp ρ' o).run P w) := by
  unfold plainS at hx
  by_cases hp : allL (fun x => plainV PD (ρ x)) (opL o.op) = true
  · rw [hp, cond_true] at hx
    split at hx
    · rename_i y hy
      cases hx
      unfold goPlain at hy
      by_cases hsel : isSelect o.op = true
      · rw [hsel] at hy; cases hy
      · rw [Bool.eq_false_iff.2 hsel, cond_false] at hy
        have heq : execOp ρ' o = execOp ρ o := execOp_congr o (fun cs b hc => hsel (by rw [hc]; rfl)) fun a ha => plain_eq _ _ _ ((allL_iff _ _).1 hp a (opL_all o a ha)) (hρ a (opL_all o a ha))
        rw [heq]
        split at hy
        · rename_i y0 hpr
          rw [prun_ok hpr w]
          exact plainNext_ok h hy
        · rename_i v hpr
          by_cases hv : plainV PD v = true
          · rw [hv] at hy; cases hy
            exact ⟨v, prun_err hpr w, plain_refl _ _ hv, rfl⟩
          · rw [Bool.eq_false_iff.2 hv] at hy; cases hy
        · cases hy
    · cases hx
  · rw [Bool.eq_false_iff.2 hp] at hx; cases hx
theorem ev_ok (h : Sat G F W E S w) {tr : Tr Value} {a : Act} (ht : TR E tr a.tmps) {x : Operand} (hx : okX G x = true) : VR E (evS tr x) (a.eval x) := by
  cases x with
  | tmp t => exact ht t
  | const v => exact plain_refl PD v hx
  | global g =>
    obtain ⟨e, he, hb, hd⟩ := h.glob g (Nat.le_of_ble_eq_true hx)
    refine .ptr ⟨rfl, e, he, ?_⟩
    show (⟨g, 0, none⟩ : Addr) = ⟨e.b, 0 + e.d, none⟩
    rw [hb, hd]
  | func f => exact .func' (.same _ rfl) LR.nil LR.nil
theorem stepS_ok2 (h : Sat G F W E S w) {tr : Tr Value} {a : Act} {o : Oper} (ht : ∀ x ∈ opL o.op, okX G x = true → VR E (evS tr x) (a.eval x)) (hx : stepS P G S tr o = some (x, S')) : OpOk P G F W E S S' w x ((execOp a.eval o).run P w) := by
  unfold stepS at hx
  by_cases hok : allL (okX G) (opL o.op) = true
  · rw [hok] at hx
    have hρ : ∀ x ∈ opL o.op, VR E (evS tr x) (a.eval x) := fun x hx => ht x hx ((allL_iff _ _).1 hok x hx)
    cases ho : opS P S (evS tr) o with
    | some y =>
      rw [ho] at hx
      cases (show some y = some (x, S') from hx)
      exact opS_ok h hρ ho
    | none =>
      rw [ho] at hx
      exact plainS_ok h hρ (show plainS P S (evS tr) o = some (x, S') from hx)
  · rw [Bool.eq_false_iff.2 hok] at hx
    cases (show none = some (x, S') from hx)
theorem stepS_ok (h : Sat G F W E S w) {tr : Tr Value} {a : Act} (ht : TR E tr a.tmps) {o : Oper} (hx : stepS P G S tr o = some (x, S')) : OpOk P G F W E S S' w x ((execOp a.eval o).run P w) :=
  stepS_ok2 h (fun _ _ hok => ev_ok h ht hok) hx
end
end Go.Proofs.YtbjecfbfcpiilaaGreatDoor

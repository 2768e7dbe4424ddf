/- The executor: steps over a map that may go more than one way. A call whose ways all end alike is known. -/
import Derived.Test.YtbjecfbfcpiilaaGreatDoorExF
namespace Go.Proofs.YtbjecfbfcpiilaaGreatDoor
open Go
noncomputable section

/-- The ways on of a step over a map. -/
def nextAll (S : SW) (it : Value) : Option (List (Value × SW)) :=
  match it with
  | .pointer (some ⟨r, 0, none⟩) =>
    match S.h.get r with
    | some (.mapIter (some m) since seen last) =>
      match S.h.get m with
      | some (.map es clock) =>
        bif (!seen.isEmpty && !es.isEmpty && es.all (fun e => decide (last ≤ e.born))) || !(es.all fun e => decide (e.born < since)) then none else
        match leftS seen es with
        | [] => some [(.tuple #[.bool false], S)]
        | x :: L => some ((x :: L).map fun e => (.tuple #[.bool true, e.key, e.val], S.set r (.mapIter (some m) since (seen ++ [e.born]) clock)))
      | _ => none
    | _ => none
  | _ => none
abbrev RunN := St → Code → Option (List (SExit × St))
def onwardN (go : St → Option (List (SExit × St))) (p : SExit × St) : Option (List (SExit × St)) :=
  match p with
  | (.normal, st) => go st
  | (e, st) => some [(e, st)]
def bindN {α : Type} (go : α → Option (List (SExit × St))) : List α → Option (List (SExit × St))
  | [] => some []
  | p :: l => match go p, bindN go l with
    | some a, some b => some (a ++ b)
    | _, _ => none
def oneN : Option (SExit × St) → Option (List (SExit × St))
  | some p => some [p]
  | none => none
def wayN (H : List HookE) (P : Program) (G : Nat) (ih : Run) (ops : Array Oper) (os : List Oper) (o : Oper) (st : St) (p : Value × SW) : Option (List (SExit × St)) :=
  match (⟨p.2, st.tr, st.nt, st.ds, st.rd⟩ : St).put o.dst p.1 with
  | some st1 => oneN (opsE H P G ih ops os st1)
  | none => none
def regionN (H : List HookE) (P : Program) (G : Nat) (ih : Run) (ops : Array Oper) (st : St) : Option (List (SExit × St)) :=
  match ops.toList with
  | o :: os => match o.op, o.guard with
    | .next (.tmp x) false, none => match nextAll st.S (evS st.tr (.tmp x)) with
      | some L => bindN (wayN H P G ih ops os o st) L
      | none => none
    | _, _ => none
  | _ => none
def codeN (H : List HookE) (P : Program) (G : Nat) (ih : Run) (ihN : RunN) (st : St) (c : Code) : Option (List (SExit × St)) :=
  match c with
  | .seq a b => match ihN st a with
    | some L => bindN (onwardN fun st => ihN st b) L
    | none => none
  | .block i c => match ihN st c with
    | some L => some (L.map fun p => (inB i p.1, p.2))
    | none => none
  | .loop c => match ihN st c with
    | some L => bindN (onwardN fun st => ihN st (.loop c)) L
    | none => none
  | .cond (.tmp d) a b => match evS st.tr (.tmp d) with
    | .bool t => ihN st (match t with | true => a | false => b)
    | _ => none
  | .region i ops false => match regionN H P G ih ops st with
    | some L => some L
    | none => oneN (ih st (.region i ops false))
  | c => oneN (ih st c)
def execN (H : List HookE) (P : Program) (G : Nat) (k : Nat) : Nat → RunN
  | 0 => fun _ _ => none
  | n + 1 => codeN H P G (exec H P G k) (execN H P G k n)
def tailN (P : Program) (G : Nat) (ih : Run) (fn : Func) (p : SExit × St) : Option (SEnd × SW) :=
  match outE p.1 p.2 with
  | none => none
  | some (st, u) =>
  match defersE P G ih st.ds st.S u with
  | none => none
  | some q => endE P fn st.tr q
def okTail (h : HookE) : Option (SEnd × SW) → Bool
  | some (.ret v, S') => valEq PD v h.ret && Nat.ble S'.n h.m && allL (hasObj S') h.post
  | _ => false
/-- Do all ways of a call end as an entry says? -/
def hookTestN (H : List HookE) (P : Program) (G : Nat) (k n : Nat) (h : HookE) : Bool :=
  match P.funcs[h.f]? with
  | none => false
  | some fn => match fn.body with
    | none => false
    | some c => match execN H P G k n ⟨⟨h.n, putAll h.pre .leaf⟩, fromL h.args, Nat.max fn.ntmps h.args.length, [], false⟩ c with
      | none => false
      | some L => L.all fun p => okTail h (tailN P G (exec H P G k) fn p)
end
section
variable {P : Program} {G : Nat} {H : List HookE} {F : Nat → Option Obj} {W : World} {E : Env} {w : World} {a : Act}
theorem nextAll_ok {S : SW} (h : Sat G F W E S w) {it it' : Value} {ty : TypeId} {L : List (Value × SW)} (hi : VR E it it') (hn : nextAll S it = some L) :
    ∃ p ∈ L, ∃ v' w', (Instr.next it' false ty).run P w = .ok v' w' ∧ VR E p.1 v' ∧ Sat G F W E p.2 w' ∧ p.2.n = S.n := by
  unfold nextAll at hn
  split at hn
  · rename_i r
    cases hi with | ptr ha =>
    obtain ⟨_, e, he, rfl⟩ := ha
    simp only at he
    split at hn
    · rename_i m since seen last hg
      split at hn
      · rename_i es clock hgm
        obtain ⟨e', he', hb⟩ := h.obj _ _ hg
        rw [he] at he'; cases he'
        obtain ⟨hd0, m', hm, hb'⟩ : e.d = 0 ∧ ∃ m', VR E (.map (some m)) (.map m') ∧ w.heap[e.b]? = some (.mapIter m' since seen.toArray last) := hb
        cases hm with | map hem =>
        rename_i em
        obtain ⟨em', arr, hem', h1, hL⟩ := h.map hgm
        rw [hem] at hem'; cases hem'
        have hlt : e.b < w.heap.size := (Array.getElem?_eq_some_iff.1 hb').1
        have hget : (getObj e.b).run P w = .ok (.mapIter (some em.b) since seen.toArray last) w := by simp [getObj, Sem.run, hb']
        have hgetm : (getObj em.b).run P w = .ok (.map arr clock) w := by simp [getObj, Sem.run, h1]
        have hF := filter_rel hL (fun b => !(seen.contains b))
        have hA := all_rel hL (fun b => decide (last ≤ b))
        have hO := all_rel hL (fun b => decide (b < since))
        have he0 : es.isEmpty = arr.isEmpty := by
          have h5 := hL.1
          have h6 : arr.toList.length = arr.size := Array.length_toList
          rw [h6] at h5
          cases es with
          | nil => show true = decide (arr.size = 0); rw [← h5]; rfl
          | cons x es => show false = decide (arr.size = 0); rw [← h5]; rfl
        cases hbad : ((!seen.isEmpty && !es.isEmpty && es.all fun e => decide (last ≤ e.born)) || !(es.all fun e => decide (e.born < since))) with
        | true => rw [hbad, cond_true] at hn; cases hn
        | false =>
        rw [hbad, cond_false] at hn
        rw [Bool.or_eq_false_iff] at hbad
        obtain ⟨hbad, hold⟩ := hbad
        have hold : (es.all fun e => decide (e.born < since)) = true := by simpa using hold
        rw [hO] at hold
        have hbad' : (!seen.toArray.isEmpty && !arr.isEmpty && arr.all (fun e => decide (e.born ≥ last))) = false := by
          rw [← he0, ← hbad, hA]
          congr 1
          · cases seen <;> rfl
          · rw [← Array.all_toList]
        have hleft : arr.filter (fun e => !seen.toArray.contains e.born) = (arr.toList.filter fun e => !(seen.contains e.born)).toArray := by
          rw [← Array.toList_inj]; simp
        simp only [hd0, Nat.zero_add]
        unfold leftS at hn
        have hmem : ∀ x ∈ (arr.toList.filter fun e => !(seen.contains e.born)), x.born < since := fun x hx => by
          have := List.all_eq_true.1 hold x (List.mem_filter.1 hx).1
          simpa using this
        generalize hLl : (es.filter fun e => !(seen.contains e.born)) = M at hF hn
        generalize hLr : (arr.toList.filter fun e => !(seen.contains e.born)) = R at hF hleft hmem
        have e1 : (R.toArray.filter fun x => decide (x.born < since)) = R.toArray := Array.filter_eq_self.2 (fun x hx => by simpa using hmem x (by simpa using hx))
        have e2 : (R.toArray.filter fun x => decide (x.born ≥ since)) = #[] := by
          rw [Array.filter_eq_empty_iff]
          intro x hx
          have := hmem x (by simpa using hx)
          simp
          omega
        split at hn
        · cases hn
          cases R with
          | cons y R => exact absurd hF.1 (by simp)
          | nil =>
          refine ⟨_, List.mem_singleton.2 rfl, .tuple #[.bool false], w, ?_, plain_refl 2 _ rfl, h, rfl⟩
          simp only [Instr.next, Sem.run_bind, hget, Result.andThen_ok, hgetm, hbad', Bool.false_eq_true, if_false, hleft]
          simp [choose, Sem.run, Question.forced, Result.andThen]
        · rename_i x M
          cases hn
          have hpos : 0 < R.length := by rw [← hF.1]; simp
          have hch : ∃ (j : Nat) (w1 : World), j < R.toArray.size ∧ (w1 = w ∨ w1 = w.drew) ∧ (choose (Question.mapNext R.toArray.size)).run P w = .ok j w1 := by
            by_cases hf : R.toArray.size ≤ 1
            · exact ⟨0, w, by simpa using hpos, Or.inl rfl, by simp only [choose, Sem.run, Question.forced, decide_eq_true hf, if_true]⟩
            · exact ⟨_, w.drew, Nat.mod_lt _ (by simpa using hpos), Or.inr rfl, by
                simp only [choose, Sem.run, Question.forced, decide_eq_true_eq, hf, if_false, Question.cut]
                rfl⟩
          obtain ⟨j, w1, hj, hal, hrun⟩ := hch
          have hj' : j < R.length := by simpa using hj
          have hjM : j < (x :: M).length := by rw [hF.1]; exact hj'
          have hxy := hF.2 j (x :: M)[j] R[j] (List.getElem?_eq_getElem hjM) (List.getElem?_eq_getElem hj')
          have hne : R.toArray.isEmpty = false := by
            cases R with
            | nil => exact absurd hpos (by simp)
            | cons y R => rfl
          have hb1 : w1.heap[e.b]? = some (.mapIter (some em.b) since seen.toArray last) := by rcases hal with rfl | rfl <;> exact hb'
          have hs1 : Sat G F W E S w1 := by rcases hal with rfl | rfl; exact h; exact h.drew
          have hlt1 : e.b < w1.heap.size := (Array.getElem?_eq_some_iff.1 hb1).1
          refine ⟨_, List.mem_map.2 ⟨(x :: M)[j], List.getElem_mem hjM, rfl⟩, .tuple #[.bool true, R[j].key, R[j].val], { w1 with heap := w1.heap.setIfInBounds e.b (.mapIter (some em.b) since (seen.toArray.push R[j].born) clock) }, ?_,
            VR.tuple' (LR.cons (.bool true) (LR.cons hxy.key (LR.cons hxy.val LR.nil))), ?_, SW.set_n _ _ _⟩
          · simp only [Instr.next, Sem.run_bind, hget, Result.andThen_ok, hgetm, hbad', Bool.false_eq_true, if_false, hleft, e1, e2, Array.append_empty, hne, Array.empty_append, Array.size_map, hrun, Array.getElem?_map, Array.getElem?_eq_getElem hj, Option.map_some]
            simp [Sem.run, hb1, setObj, Result.andThen]
          · refine hs1.turn hg he _ (fun k hk => ?_) (by simp) rfl rfl rfl ⟨hd0, some em.b, .map hem, ?_⟩
            · show (w1.heap.setIfInBounds e.b _)[k]? = _
              rw [Array.getElem?_setIfInBounds_ne (Ne.symm hk)]
            · show (w1.heap.setIfInBounds e.b _)[e.b]? = _
              simp [hlt1, hxy.born]
      · cases hn
    · cases hn
  · cases hn
def PostL (G : Nat) (F : Nat → Option Obj) (W : World) (E : Env) (rd : Option Nat) (n0 : Nat) (L : List (SExit × St)) (x : Exit) (a : Act) (w : World) : Prop := ∃ p ∈ L, PostC G F W E rd n0 p.1 p.2 x a w
theorem PostL.ext {rd : Option Nat} {n0 n1 : Nat} {E1 : Env} (hE : Ext n0 E E1) (hn : n0 ≤ n1) {L M : List (SExit × St)} {x : Exit} (h : PostL G F W E1 rd n1 L x a w) (hs : ∀ p ∈ L, p ∈ M) : PostL G F W E rd n0 M x a w :=
  let ⟨p, hp, hq⟩ := h
  ⟨p, hs p hp, hq.ext hE hn⟩
def SndN (P : Program) (G : Nat) (ih : RunN) : Prop :=
  ∀ st c L, ih st c = some L → ∀ F W E a w rd n, StR G F W E rd st a w → c.wpIn (fw rd) n P (PostL G F W E rd st.S.n L) a w
def SndLoopN (P : Program) (G : Nat) (ih : RunN) : Prop :=
  ∀ st c L, ih st (.loop c) = some L → ∀ F W E a w rd n, StR G F W E rd st a w → LoopIn (fw rd) n P c (PostL G F W E rd st.S.n L) a w
theorem bindN_mem {α : Type} {go : α → Option (List (SExit × St))} : ∀ {L : List α} {M : List (SExit × St)}, bindN go L = some M → ∀ p ∈ L, ∃ A, go p = some A ∧ ∀ q ∈ A, q ∈ M
  | [], _, _, _, hp => by cases hp
  | x :: L, M, h, p, hp => by
    unfold bindN at h
    split at h
    · rename_i A B hA hB
      cases h
      rcases List.mem_cons.1 hp with rfl | hp
      · exact ⟨A, hA, fun q hq => List.mem_append_left _ hq⟩
      · obtain ⟨C, h1, h2⟩ := bindN_mem hB p hp
        exact ⟨C, h1, fun q hq => List.mem_append_right _ (h2 q hq)⟩
    · cases h
theorem thenN_ok {rd : Option Nat} {n0 : Nat} {L M : List (SExit × St)} {go : St → Option (List (SExit × St))} (h : bindN (onwardN go) L = some M) {K : Act → World → Prop} {x : Exit} (hp : PostL G F W E rd n0 L x a w)
    (hK : ∀ st1 A, go st1 = some A → (∀ q ∈ A, q ∈ M) → ∀ E1, Ext n0 E E1 → n0 ≤ st1.S.n → StR G F W E1 rd st1 a w → K a w) : Exit.then K (PostL G F W E rd n0 M) x a w := by
  obtain ⟨⟨e1, st1⟩, hm, hq⟩ := hp
  obtain ⟨A, hA, hs⟩ := bindN_mem h _ hm
  cases e1 with
  | normal =>
    obtain ⟨E1, h1, h2, h3, h4⟩ := hq
    cases x <;> first | exact h4.elim | skip
    exact hK st1 A hA hs E1 h1 h2 h3
  | _ =>
    cases (show some [_] = some A from hA)
    have hin := hs _ (List.mem_singleton.2 rfl)
    have hq' := hq
    obtain ⟨E1, h1, h2, h3, h4⟩ := hq
    cases x <;> first | exact h4.elim | exact ⟨_, hin, hq'⟩
theorem oneN_ok {ih : Run} (hih : Snd P G ih) {st : St} {c : Code} {L : List (SExit × St)} (h : oneN (ih st c) = some L) {rd : Option Nat} (n : Nat) (hst : StR G F W E rd st a w) : c.wpIn (fw rd) n P (PostL G F W E rd st.S.n L) a w := by
  cases hx : ih st c with
  | none => rw [hx] at h; cases h
  | some p =>
    rw [hx] at h
    cases h
    obtain ⟨e, st'⟩ := p
    exact wpIn_mono (hih _ _ _ _ hx F W E a w rd n hst) fun _ _ _ hq => ⟨_, List.mem_singleton.2 rfl, hq⟩
theorem regionN_ok (hH : HooksOk P G H) {ih : Run} (hih : Snd P G ih) {ops : Array Oper} {i : Nat} {st : St} {L : List (SExit × St)} (h : regionN H P G ih ops st = some L) {rd : Option Nat} (n : Nat) (hst : StR G F W E rd st a w) :
    (Code.region i ops false).wpIn (fw rd) n P (PostL G F W E rd st.S.n L) a w := by
  unfold regionN at h
  split at h
  · rename_i o os hops
    split at h
    · rename_i x hop hgu
      split at h
      · rename_i M hM
        refine wpIn_region ?_
        have hr := range_ops ops
        rw [hops] at hr
        generalize hl : List.range ops.size = l at hr ⊢
        cases l with
        | nil => cases hr
        | cons k l =>
        simp only [List.map_cons, List.cons.injEq] at hr
        obtain ⟨p, hp, v', w', hrun, hv, hs, hn⟩ := nextAll_ok (P := P) (ty := o.type) hst.sat (hst.tr x) hM
        obtain ⟨A, hA, hin⟩ := bindN_mem h p hp
        unfold wayN at hA
        split at hA
        · rename_i st1 hput
          have q := put_some hput
          unfold wpOpsIn
          rw [hr.1]
          simp only
          have hw : Region.wanted o (yielded ops a.tmps) = true := by unfold Region.wanted; rw [hgu]
          rw [if_pos hw]
          have hd : st.rd = true → isDefer o.op = false := fun _ => by rw [hop]; rfl
          refine ⟨fun _ _ => trivial, ?_⟩
          rw [semAt_ok hst.rd hd]
          have hex : (execOp a.eval o).run P w = .ok (.value v') w' := by
            unfold execOp
            rw [hop]
            have : a.eval (.tmp x) = a.tmps.getD x undef := rfl
            simp only [this, Sem.run_bind, hrun, Result.andThen_ok, Sem.run_pure]
          rw [hex]
          have hst1 : StR G F W E rd st1 (a.put o.dst v') w' := ⟨by rw [q.S]; exact hs, by
              rw [q.tr]
              exact TR.putT hst.tr (fun k hk => by rw [hst.nt]; exact q.lt k hk) hv, by rw [put_size, q.nt]; exact hst.nt, by rw [put_defers, q.ds]; exact hst.ds, by rw [q.rd]; exact hst.rd⟩
          have hn1 : st1.S.n = st.S.n := by rw [q.S]; exact hn
          cases hx : opsE H P G ih ops os st1 with
          | none => rw [hx] at hA; cases hA
          | some z =>
            obtain ⟨e, st'⟩ := z
            rw [hx] at hA
            cases hA
            have := opsE_ok hH hih os l hr.2 st1 e st' hx E _ w' rd n hst1
            exact wpOpsIn_mono (fun _ _ _ hq => ⟨_, hin _ (List.mem_singleton.2 rfl), by rw [hn1] at hq; exact hq⟩) _ _ _ this
        · cases hA
      · cases h
    · cases h
  · cases h
theorem codeN_ok (hH : HooksOk P G H) {ih : Run} (hih : Snd P G ih) {ihN : RunN} (h1 : SndN P G ihN) (h2 : SndLoopN P G ihN) : SndN P G (codeN H P G ih ihN) := by
  intro st c L h F W E a w rd n hst
  unfold codeN at h
  split at h
  · rename_i x y
    split at h
    · rename_i M hM
      refine wpIn_seq (wpIn_mono (h1 _ _ _ hM F W E a w rd n hst) fun z a1 w1 hp => thenN_ok h hp fun st1 A hA hin E1 hE hn hs => ?_)
      exact wpIn_mono (h1 _ _ _ hA F W E1 a1 w1 rd n hs) fun _ _ _ hq => hq.ext hE hn hin
    · cases h
  · rename_i id x
    split at h
    · rename_i M hM
      cases h
      refine wpIn_block (wpIn_mono (h1 _ _ _ hM F W E a w rd n hst) ?_)
      rintro z a1 w1 ⟨⟨e1, st1⟩, hm, E1, k1, k2, k3, k4⟩
      have hin : (inB id e1, st1) ∈ M.map fun p => (inB id p.1, p.2) := List.mem_map.2 ⟨_, hm, rfl⟩
      cases e1 with
      | exit i =>
        cases z <;> first | exact k4.elim | skip
        rename_i j
        have hij : i = j := k4
        subst hij
        by_cases hi : i = id
        · subst hi
          rw [show inB i (.exit i) = .normal by show (bif Nat.beq i i then SExit.normal else _) = _; rw [Nat.beq_refl]; rfl] at hin
          show (if i = i then PostL G F W E rd st.S.n _ .normal a1 w1 else _)
          rw [if_pos rfl]
          exact ⟨_, hin, E1, k1, k2, k3, trivial⟩
        · rw [show inB id (.exit i) = .exit i by
            show (bif Nat.beq i id then SExit.normal else _) = _
            rw [Bool.eq_false_iff.2 (fun hc => hi (Nat.eq_of_beq_eq_true hc))]; rfl] at hin
          show (if i = id then _ else PostL G F W E rd st.S.n _ (.exit i) a1 w1)
          rw [if_neg hi]
          exact ⟨_, hin, E1, k1, k2, k3, rfl⟩
      | _ => cases z <;> first | exact k4.elim | exact ⟨_, hin, E1, k1, k2, k3, k4⟩
    · cases h
  · rename_i x
    split at h
    · rename_i M hM
      refine wpIn_loop1 (loopIn_of (wpIn_mono (h1 _ _ _ hM F W E a w rd n hst) fun z a1 w1 hp => thenN_ok h hp fun st1 A hA hin E1 hE hn hs => ?_))
      exact (h2 _ _ _ hA F W E1 a1 w1 rd n hs).mono fun _ _ _ hq => hq.ext hE hn hin
    · cases h
  · rename_i d x y
    split at h
    · rename_i t hv
      have hd := hst.tr d
      rw [hv] at hd
      have hc : a.eval (.tmp d) = .bool t := by
        show a.tmps.getD d undef = _
        generalize a.tmps.getD d undef = z at hd
        cases hd; rfl
      refine wpIn_cond hc ?_
      cases t with
      | true => exact h1 _ _ _ h F W E a w rd n hst
      | false => exact h1 _ _ _ h F W E a w rd n hst
    · cases h
  · rename_i i ops
    split at h
    · rename_i M hM
      cases h
      exact regionN_ok hH hih hM n hst
    · exact oneN_ok hih h n hst
  · exact oneN_ok hih h n hst
theorem loopN_ok {ih : Run} {ihN : RunN} (h1 : SndN P G ihN) (h2 : SndLoopN P G ihN) : SndLoopN P G (codeN H P G ih ihN) := by
  intro st c L h F W E a w rd n hst
  unfold codeN at h
  simp only at h
  split at h
  · rename_i M hM
    refine loopIn_of (wpIn_mono (h1 _ _ _ hM F W E a w rd n hst) fun z a1 w1 hp => thenN_ok h hp fun st1 A hA hin E1 hE hn hs => ?_)
    exact (h2 _ _ _ hA F W E1 a1 w1 rd n hs).mono fun _ _ _ hq => hq.ext hE hn hin
  · cases h
theorem execN_ok (hH : HooksOk P G H) (hm : P.follows .mixedOrders = true) (k : Nat) : ∀ n, SndN P G (execN H P G k n) ∧ SndLoopN P G (execN H P G k n)
  | 0 => ⟨fun _ _ _ h => (by cases h), fun _ _ _ h => (by cases h)⟩
  | n + 1 => by
    obtain ⟨h1, h2⟩ := execN_ok hH hm k n
    exact ⟨codeN_ok hH (exec_ok hH hm k).1 h1 h2, loopN_ok h1 h2⟩
theorem Sat.subLe {S S2 : SW} (h : Sat G F W E S w) (hn : S.n ≤ S2.n) (hs : ∀ i o, S2.h.get i = some o → S.h.get i = some o) : Sat G F W E S2 w :=
  ⟨fun i hi => h.new i (Nat.le_trans hn hi), h.glob, fun i o hi => h.obj i o (hs i o hi), fun i j o o' e e' hi hj => h.inj i j o o' e e' (hs i o hi) (hs j o' hj), fun i o e hi => h.own i o e (hs i o hi), h.far, h.size, h.os, h.tape, h.output⟩
theorem leavesM_mono {n : Nat} {fn : Func} {tmps : Array Value} {R R' : Ending → World → Prop} (hR : ∀ e w, R e w → R' e w) : ∀ (ds : List Deferred) (u : FrameMode) (w : World), LeavesInM Fence.wide n P fn tmps R ds u w → LeavesInM Fence.wide n P fn tmps R' ds u w
  | [], u, w, h => by
    cases u with
    | returning => obtain ⟨v, h1, h2⟩ := h; exact ⟨v, h1, hR _ _ h2⟩
    | panicking c => exact hR _ _ h
    | run => exact h.elim
  | d :: ds, u, w, h => by
    obtain ⟨h1, h2⟩ := h
    refine ⟨h1, ?_⟩
    rcases h2 with ⟨r, w', k1, k2, k3⟩ | ⟨k1, fv, cap, f, args, k2, k3, k4, k5⟩
    · exact .inl ⟨r, w', k1, k2, leavesM_mono hR ds u w' k3⟩
    · refine .inr ⟨k1, fv, cap, f, args, k2, k3, k4, k5.mono ?_⟩
      intro e m w' hm
      cases e with
      | returned v => exact leavesM_mono hR ds _ w' hm
      | panicked c => exact leavesM_mono hR ds _ w' hm
      | outgrown => exact hR _ _ hm
theorem hookN_ok (hH : HooksOk P G H) (hm : P.follows .mixedOrders = true) {k n : Nat} {h : HookE} (ht : hookTestN H P G k n h = true) : HookOk P G h := by
  unfold hookTestN at ht
  split at ht
  · cases ht
  rename_i fn hf
  split at ht
  · cases ht
  rename_i c hb
  split at ht
  · cases ht
  rename_i L hL
  intro F W E w args' n' hs hargs
  refine callsIn_of_wp_marks hf hb trivial ?_
  have hsz : (args' ++ Array.replicate (fn.ntmps - args'.size) undef).size = Nat.max fn.ntmps h.args.length := by
    have h1 : h.args.length = args'.size := hargs.1.trans Array.length_toList
    show _ = max fn.ntmps h.args.length
    rw [Nat.max_def]
    split <;> simp <;> omega
  have key := (execN_ok hH hm k n).1 _ _ _ hL F W E { tmps := args' ++ Array.replicate (fn.ntmps - args'.size) undef, defers := [] } w none n' ⟨hs, fromL_ok hargs _, hsz, LR.nil, rfl⟩
  refine wpIn_mono key ?_
  rintro e' a' w' ⟨⟨e, st⟩, hin, E', hE, hn, hst, hx⟩
  have htl := List.all_eq_true.1 ht _ hin
  unfold tailN at htl
  split at htl
  · cases htl
  rename_i st1 u hout
  split at htl
  · cases htl
  rename_i q hdef
  unfold okTail at htl
  split at htl
  · rename_i v S' hend
    simp only [Bool.and_eq_true] at htl
    have e1 := valEq_ok _ _ _ htl.1.1
    have e2 := Nat.le_of_ble_eq_true htl.1.2
    subst e1
    have hdone : ∀ u' mode, outE e st = some (st, u') → UR E' u' mode → LeavesInM Fence.wide n' P fn a'.tmps (fun e w' => ∃ E', Ext h.n E E' ∧ h.n ≤ h.m ∧ Sat G F W E' ⟨h.m, putAll h.post .leaf⟩ w' ∧ EndR E' (.ret h.ret) e) a'.defers mode w' := fun u' mode ho hu => by
      rw [ho] at hout
      cases hout
      have this : LeavesInM Fence.wide n' P fn a'.tmps (fun e w' => ∃ E2, Ext h.n E E2 ∧ h.n ≤ S'.n ∧ Sat G F W E2 S' w' ∧ EndR E2 (.ret h.ret) e) a'.defers mode w' := defersE_ok (exec_ok hH hm k).1 _ _ _ _ hdef hend E' w' _ _ _ _ hE hn hst.sat hst.ds hu hst.tr
      refine leavesM_mono ?_ _ _ _ this
      rintro e w' ⟨E2, k1, k2, k3, k4⟩
      exact ⟨E2, k1, Nat.le_trans k2 e2, k3.subLe e2 fun i o hi => hasObj_ok ((allL_iff _ _).1 htl.2 (i, o) (putAll_mem _ hi)), k4⟩
    cases e with
    | normal => cases e' <;> first | exact hdone none _ rfl trivial | exact hx.elim
    | ret => cases e' <;> first | exact hdone none _ rfl trivial | exact hx.elim
    | exit i => cases hout
    | goto i => cases hout
    | panic v => cases e' <;> first | exact hx.elim | exact hdone (some (v, false)) _ rfl hx
  · cases htl
end
end Go.Proofs.YtbjecfbfcpiilaaGreatDoor

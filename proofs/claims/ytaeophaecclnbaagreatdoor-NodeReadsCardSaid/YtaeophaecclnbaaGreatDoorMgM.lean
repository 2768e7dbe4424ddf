/- The executor: drawn regions, what the run says. The executor: drawn regions: operations that leave the world as it is; what is laid and not taken in. The executor: drawn regions: what holds between two operations. The executor: drawn regions: each operation, the whole. -/
import Derived.Test.YtaeophaecclnbaaGreatDoorMgL
namespace Go.Proofs.YtaeophaecclnbaaGreatDoor
open Go

section
variable {H : List HookE} {P : Program} {G : Nat} {ih : Run} {ops : Array Oper}
/-! ### The plan -/
theorem befs_spec : ∀ (l : List Oper) (acc : List Nat), (befs l acc).length = acc.length + l.length ∧ (befs l acc).take acc.length = acc ∧
    ∀ i o, l[i]? = some o → (befs l acc)[acc.length + i]? = some (bef1 ((befs l acc).take (acc.length + i)) o.after.toList)
  | [], acc => by
    refine ⟨rfl, ?_, fun i o h => by cases h⟩
    show acc.take acc.length = acc
    simp
  | o :: l, acc => by
    obtain ⟨h1, h2, h3⟩ := befs_spec l (acc ++ [bef1 acc o.after.toList])
    have e : befs (o :: l) acc = befs l (acc ++ [bef1 acc o.after.toList]) := rfl
    rw [e]
    generalize befs l (acc ++ [bef1 acc o.after.toList]) = r at h1 h2 h3
    have hl : (acc ++ [bef1 acc o.after.toList]).length = acc.length + 1 := by simp
    rw [hl] at h1 h2 h3
    have ht : r.take acc.length = acc := by
      have := congrArg (List.take acc.length) h2
      rw [List.take_take] at this
      simpa using this
    refine ⟨by simp [h1]; omega, ht, fun i o' ho => ?_⟩
    cases i with
    | zero =>
      cases ho
      rw [Nat.add_zero, ht]
      have := congrArg (fun l : List Nat => l[acc.length]?) h2
      simp only [List.getElem?_take] at this
      rw [if_pos (by omega)] at this
      rw [this]
      simp
    | succ i =>
      have := h3 i o' ho
      rw [show acc.length + 1 + i = acc.length + (i + 1) by omega] at this
      exact this
theorem bef1_bit {acc : List Nat} {j : Nat} : ∀ (es : List Edge), (bef1 acc es).testBit j = true → ∃ e ∈ es, Region.binds .any e = true ∧ (j = e.on ∨ (acc.getD e.on 0).testBit j = true)
  | [], h => by
    have : (0 : Nat).testBit j = true := h
    simp at this
  | e :: es, h => by
    have h' : (bif Region.binds .any e then Nat.lor (Nat.lor (bef1 acc es) (2 ^ e.on)) (acc.getD e.on 0) else bef1 acc es).testBit j = true := h
    cases hb : Region.binds .any e with
    | false =>
      rw [hb, cond_false] at h'
      obtain ⟨x, hx, h1⟩ := bef1_bit es h'
      exact ⟨x, List.mem_cons_of_mem _ hx, h1⟩
    | true =>
      rw [hb, cond_true] at h'
      have h2 : ((bef1 acc es ||| 2 ^ e.on) ||| acc.getD e.on 0).testBit j = true := h'
      rw [Nat.testBit_or, Nat.testBit_or, Bool.or_eq_true, Bool.or_eq_true, Nat.testBit_two_pow] at h2
      rcases h2 with (h2 | h2) | h2
      · obtain ⟨x, hx, h1⟩ := bef1_bit es h2
        exact ⟨x, List.mem_cons_of_mem _ hx, h1⟩
      · exact ⟨e, List.mem_cons_self, hb, .inl (by simpa using h2 : e.on = j).symm⟩
      · exact ⟨e, List.mem_cons_self, hb, .inr h2⟩
theorem pairsOk_spec : ∀ (l : List Pl), pairsOk l = true → ∀ (i j : Nat) (a b : Pl), i < j → l[i]? = some a → l[j]? = some b → b.B.testBit a.i = true ∨ apartP a b = true
  | [], _, i, j, a, b, _, h, _ => by cases h
  | x :: l, hp, i, j, a, b, hij, ha, hb => by
    unfold pairsOk at hp
    rw [Bool.and_eq_true] at hp
    cases j with
    | zero => omega
    | succ j =>
      cases i with
      | zero =>
        cases ha
        have := List.all_eq_true.1 hp.1 b (List.mem_of_getElem? (show l[j]? = some b from hb))
        rw [Bool.or_eq_true] at this
        exact this
      | succ i => exact pairsOk_spec l hp.2 i j a b (by omega) ha hb
structure Rn (H : List HookE) (P : Program) (G : Nat) (ih : Run) (ops : Array Oper) (B : Nat → Nat) (s : Nat → DS) : Prop where
  one : ∀ i o, ops[i]? = some o → dOne H P G ih ops ⟨i, o, B i, looksT ops o⟩ (s i) = some (s (i + 1))
  bits : ∀ i o j, ops[i]? = some o → (B i).testBit j = true → ∃ e ∈ o.after, Region.binds .any e = true ∧ (j = e.on ∨ (B e.on).testBit j = true)
  edge : ∀ i o e, ops[i]? = some o → e ∈ o.after → Region.binds .any e = true → e.on < i
  apart : ∀ i j oi oj, i < j → ops[i]? = some oi → ops[j]? = some oj → (B j).testBit i = true ∨ (memN oi.dst (looksT ops oj) = false ∧ memN oj.dst (looksT ops oi) = false ∧ sameD oi.dst oj.dst = false)
theorem dAll_run : ∀ (l : List Pl) (d d' : DS), dAll H P G ih ops l d = some d' → ∃ s : Nat → DS, s 0 = d ∧ s l.length = d' ∧ ∀ i p, l[i]? = some p → dOne H P G ih ops p (s i) = some (s (i + 1))
  | [], d, d', h => by
    cases h
    exact ⟨fun _ => d, rfl, rfl, fun i p h => by cases h⟩
  | p :: l, d, d', h => by
    have h' : (Option.rec none (fun d => dAll H P G ih ops l d) (dOne H P G ih ops p d) : Option DS) = some d' := h
    cases hx : dOne H P G ih ops p d with
    | none => rw [hx] at h'; cases h'
    | some d1 =>
      rw [hx] at h'
      obtain ⟨s, h1, h2, h3⟩ := dAll_run l d1 d' h'
      refine ⟨fun i => match i with | 0 => d | i + 1 => s i, rfl, h2, fun i q hq => ?_⟩
      cases i with
      | zero => cases hq; show dOne H P G ih ops p d = some (s 0); rw [h1]; exact hx
      | succ i => exact h3 i q hq
theorem plan_get {i : Nat} {o : Oper} (h : ops[i]? = some o) : (plan ops)[i]? = some ⟨i, o, (befs ops.toList []).getD i 0, looksT ops o⟩ := by
  have hl := (befs_spec ops.toList []).1
  have hlt : i < ops.size := (Array.getElem?_eq_some_iff.1 h).1
  have hb : (befs ops.toList [])[i]? = some ((befs ops.toList []).getD i 0) := by
    rw [List.getD_eq_getElem?_getD, List.getElem?_eq_getElem (by rw [hl]; simpa using hlt)]
    rfl
  unfold plan
  have hz : (ops.toList.zip (befs ops.toList []))[i]? = some (o, (befs ops.toList []).getD i 0) := List.getElem?_zip_eq_some.2 ⟨by simpa using h, hb⟩
  rw [List.getElem?_map, List.getElem?_zipIdx, hz]
  simp
theorem plan_length : (plan ops).length = ops.size := by
  unfold plan
  have hl := (befs_spec ops.toList []).1
  simp only [List.length_map, List.length_zipIdx, List.length_zip, hl]
  simp
theorem draw_run (hreg : regionOk ops = true) {d0 d : DS} (h : dAll H P G ih ops (plan ops) d0 = some d) : ∃ B s, Rn H P G ih ops B s ∧ s 0 = d0 ∧ s ops.size = d := by
  obtain ⟨s, h1, h2, h3⟩ := dAll_run _ _ _ h
  rw [plan_length] at h2
  unfold regionOk at hreg
  rw [Bool.and_eq_true] at hreg
  have hedge : ∀ i o e, ops[i]? = some o → e ∈ o.after → Region.binds .any e = true → e.on < i := fun i o e ho he hb => by
    have := hreg.1
    unfold edgesOk at this
    have h1 := List.all_eq_true.1 this (o, i) (by
      rw [List.mem_zipIdx_iff_getElem?]
      simpa using ho)
    have h2 := List.all_eq_true.1 h1 e (by simpa using he)
    unfold edgeOk at h2
    rw [hb] at h2
    simpa using h2
  refine ⟨fun i => (befs ops.toList []).getD i 0, s, ⟨fun i o ho => h3 i _ (plan_get ho), fun i o j ho hj => ?_, hedge, fun i j oi oj hij hi hj => ?_⟩, h1, h2⟩
  · have hs := (befs_spec ops.toList []).2.2 i o (by simpa using ho)
    rw [List.length_nil, Nat.zero_add] at hs
    have hj' : (bef1 ((befs ops.toList []).take i) o.after.toList).testBit j = true := by
      have : (befs ops.toList []).getD i 0 = bef1 ((befs ops.toList []).take i) o.after.toList := by rw [List.getD_eq_getElem?_getD, hs]; rfl
      rw [← this]; exact hj
    obtain ⟨e, he, hb, h1⟩ := bef1_bit _ hj'
    refine ⟨e, by simpa using he, hb, h1.imp id fun h1 => ?_⟩
    have hlt := hedge i o e ho (by simpa using he) hb
    rw [List.getD_eq_getElem?_getD, List.getElem?_take, if_pos hlt, ← List.getD_eq_getElem?_getD] at h1
    exact h1
  · have := pairsOk_spec _ hreg.2 i j _ _ hij (plan_get hi) (plan_get hj)
    refine this.imp id fun h => ?_
    unfold apartP at h
    simp only [Bool.and_eq_true, Bool.not_eq_true'] at h
    exact ⟨h.1.1, h.1.2, h.2⟩

/-! ### One step -/
structure Calm (d d' : DS) (o : Oper) (v : Value) : Prop where
  put : PutR d.st d'.st o.dst v
  inc : d'.inc = d.inc
  hist : d'.hist = d.hist
  lim : d'.lim = d.lim
inductive Stp (H : List HookE) (P : Program) (G : Nat) (ih : Run) (ops : Array Oper) (p : Pl) (d d' : DS) : Prop
  | skip (hw : wantS ops d.st.tr p.o = false) (c : Calm d d' p.o undef) (h1 : d'.lays = d.lays) (h2 : d'.looks = d.looks) (h3 : d'.nx = d.nx)
  | free (v : Value) (S' : SW) (hw : wantS ops d.st.tr p.o = true) (hk : kindO p.o.op = .free) (hs : stepS P G d.st.S d.st.tr p.o = some (.val v, S')) (c : Calm d d' p.o v) (h1 : d'.lays = d.lays) (h2 : d'.looks = d.looks) (h3 : d'.nx = d.nx)
  | look (v : Value) (hw : wantS ops d.st.tr p.o = true) (hk : kindO p.o.op = .look) (hs : lookAt P G d.lays p d.st.tr d.now = some v) (hb : backOk P G d.lays ⟨p, d.st.tr, v⟩ d.hist = true) (c : Calm d d' p.o v) (h1 : d'.lays = d.lays)
      (h2 : d'.looks = ⟨p, d.st.tr, v⟩ :: d.looks) (h3 : d'.nx = d.nx)
  | lay (v : Value) (obj : SObj) (hw : wantS ops d.st.tr p.o = true) (hk : kindO p.o.op = .lay) (hok : allL (okX G) (opL p.o.op) = true) (hlt : d.nx < d.lim) (hs : allocS P d.nx (evS d.st.tr) p.o = some (v, obj)) (c : Calm d d' p.o v)
      (h1 : d'.lays = ⟨p.i, d.nx, obj⟩ :: d.lays) (h2 : d'.looks = d.looks) (h3 : d'.nx = d.nx + 1)
  | loud (st' : St) (hw : wantS ops d.st.tr p.o = true) (hk : kindO p.o.op = .loud) (hh : allL (fun x => Nat.testBit p.B x.1) d.hist = true) (hs : operE H P G ih ops (d.with p.B) p.o = some (.normal, st'))
      (hl : allL (fun x => Nat.testBit p.B x.p.i || sees P G d.lays x ⟨st'.S, layBits d.lays p.B d.inc⟩) d.looks = true) (he : d' = { d with st := st', inc := layBits d.lays p.B d.inc, hist := (p.i, d.now) :: d.hist })
theorem dOne_stp {p : Pl} {d d' : DS} (h : dOne H P G ih ops p d = some d') : Stp H P G ih ops p d d' := by
  unfold dOne at h
  split at h
  · rename_i hw
    unfold dSkip at h
    split at h
    · rename_i st' hp
      cases h
      exact .skip hw ⟨put_some hp, rfl, rfl, rfl⟩ rfl rfl rfl
    · cases h
  · rename_i hw
    split at h
    · rename_i hk
      unfold dFree at h
      split at h
      · rename_i v S' hs
        split at h
        · rename_i st' hp
          cases h
          exact .free v S' hw hk hs ⟨put_some hp, rfl, rfl, rfl⟩ rfl rfl rfl
        · cases h
      · cases h
    · rename_i hk
      unfold dLook at h
      split at h
      · cases h
      · rename_i v hs
        by_cases hb : backOk P G d.lays ⟨p, d.st.tr, v⟩ d.hist = true
        · rw [hb, cond_true] at h
          split at h
          · rename_i st' hp
            cases h
            exact .look v hw hk hs hb ⟨put_some hp, rfl, rfl, rfl⟩ rfl rfl rfl
          · cases h
        · rw [Bool.eq_false_iff.2 hb] at h; cases h
    · rename_i hk
      unfold dLay at h
      by_cases hb : (allL (okX G) (opL p.o.op) && Nat.blt d.nx d.lim) = true
      · rw [hb, cond_true] at h
        rw [Bool.and_eq_true] at hb
        split at h
        · rename_i v obj hs
          split at h
          · rename_i st' hp
            cases h
            exact .lay v obj hw hk hb.1 (Nat.le_of_ble_eq_true hb.2) hs ⟨put_some hp, rfl, rfl, rfl⟩ rfl rfl rfl
          · cases h
        · cases h
      · rw [Bool.eq_false_iff.2 hb] at h; cases h
    · rename_i hk
      unfold dLoud at h
      by_cases hb : allL (fun x => Nat.testBit p.B x.1) d.hist = true
      · rw [hb, cond_true] at h
        split at h
        · rename_i st' hs
          by_cases hl : allL (fun x => Nat.testBit p.B x.p.i || sees P G d.lays x ⟨st'.S, layBits d.lays p.B d.inc⟩) d.looks = true
          · rw [hl, cond_true] at h
            cases h
            exact .loud st' hw hk hb hs hl rfl
          · rw [Bool.eq_false_iff.2 hl] at h; cases h
        · cases h
      · rw [Bool.eq_false_iff.2 hb] at h; cases h
theorem operE_shape {st : St} {o : Oper} {st' : St} (h : operE H P G ih ops st o = some (.normal, st')) : ∃ v, st'.tr = putT st.tr o.dst v ∧ st'.nt = st.nt ∧ st'.rd = st.rd ∧ ∀ t, o.dst = some t → t < st.nt := by
  have hfin : ∀ (st1 : St) (v : Value), st1.tr = st.tr → st1.nt = st.nt → st1.rd = st.rd → finE st1 o v = some (.normal, st') → ∃ v, st'.tr = putT st.tr o.dst v ∧ st'.nt = st.nt ∧ st'.rd = st.rd ∧ ∀ t, o.dst = some t → t < st.nt := fun st1 v h1 h2 h3 hf => by
    have q := put_some (finE_some hf).2
    exact ⟨v, by rw [q.tr, h1], q.nt.trans h2, q.rd.trans h3, fun t ht => h2 ▸ q.lt t ht⟩
  have h := (operE_split h).1
  unfold operE1 at h
  cases hw : wantS ops st.tr o with
  | false => rw [hw] at h; exact hfin st _ rfl rfl rfl h
  | true =>
    rw [hw] at h
    cases hx : stepS P G st.S st.tr o with
    | none => rw [hx] at h; cases h
    | some p =>
      obtain ⟨x, S'⟩ := p
      rw [hx] at h
      cases x with
      | val v => exact hfin ⟨S', st.tr, st.nt, st.ds, st.rd⟩ v rfl rfl rfl h
      | skip => exact hfin ⟨S', st.tr, st.nt, st.ds, st.rd⟩ undef rfl rfl rfl h
      | enter f args =>
        have h' : (Option.rec none (fun p => onEnd p.1 p.2 st o) (callF H P G ih S' f args) : Option (SExit × St)) = some (.normal, st') := h
        cases hc : callF H P G ih S' f args with
        | none => rw [hc] at h'; cases h'
        | some q =>
          obtain ⟨r, S1⟩ := q
          rw [hc] at h'
          cases r with
          | ret v => exact hfin ⟨S1, st.tr, st.nt, st.ds, st.rd⟩ v rfl rfl rfl h'
          | panic v => cases (show some (SExit.panic v, (⟨S1, st.tr, st.nt, st.ds, st.rd⟩ : St)) = some (.normal, st') from h')
      | round l args =>
        have h' : (Option.rec none (fun p => finE ⟨p.2, st.tr, st.nt, st.ds, st.rd⟩ o p.1) (roundE ih S' l args) : Option (SExit × St)) = some (.normal, st') := h
        cases hc : roundE ih S' l args with
        | none => rw [hc] at h'; cases h'
        | some q =>
          obtain ⟨v, S1⟩ := q
          rw [hc] at h'
          exact hfin ⟨S1, st.tr, st.nt, st.ds, st.rd⟩ v rfl rfl rfl h'
      | defer d =>
        have h' : (bif st.rd then none else finE ⟨S', st.tr, st.nt, d :: st.ds, st.rd⟩ o undef) = some (.normal, st') := h
        cases hrd : st.rd with
        | true => rw [hrd] at h'; cases h'
        | false =>
          rw [hrd, cond_false] at h'
          obtain ⟨v, a, b, c, e⟩ := hfin ⟨S', st.tr, st.nt, d :: st.ds, st.rd⟩ undef rfl rfl rfl (by rw [hrd]; exact h')
          exact ⟨v, a, b, c.trans hrd, e⟩
      | recover => cases h
      | panic v => cases (show some (SExit.panic v, (⟨S', st.tr, st.nt, st.ds, st.rd⟩ : St)) = some (.normal, st') from h)
def Lo (ops : Array Oper) (s : Nat → DS) (i : Nat) (o : Oper) : Prop := wantS ops (s i).st.tr o = true ∧ kindO o.op = .loud
theorem Stp.shape {p : Pl} {d d' : DS} (h : Stp H P G ih ops p d d') : ∃ v, d'.st.tr = putT d.st.tr p.o.dst v ∧ d'.st.nt = d.st.nt ∧ d'.st.rd = d.st.rd ∧ d'.lim = d.lim ∧ ∀ t, p.o.dst = some t → t < d.st.nt := by
  cases h with
  | skip hw c => exact ⟨_, c.put.tr, c.put.nt, c.put.rd, c.lim, c.put.lt⟩
  | free v S' hw hk hs c => exact ⟨_, c.put.tr, c.put.nt, c.put.rd, c.lim, c.put.lt⟩
  | look v hw hk hs hb c => exact ⟨_, c.put.tr, c.put.nt, c.put.rd, c.lim, c.put.lt⟩
  | lay v obj hw hk hok hlt hs c => exact ⟨_, c.put.tr, c.put.nt, c.put.rd, c.lim, c.put.lt⟩
  | loud st' hw hk hh hs hl he =>
    subst he
    obtain ⟨v, h1, h2, h3, h4⟩ := operE_shape hs
    exact ⟨v, h1, h2, h3, rfl, h4⟩
theorem Stp.calm {p : Pl} {d d' : DS} (h : Stp H P G ih ops p d d') (hl : ¬ (wantS ops d.st.tr p.o = true ∧ kindO p.o.op = .loud)) : d'.st.S = d.st.S ∧ d'.st.ds = d.st.ds ∧ d'.inc = d.inc ∧ d'.hist = d.hist := by
  cases h with
  | skip hw c => exact ⟨c.put.S, c.put.ds, c.inc, c.hist⟩
  | free v S' hw hk hs c => exact ⟨c.put.S, c.put.ds, c.inc, c.hist⟩
  | look v hw hk hs hb c => exact ⟨c.put.S, c.put.ds, c.inc, c.hist⟩
  | lay v obj hw hk hok hlt hs c => exact ⟨c.put.S, c.put.ds, c.inc, c.hist⟩
  | loud st' hw hk => exact absurd ⟨hw, hk⟩ hl
theorem Stp.lays {p : Pl} {d d' : DS} (h : Stp H P G ih ops p d d') : (d'.lays = d.lays ∧ d'.nx = d.nx) ∨ (∃ obj, d'.lays = ⟨p.i, d.nx, obj⟩ :: d.lays ∧ d'.nx = d.nx + 1 ∧ d.nx < d.lim) := by
  cases h with
  | skip hw c h1 h2 h3 => exact .inl ⟨h1, h3⟩
  | free v S' hw hk hs c h1 h2 h3 => exact .inl ⟨h1, h3⟩
  | look v hw hk hs hb c h1 h2 h3 => exact .inl ⟨h1, h3⟩
  | lay v obj hw hk hok hlt hs c h1 h2 h3 => exact .inr ⟨obj, h1, h3, hlt⟩
  | loud st' hw hk hh hs hl he => subst he; exact .inl ⟨rfl, rfl⟩
theorem Stp.looks {p : Pl} {d d' : DS} (h : Stp H P G ih ops p d d') : ∀ x ∈ d.looks, x ∈ d'.looks := fun x hx => by
  cases h with
  | skip hw c h1 h2 h3 => rw [h2]; exact hx
  | free v S' hw hk hs c h1 h2 h3 => rw [h2]; exact hx
  | look v hw hk hs hb c h1 h2 h3 => rw [h2]; exact List.mem_cons_of_mem _ hx
  | lay v obj hw hk hok hlt hs c h1 h2 h3 => rw [h2]; exact hx
  | loud st' hw hk hh hs hl he => subst he; exact hx
end
section
variable {H : List HookE} {P : Program} {G : Nat} {ih : Run} {ops : Array Oper} {B : Nat → Nat} {s : Nat → DS}
theorem Rn.stp (hr : Rn H P G ih ops B s) {i : Nat} {o : Oper} (ho : ops[i]? = some o) : Stp H P G ih ops ⟨i, o, B i, looksT ops o⟩ (s i) (s (i + 1)) := dOne_stp (hr.one i o ho)
/-- From step to step. -/
theorem Rn.go (hr : Rn H P G ih ops B s) (R : Nat → Prop) {i : Nat} (h0 : R i) (h1 : ∀ q o, i ≤ q → ops[q]? = some o → Stp H P G ih ops ⟨q, o, B q, looksT ops o⟩ (s q) (s (q + 1)) → R q → R (q + 1)) : ∀ j, i ≤ j → j ≤ ops.size → R j := by
  intro j
  induction j with
  | zero => intro hi _; have : i = 0 := by omega
            subst this; exact h0
  | succ j hj =>
    intro hi hk
    by_cases he : i = j + 1
    · subst he; exact h0
    · have ho : ops[j]? = some ops[j] := Array.getElem?_eq_getElem (by omega)
      exact h1 j _ (by omega) ho (hr.stp ho) (hj (by omega) (by omega))
theorem Rn.const (hr : Rn H P G ih ops B s) {j : Nat} (hj : j ≤ ops.size) : (s j).st.nt = (s 0).st.nt ∧ (s j).st.rd = (s 0).st.rd ∧ (s j).lim = (s 0).lim :=
  hr.go (fun j => (s j).st.nt = (s 0).st.nt ∧ (s j).st.rd = (s 0).st.rd ∧ (s j).lim = (s 0).lim) ⟨rfl, rfl, rfl⟩ (fun q o _ ho hs ⟨h1, h2, h3⟩ => by
    obtain ⟨v, _, k1, k2, k3, _⟩ := hs.shape
    exact ⟨k1.trans h1, k2.trans h2, k3.trans h3⟩) j (Nat.zero_le _) hj
theorem evS_putT_other {tr : Tr Value} {d : Option Tmp} {v : Value} {t : Tmp} (h : d ≠ some t) : evS (putT tr d v) (.tmp t) = evS tr (.tmp t) := by
  rw [evS_tmp, evS_tmp]
  cases d with
  | none => rfl
  | some d => rw [show putT tr (some d) v = tr.put d (some v) from rfl, Tr.get_put_other _ _ (fun e => h (by rw [e]))]
theorem evS_putT_same {tr : Tr Value} {v : Value} {t : Tmp} : evS (putT tr (some t) v) (.tmp t) = v := by
  rw [evS_tmp, show putT tr (some t) v = tr.put t (some v) from rfl, Tr.get_put_same]
  rfl
theorem Rn.same (hr : Rn H P G ih ops B s) {t : Tmp} {i j : Nat} (hij : i ≤ j) (hj : j ≤ ops.size) (h : ∀ q o, i ≤ q → q < j → ops[q]? = some o → o.dst ≠ some t) : evS (s j).st.tr (.tmp t) = evS (s i).st.tr (.tmp t) := by
  refine hr.go (fun m => m ≤ j → evS (s m).st.tr (.tmp t) = evS (s i).st.tr (.tmp t)) (fun _ => rfl) (fun q o hq ho hs h1 hm => ?_) j hij hj (Nat.le_refl _)
  obtain ⟨v, k, _⟩ := hs.shape
  rw [k, evS_putT_other (h q o hq hm ho)]
  exact h1 (by omega)
theorem Rn.calm (hr : Rn H P G ih ops B s) {i j : Nat} (hij : i ≤ j) (hj : j ≤ ops.size) (h : ∀ q o, i ≤ q → q < j → ops[q]? = some o → ¬ Lo ops s q o) :
    (s j).st.S = (s i).st.S ∧ (s j).st.ds = (s i).st.ds ∧ (s j).inc = (s i).inc ∧ (s j).hist = (s i).hist := by
  refine hr.go (fun m => m ≤ j → (s m).st.S = (s i).st.S ∧ (s m).st.ds = (s i).st.ds ∧ (s m).inc = (s i).inc ∧ (s m).hist = (s i).hist) (fun _ => ⟨rfl, rfl, rfl, rfl⟩) (fun q o hq ho hs h1 hm => ?_) j hij hj (Nat.le_refl _)
  obtain ⟨k1, k2, k3, k4⟩ := hs.calm (h q o hq hm ho)
  obtain ⟨q1, q2, q3, q4⟩ := h1 (by omega)
  exact ⟨k1.trans q1, k2.trans q2, k3.trans q3, k4.trans q4⟩
theorem Rn.laysMono (hr : Rn H P G ih ops B s) {i j : Nat} (hij : i ≤ j) (hj : j ≤ ops.size) : ∀ l ∈ (s i).lays, l ∈ (s j).lays := by
  refine hr.go (fun m => ∀ l ∈ (s i).lays, l ∈ (s m).lays) (fun _ h => h) (fun q o hq ho hs h1 l hl => ?_) j hij hj
  rcases hs.lays with ⟨k, _⟩ | ⟨obj, k, _⟩
  · rw [k]; exact h1 l hl
  · rw [k]; exact List.mem_cons_of_mem _ (h1 l hl)
theorem Rn.looksMono (hr : Rn H P G ih ops B s) {i j : Nat} (hij : i ≤ j) (hj : j ≤ ops.size) : ∀ l ∈ (s i).looks, l ∈ (s j).looks :=
  hr.go (fun m => ∀ l ∈ (s i).looks, l ∈ (s m).looks) (fun _ h => h) (fun _ _ _ _ hs h1 l hl => hs.looks l (h1 l hl)) j hij hj
theorem Rn.lay (hr : Rn H P G ih ops B s) (h0 : (s 0).lays = []) {j : Nat} (hj : j ≤ ops.size) :
    (∀ l ∈ (s j).lays, l.j < j ∧ (s 0).nx ≤ l.id ∧ l.id < (s j).nx ∧ l.id < (s 0).lim) ∧ (s j).lays.Pairwise (fun a b => a.j ≠ b.j ∧ a.id ≠ b.id) ∧ (s 0).nx ≤ (s j).nx := by
  refine hr.go (i := 0) (fun j => j ≤ ops.size → (∀ l ∈ (s j).lays, l.j < j ∧ (s 0).nx ≤ l.id ∧ l.id < (s j).nx ∧ l.id < (s 0).lim) ∧ (s j).lays.Pairwise (fun a b => a.j ≠ b.j ∧ a.id ≠ b.id) ∧ (s 0).nx ≤ (s j).nx)
    (fun _ => ⟨fun l hl => (by rw [h0] at hl; cases hl), by rw [h0]; exact .nil, Nat.le_refl _⟩) (fun q o _ ho hs h1 hq => ?_) j (Nat.zero_le _) hj hj
  obtain ⟨k1, k2, k3⟩ := h1 (by omega)
  rcases hs.lays with ⟨e1, e2⟩ | ⟨obj, e1, e2, e3⟩
  · rw [e1, e2]
    exact ⟨fun l hl => ⟨Nat.lt_succ_of_lt (k1 l hl).1, (k1 l hl).2⟩, k2, k3⟩
  · rw [e1, e2]
    refine ⟨fun l hl => ?_, .cons (fun l hl => ?_) k2, by omega⟩
    · rcases List.mem_cons.1 hl with rfl | hl
      · exact ⟨Nat.lt_succ_self _, k3, Nat.lt_succ_self _, by rw [← (hr.const (by omega : q ≤ ops.size)).2.2]; exact e3⟩
      · obtain ⟨a, b, c, d⟩ := k1 l hl
        exact ⟨by omega, b, by omega, d⟩
    · obtain ⟨a, b, c, d⟩ := k1 l hl
      exact ⟨by show q ≠ l.j; omega, by show (s q).nx ≠ l.id; omega⟩
theorem Rn.layBack (hr : Rn H P G ih ops B s) {i j : Nat} (hij : i ≤ j) (hj : j ≤ ops.size) : ∀ l ∈ (s j).lays, l.j < i → l ∈ (s i).lays := by
  refine hr.go (fun m => ∀ l ∈ (s m).lays, l.j < i → l ∈ (s i).lays) (fun _ h _ => h) (fun q o hq ho hs h1 l hl hlt => ?_) j hij hj
  rcases hs.lays with ⟨k, _⟩ | ⟨obj, k, _⟩
  · rw [k] at hl; exact h1 l hl hlt
  · rw [k] at hl
    rcases List.mem_cons.1 hl with rfl | hl
    · exact absurd hlt (by show ¬ q < i; omega)
    · exact h1 l hl hlt
theorem Rn.histMem (hr : Rn H P G ih ops B s) {q : Nat} {o : Oper} (ho : ops[q]? = some o) (hl : Lo ops s q o) {j : Nat} (hq : q < j) (hj : j ≤ ops.size) : (q, (s q).now) ∈ (s j).hist := by
  refine hr.go (fun m => (q, (s q).now) ∈ (s m).hist) ?_ (fun m o' hm ho' hs h1 => ?_) j hq hj
  · cases hr.stp ho with
    | skip hw => rw [hl.1] at hw; cases hw
    | free v S' hw hk => rw [hl.2] at hk; cases hk
    | look v hw hk => rw [hl.2] at hk; cases hk
    | lay v obj hw hk => rw [hl.2] at hk; cases hk
    | loud st' hw hk hh hs hl' he => rw [he]; exact List.mem_cons_self
  · by_cases hlo : Lo ops s m o'
    · cases hs with
      | skip hw => have := hlo.1; rw [hw] at this; cases this
      | free v S' hw hk => have := hlo.2; rw [hk] at this; cases this
      | look v hw hk => have := hlo.2; rw [hk] at this; cases this
      | lay v obj hw hk => have := hlo.2; rw [hk] at this; cases this
      | loud st' hw hk hh hs hl' he => rw [he]; exact List.mem_cons_of_mem _ h1
    · rw [(hs.calm hlo).2.2.2]; exact h1
/-- The stages before. -/
theorem Rn.back (hr : Rn H P G ih ops B s) {i : Nat} (hi : i ≤ ops.size) {x : Look} {lays : List Lay} (hb : backOk P G lays x (s i).hist = true) :
    ∀ m c, c + m = i → (∀ q o, c ≤ q → q < i → ops[q]? = some o → Lo ops s q o → x.p.B.testBit q = false) → ((s c).now = (s i).now ∨ sees P G lays x (s c).now = true) ∧ backOk P G lays x (s c).hist = true := by
  intro m
  induction m with
  | zero =>
    intro c hc _
    have : c = i := by omega
    subst this
    exact ⟨.inl rfl, hb⟩
  | succ m hm =>
    intro c hc hno
    obtain ⟨h1, h2⟩ := hm (c + 1) (by omega) (fun q o hq => hno q o (by omega))
    have ho : ops[c]? = some ops[c] := Array.getElem?_eq_getElem (by omega)
    by_cases hlo : Lo ops s c ops[c]
    · have hbit := hno c _ (Nat.le_refl _) (by omega) ho hlo
      cases hr.stp ho with
      | skip hw => have := hlo.1; rw [hw] at this; cases this
      | free v S' hw hk => have := hlo.2; rw [hk] at this; cases this
      | look v hw hk => have := hlo.2; rw [hk] at this; cases this
      | lay v obj hw hk => have := hlo.2; rw [hk] at this; cases this
      | loud st' hw hk hh hs hl' he =>
        have hh : (s (c + 1)).hist = (c, (s c).now) :: (s c).hist := by rw [he]
        rw [hh] at h2
        have h3 : (Bool.rec (bif sees P G lays x (s c).now then backOk P G lays x (s c).hist else false) true (Nat.testBit x.p.B c) : Bool) = true := h2
        rw [hbit] at h3
        have h4 : (bif sees P G lays x (s c).now then backOk P G lays x (s c).hist else false) = true := h3
        cases hsee : sees P G lays x (s c).now with
        | false => rw [hsee] at h4; cases h4
        | true => rw [hsee] at h4; exact ⟨.inr rfl, h4⟩
    · obtain ⟨k1, k2, k3, k4⟩ := (hr.stp ho).calm hlo
      have hnow : (s (c + 1)).now = (s c).now := by unfold DS.now; rw [k1, k3]
      rw [hnow] at h1
      rw [k4] at h2
      exact ⟨h1, h2⟩
end
end Go.Proofs.YtaeophaecclnbaaGreatDoor
namespace Go.Proofs.YtaeophaecclnbaaGreatDoor
open Go

section
variable {P : Program} {G : Nat}
def Stays (P : Program) (ρ : Operand → Value) (o : Oper) : Prop := ∀ S x S', opS P S ρ o = some (x, S') → S' = S
def Blind (P : Program) (ρ : Operand → Value) (o : Oper) : Prop := ∀ S S2, (opS P S2 ρ o) = (opS P S ρ o).map (fun x => (x.1, S2))
theorem valS_stays {S S' : SW} {v : Option Value} {x : ONext} (h : valS S v = some (x, S')) : S' = S := by cases v <;> cases h; rfl
theorem boolV_stays {S S' : SW} {v : Option Bool} {x : ONext} (h : boolV S v = some (x, S')) : S' = S := by cases v <;> cases h; rfl
theorem valS_blind (S S2 : SW) (v : Option Value) : valS S2 v = (valS S v).map (fun x => (x.1, S2)) := by cases v <;> rfl
theorem free_blind {ρ : Operand → Value} {o : Oper} (hk : kindO o.op = .free) : Blind P ρ o := by
  intro S S2
  unfold opS
  cases ho : o.op with
  | move x => rfl
  | assign x => rfl
  | pick c a b =>
    show opPick c a b P S2 ρ o = (opPick c a b P S ρ o).map _
    unfold opPick
    split <;> rfl
  | nilCheck x =>
    show opNilCheck x P S2 ρ o = (opNilCheck x P S ρ o).map _
    unfold opNilCheck
    split <;> rfl
  | unOp => rfl
  | makeInterface t x =>
    show opIface t x P S2 ρ o = (opIface t x P S ρ o).map _
    unfold opIface
    split
    · split <;> rfl
    · rfl
  | makeFunc f a b =>
    show opFunc f a b P S2 ρ o = (opFunc f a b P S ρ o).map _
    unfold opFunc
    cases isYield f <;> rfl
  | slice t x lo hi mx => exact valS_blind _ _ _
  | fieldAddr t x f => exact valS_blind _ _ _
  | field t x f => exact valS_blind _ _ _
  | indexAddr t x f => exact valS_blind _ _ _
  | index t x f => exact valS_blind _ _ _
  | extract t i =>
    show opExtract t i P S2 ρ o = (opExtract t i P S ρ o).map _
    unfold opExtract
    split
    · exact valS_blind _ _ _
    · rfl
  | typeAssert x t a ok => exact valS_blind _ _ _
  | build t ps => exact valS_blind _ _ _
  | binOp op t x y z =>
    rw [ho] at hk
    show opBin op t x y P S2 ρ o = (opBin op t x y P S ρ o).map _
    unfold opBin
    split
    · rfl
    · cases op <;> first | rfl | cases hk
  | call c =>
    rw [ho] at hk
    show callS P S2 ρ c = (callS P S ρ c).map _
    have hk' : kindC c = .free := hk
    unfold kindC at hk'
    split at hk' <;> first | cases hk' | skip
    · rename_i hc
      unfold callS
      simp only [hc]
      cases c.args.toList.map ρ with
      | nil => rfl
      | cons x l => cases l with
        | nil => show (match capBS P c.argTypes.toList x with | some v => some (ONext.val v, S2) | none => none) = (match capBS P c.argTypes.toList x with | some v => some (ONext.val v, S) | none => none).map _
                 cases capBS P c.argTypes.toList x <;> rfl
        | cons y l => rfl
    · rename_i hc
      unfold callS
      simp only [hc]
      cases c.args.toList.map ρ with
      | nil => rfl
      | cons x l => cases l with
        | nil => rfl
        | cons y l => cases l <;> rfl
    · rename_i hc
      unfold callS
      simp only [hc]
      cases c.args.toList.map ρ with
      | nil => rfl
      | cons x l => cases l with
        | nil => rfl
        | cons y l => cases l <;> rfl
  | _ => rw [ho] at hk; cases hk
theorem look_stays {ρ : Operand → Value} {o : Oper} (hk : kindO o.op = .look) : Stays P ρ o := by
  intro S x S' h
  unfold opS at h
  cases ho : o.op with
  | load t a =>
    rw [ho] at h
    have h' : opLoad t a P S ρ o = some (x, S') := h
    unfold opLoad at h'
    split at h'
    · exact valS_stays h'
    · cases h'
  | lookup t m k ok => rw [ho] at h; exact valS_stays h
  | binOp op t y z b =>
    rw [ho] at h
    have h' : opBin op t y z P S ρ o = some (x, S') := h
    unfold opBin at h'
    split at h'
    · cases h'; rfl
    · unfold opEq at h'
      split at h'
      · exact boolV_stays h'
      · exact boolV_stays h'
      · cases h'
  | call c =>
    rw [ho] at hk h
    have hk' : kindC c = .look := hk
    have h' : callS P S ρ c = some (x, S') := h
    unfold kindC at hk'
    split at hk' <;> first | cases hk' | skip
    rename_i hc
    unfold callS at h'
    simp only [hc] at h'
    generalize c.args.toList.map ρ = l at h'
    cases l with
    | nil => cases h'
    | cons y l => cases l with
      | nil =>
        have h2 : (match lenBS P S c.argTypes.toList y with | some v => some (ONext.val v, S) | none => none) = some (x, S') := h'
        cases hl : lenBS P S c.argTypes.toList y with
        | none => rw [hl] at h2; cases h2
        | some v => rw [hl] at h2; cases h2; rfl
      | cons z l => cases l <;> cases h'
  | _ => rw [ho] at hk; cases hk
theorem plainS_stays {S S' : SW} {ρ : Operand → Value} {o : Oper} {x : ONext} (h : plainS P S ρ o = some (x, S')) : S' = S := by
  unfold plainS at h
  cases hp : allL (fun x => plainV PD (ρ x)) (opL o.op) with
  | false => rw [hp] at h; cases h
  | true =>
    rw [hp, cond_true] at h
    split at h
    · cases h; rfl
    · cases h
theorem look_step {S S' : SW} {tr : Tr Value} {o : Oper} (hk : kindO o.op = .look) {x : ONext} (h : stepS P G S tr o = some (x, S')) : S' = S := by
  unfold stepS at h
  cases hok : allL (okX G) (opL o.op) with
  | false => rw [hok] at h; cases h
  | true =>
    rw [hok] at h
    cases ho : opS P S (evS tr) o with
    | some y =>
      rw [ho] at h
      cases (show some y = some (x, S') from h)
      exact look_stays hk _ _ _ ho
    | none =>
      rw [ho] at h
      exact plainS_stays (show plainS P S (evS tr) o = some (x, S') from h)
theorem free_step {S S' : SW} {tr : Tr Value} {o : Oper} (hk : kindO o.op = .free) {x : ONext} (h : stepS P G S tr o = some (x, S')) (S2 : SW) : stepS P G S2 tr o = some (x, S2) := by
  unfold stepS at h ⊢
  cases hok : allL (okX G) (opL o.op) with
  | false => rw [hok] at h; cases h
  | true =>
    rw [hok] at h
    have hb := free_blind (P := P) (ρ := evS tr) hk S S2
    cases ho : opS P S (evS tr) o with
    | some y =>
      rw [ho] at h hb
      cases (show some y = some (x, S') from h)
      rw [hb]
      rfl
    | none =>
      rw [ho] at h hb
      rw [hb]
      have h' : plainS P S (evS tr) o = some (x, S') := h
      show plainS P S2 (evS tr) o = some (x, S2)
      unfold plainS at h' ⊢
      cases hp : allL (fun x => plainV PD (evS tr x)) (opL o.op) with
      | false => rw [hp] at h'; cases h'
      | true =>
        rw [hp, cond_true] at h'
        rw [cond_true]
        split at h'
        · rename_i y hy
          cases h'
          rfl
        · cases h'

/-! ### What is laid and not taken in -/
variable {F F' : Nat → Option Obj} {W : World} {E E' : Env} {S S' : SW} {w w' : World}
/-- X: laid and not taken in. -/
structure Out (F F' : Nat → Option Obj) (E : Env) (w : World) (lays : List Lay) (X : Nat → Prop) : Prop where
  sub : ∀ k o, F k = some o → F' k = some o
  out : ∀ l ∈ lays, X l.j → ∃ e, E l.id = some e ∧ ObjR E w e l.obj ∧ (F' e.b).isSome = true ∧ F e.b = none
  inj : ∀ l ∈ lays, ∀ l' ∈ lays, X l.j → X l'.j → ∀ e e', E l.id = some e → E l'.id = some e' → e.b = e'.b → l.j = l'.j
theorem Out.mono {lays : List Lay} {X Y : Nat → Prop} (h : Out F F' E w lays X) (hY : ∀ l ∈ lays, Y l.j → X l.j) : Out F F' E w lays Y :=
  ⟨h.sub, fun l hl hx => h.out l hl (hY l hl hx), fun l hl l' hl' hx hx' => h.inj l hl l' hl' (hY l hl hx) (hY l' hl' hx')⟩
/-- Another world, the same blocks. -/
theorem Out.move {lays : List Lay} {X : Nat → Prop} (h : Out F F' E w lays X) (hs : Sat G F' W E S w) (hs' : Sat G F' W E' S' w') (hE : E.le E') (hid : ∀ l ∈ lays, E' l.id = E l.id) : Out F F' E' w' lays X := by
  refine ⟨h.sub, fun l hl hx => ?_, fun l hl l' hl' hx hx' e e' he he' => h.inj l hl l' hl' hx hx' e e' (by rw [← hid l hl]; exact he) (by rw [← hid l' hl']; exact he')⟩
  obtain ⟨e, he, ho, hf, hn⟩ := h.out l hl hx
  obtain ⟨o, hfo⟩ := Option.isSome_iff_exists.1 hf
  exact ⟨e, by rw [hid l hl]; exact he, ho.mono hE ((hs'.far _ _ hfo).trans (hs.far _ _ hfo).symm), hf, hn⟩
theorem Sat.weaken (h : Sat G F' W E S w) (hsub : ∀ k o, F k = some o → F' k = some o) : Sat G F W E S w :=
  ⟨h.new, h.glob, h.obj, h.inj, fun i o e hi he => (by
    have := h.own i o e hi he
    cases hf : F e.b with
    | none => rfl
    | some x => rw [hsub _ _ hf] at this; cases this), fun k o hk => h.far k o (hsub k o hk), h.size, h.os, h.tape, h.output⟩
/-- One taken in. -/
theorem Sat.incl1 (h : Sat G F' W E S w) {i : Nat} {e : Ent} {so : SObj} (he : E i = some e) (ho : ObjR E w e so) (hf : (F' e.b).isSome = true) : Sat G (fun k => if k = e.b then none else F' k) W E (S.set i so) w := by
  refine ⟨fun j hj => h.new j (by rw [SW.set_n] at hj; exact hj), h.glob, fun j o hj => ?_, fun j k o o' e1 e2 hj hk h1 h2 hb => ?_, fun j o e1 hj h1 => ?_, fun k o hk => ?_, h.size, h.os, h.tape, h.output⟩
  · rw [SW.set_get] at hj
    split at hj
    · cases hj; subst j; exact ⟨e, he, ho⟩
    · exact h.obj j o hj
  · have key : ∀ j o e1, S.h.get j = some o → E j = some e1 → e1.b ≠ e.b := fun j o e1 hj h1 hb => by
      have := h.own j o e1 hj h1
      rw [hb] at this
      rw [this] at hf
      cases hf
    rw [SW.set_get] at hj hk
    by_cases hji : j = i
    · by_cases hki : k = i
      · rw [hji, hki]
      · rw [if_neg hki] at hk
        subst hji
        rw [he] at h1; cases h1
        exact absurd hb.symm (key k o' e2 hk h2)
    · rw [if_neg hji] at hj
      by_cases hki : k = i
      · subst hki
        rw [he] at h2; cases h2
        exact absurd hb (key j o e1 hj h1)
      · rw [if_neg hki] at hk
        exact h.inj j k o o' e1 e2 hj hk h1 h2 hb
  · rw [SW.set_get] at hj
    by_cases hb : e1.b = e.b
    · simp [hb]
    · simp only [if_neg hb]
      by_cases hji : j = i
      · subst hji
        rw [he] at h1; cases h1
        exact absurd rfl hb
      · rw [if_neg hji] at hj
        exact h.own j o e1 hj h1
  · by_cases hb : k = e.b
    · simp [hb] at hk
    · simp only [if_neg hb] at hk
      exact h.far k o hk
def Now (ls : List Lay) (B inc : Nat) (j : Nat) : Prop := ∃ l ∈ ls, l.j = j ∧ layNow B inc l = true
/-- Some taken in. -/
theorem incl {lays : List Lay} {X : Nat → Prop} {B inc : Nat} (h : Sat G F' W E S w) (ho : Out F F' E w lays X) : ∀ ls : List Lay, (∀ l ∈ ls, l ∈ lays) → ls.Pairwise (fun a b => a.j ≠ b.j ∧ a.id ≠ b.id) → (∀ l ∈ ls, layNow B inc l = true → X l.j) →
    ∃ F1, Sat G F1 W E (addLays ls B inc S) w ∧ Out F F1 E w lays (fun j => X j ∧ ¬ Now ls B inc j) ∧ ∀ k, (F1 k).isSome = true → (F' k).isSome = true
  | [], _, _, _ => ⟨F', h, ho.mono fun _ _ hx => hx.1, fun _ hk => hk⟩
  | l :: ls, hsub, hp, hX => by
    obtain ⟨F1, h1, h2, h5⟩ := incl (B := B) (inc := inc) h ho ls (fun x hx => hsub x (List.mem_cons_of_mem _ hx)) (List.pairwise_cons.1 hp).2 (fun x hx => hX x (List.mem_cons_of_mem _ hx))
    have hadd : addLays (l :: ls) B inc S = bif layNow B inc l then (addLays ls B inc S).set l.id l.obj else addLays ls B inc S := rfl
    cases hb : layNow B inc l with
    | false =>
      rw [hadd, hb, cond_false]
      refine ⟨F1, h1, h2.mono fun x hx hY => ⟨hY.1, fun hn => hY.2 ?_⟩, h5⟩
      obtain ⟨y, hy, h3, h4⟩ := hn
      exact ⟨y, List.mem_cons_of_mem _ hy, h3, h4⟩
    | true =>
      rw [hadd, hb, cond_true]
      have hlive : X l.j ∧ ¬ Now ls B inc l.j := ⟨hX l List.mem_cons_self hb, fun ⟨y, hy, h3, _⟩ => ((List.pairwise_cons.1 hp).1 y hy).1 h3.symm⟩
      obtain ⟨e, he, hobj, hf, hn⟩ := h2.out l (hsub l List.mem_cons_self) hlive
      refine ⟨_, h1.incl1 he hobj hf, ⟨fun k o hk => ?_, fun x hx hY => ?_, fun x hx y hy hX' hY' => ?_⟩, fun k hk => ?_⟩
      · have : k ≠ e.b := fun hc => by rw [hc, hn] at hk; cases hk
        simp only [if_neg this]
        exact h2.sub k o hk
      · have hY' : X x.j ∧ ¬ Now ls B inc x.j := ⟨hY.1, fun ⟨y, hy, h3, h4⟩ => hY.2 ⟨y, List.mem_cons_of_mem _ hy, h3, h4⟩⟩
        obtain ⟨e1, he1, ho1, hf1, hn1⟩ := h2.out x hx hY'
        refine ⟨e1, he1, ho1, ?_, hn1⟩
        have : e1.b ≠ e.b := fun hc => hY.2 ⟨l, List.mem_cons_self, (h2.inj x hx l (hsub l List.mem_cons_self) hY' hlive e1 e he1 he hc).symm, hb⟩
        simp only [if_neg this]
        exact hf1
      · exact h2.inj x hx y hy ⟨hX'.1, fun ⟨z, hz, h3, h4⟩ => hX'.2 ⟨z, List.mem_cons_of_mem _ hz, h3, h4⟩⟩ ⟨hY'.1, fun ⟨z, hz, h3, h4⟩ => hY'.2 ⟨z, List.mem_cons_of_mem _ hz, h3, h4⟩⟩
      · by_cases hb : k = e.b
        · simp [hb] at hk
        · simp only [if_neg hb] at hk
          exact h5 k hk
theorem addLays_keep {B inc : Nat} {i : Nat} {o : SObj} (hi : S.h.get i = some o) : ∀ ls : List Lay, (∀ l ∈ ls, layNow B inc l = true → l.id ≠ i) → (addLays ls B inc S).h.get i = some o
  | [], _ => hi
  | l :: ls, h => by
    have hadd : addLays (l :: ls) B inc S = bif layNow B inc l then (addLays ls B inc S).set l.id l.obj else addLays ls B inc S := rfl
    have ih := addLays_keep (B := B) (inc := inc) hi ls fun x hx => h x (List.mem_cons_of_mem _ hx)
    rw [hadd]
    cases hb : layNow B inc l with
    | false => exact ih
    | true => rw [cond_true, SW.set_get, if_neg (fun e => h l List.mem_cons_self hb e.symm)]; exact ih
theorem addLays_n {B inc : Nat} : ∀ ls : List Lay, (addLays ls B inc S).n = S.n
  | [] => rfl
  | l :: ls => by
    have hadd : addLays (l :: ls) B inc S = bif layNow B inc l then (addLays ls B inc S).set l.id l.obj else addLays ls B inc S := rfl
    rw [hadd]
    cases layNow B inc l with
    | false => exact addLays_n ls
    | true => rw [cond_true, SW.set_n]; exact addLays_n ls
theorem addLays_new {B inc : Nat} : ∀ ls : List Lay, ls.Pairwise (fun a b => a.j ≠ b.j ∧ a.id ≠ b.id) → ∀ l ∈ ls, layNow B inc l = true → (addLays ls B inc S).h.get l.id = some l.obj
  | [], _, _, hl, _ => by cases hl
  | x :: ls, hp, l, hl, hb => by
    have hadd : addLays (x :: ls) B inc S = bif layNow B inc x then (addLays ls B inc S).set x.id x.obj else addLays ls B inc S := rfl
    rw [hadd]
    rcases List.mem_cons.1 hl with rfl | hl
    · rw [hb, cond_true, SW.set_get, if_pos rfl]
    · have ih := addLays_new (B := B) (inc := inc) ls (List.pairwise_cons.1 hp).2 l hl hb
      cases layNow B inc x with
      | false => exact ih
      | true => rw [cond_true, SW.set_get, if_neg (fun e => ((List.pairwise_cons.1 hp).1 l hl).2 e.symm)]; exact ih
/-- Given back: behind a look. -/
theorem excl {lays ls : List Lay} {X : Nat → Prop} {B inc : Nat} (h : Sat G F' W E S w) (ho : Out F F' E w lays X) (hp : ls.Pairwise (fun a b => a.j ≠ b.j ∧ a.id ≠ b.id)) (huniq : ∀ l ∈ lays, ∀ l' ∈ ls, l.j = l'.j → l = l')
    (hX : ∀ l ∈ ls, l ∈ lays) (hXX : ∀ l ∈ ls, layNow B inc l = true → X l.j) {F1 : Nat → Option Obj} (ho1 : Out F F1 E w lays (fun j => X j ∧ ¬ Now ls B inc j)) (hF1 : ∀ k, (F1 k).isSome = true → (F' k).isSome = true)
    (h1 : Sat G F1 W E (addLays ls B inc S) w) (hE : Ext S.n E E') (hid : ∀ l ∈ lays, E' l.id = E l.id) (h2 : Sat G F1 W E' (addLays ls B inc S) w') :
    ∃ F2, Sat G F2 W E' S w' ∧ Out F F2 E' w' lays X := by
  have hle := h.le hE
  have ho2 := ho1.move h1 h2 hle hid
  have hkeep : ∀ i o, S.h.get i = some o → (addLays ls B inc S).h.get i = some o := fun i o hi => addLays_keep hi ls fun l hl hb e => by
    obtain ⟨e1, he1, _, hf, _⟩ := ho.out l (hX l hl) (hXX l hl hb)
    rw [← e] at hi
    rw [h.own _ _ _ hi he1] at hf
    cases hf
  refine ⟨fun k => if (F' k).isSome = true then w'.heap[k]? else none, ⟨fun i hi => h2.new i (by rw [addLays_n]; exact hi), h2.glob, fun i o hi => h2.obj i o (hkeep i o hi), fun i j o o' e e' hi hj => h2.inj i j o o' e e' (hkeep i o hi) (hkeep j o' hj),
      fun i o e hi he => ?_, fun k o hk => ?_, h2.size, h2.os, h2.tape, h2.output⟩, fun k o hk => ?_, fun l hl hx => ?_, fun l hl l' hl' hx hx' e e' he he' => ho.inj l hl l' hl' hx hx' e e' (by rw [← hid l hl]; exact he) (by rw [← hid l' hl']; exact he')⟩
  · obtain ⟨e1, he1, _⟩ := h.obj i o hi
    have := hle _ _ he1
    rw [this] at he; cases he
    have hf := h.own i o _ hi he1
    simp only [hf]
    rfl
  · split at hk
    · exact hk
    · cases hk
  · have h3 := ho.sub k o hk
    simp only [h3, Option.isSome_some, if_true]
    exact h2.far k o (ho1.sub k o hk)
  · by_cases hn : Now ls B inc l.j
    · obtain ⟨x, hxl, hj, hb⟩ := hn
      have hlx := huniq l hl x hxl hj.symm
      subst hlx
      obtain ⟨e, he, hobj, hf, hnn⟩ := ho.out l hl hx
      obtain ⟨e2, he2, hobj2⟩ := h2.obj _ _ (addLays_new ls hp l hxl hb)
      have := hle _ _ he
      rw [this] at he2; cases he2
      refine ⟨e, this, hobj2, ?_, hnn⟩
      simp only [hf, if_true]
      rw [Array.getElem?_eq_getElem hobj2.lt]
      rfl
    · obtain ⟨e, he, hobj, hf, hnn⟩ := ho2.out l hl ⟨hx, hn⟩
      refine ⟨e, he, hobj, ?_, hnn⟩
      simp only [hF1 _ hf, if_true]
      rw [Array.getElem?_eq_getElem hobj.lt]
      rfl
end
end Go.Proofs.YtaeophaecclnbaaGreatDoor
namespace Go.Proofs.YtaeophaecclnbaaGreatDoor
open Go

def TmpI (ops : Array Oper) (s : Nat → DS) (D : Nat → Prop) (E : Env) (t : Array Value) : Prop :=
  ∀ x, ∃ j, j ≤ ops.size ∧ VR E (evS (s j).st.tr (.tmp x)) (t.getD x undef) ∧ (∀ q o, j ≤ q → ops[q]? = some o → D q → o.dst ≠ some x) ∧ (j = 0 ∨ ∃ q o, j = q + 1 ∧ ops[q]? = some o ∧ D q ∧ o.dst = some x)
structure Inv (ops : Array Oper) (s : Nat → DS) (G : Nat) (F : Nat → Option Obj) (W : World) (E0 : Env) (D : Nat → Prop) (a : Act) (w : World) (E : Env) (F' : Nat → Option Obj) (c : Nat) : Prop where
  hc : c ≤ ops.size
  lo : ∀ q o, q < c → ops[q]? = some o → Lo ops s q o → D q
  hi : ∀ q o, c ≤ q → ops[q]? = some o → Lo ops s q o → ¬ D q
  sat : Sat G F' W E (s c).st.S w
  ext : Ext (s 0).nx E0 E
  big : (s 0).lim ≤ (s c).st.S.n
  tmp : TmpI ops s D E a.tmps
  size : a.tmps.size = (s 0).st.nt
  ds : LR (DR E) (s c).st.ds a.defers
  out : Out F F' E w (s ops.size).lays (fun j => D j ∧ (s c).inc.testBit j = false)
  new : ∀ l ∈ (s ops.size).lays, ¬ D l.j → E l.id = none
  inc : ∀ j, (s c).inc.testBit j = true → D j
def Closed (ops : Array Oper) (D : Nat → Prop) : Prop := ∀ q o, ops[q]? = some o → D q → ∀ e ∈ o.after, Region.binds .any e = true → D e.on
theorem pair_uniq : ∀ {L : List Lay}, L.Pairwise (fun a b => a.j ≠ b.j ∧ a.id ≠ b.id) → ∀ l ∈ L, ∀ l' ∈ L, (l.j = l'.j ∨ l.id = l'.id) → l = l'
  | [], _, _, h, _, _, _ => by cases h
  | x :: L, hp, l, hl, l', hl', h => by
    obtain ⟨h1, h2⟩ := List.pairwise_cons.1 hp
    rcases List.mem_cons.1 hl with e | k
    · rcases List.mem_cons.1 hl' with e' | k'
      · rw [e, e']
      · rw [e] at h
        rcases h with h | h
        · exact absurd h (h1 l' k').1
        · exact absurd h (h1 l' k').2
    · rcases List.mem_cons.1 hl' with e' | k'
      · rw [e'] at h
        rcases h with h | h
        · exact absurd h.symm (h1 l k).1
        · exact absurd h.symm (h1 l k).2
      · exact pair_uniq h2 l k l' k' h
theorem layBits_bit {B inc j : Nat} : ∀ ls : List Lay, (layBits ls B inc).testBit j = true ↔ inc.testBit j = true ∨ ∃ l ∈ ls, l.j = j ∧ B.testBit j = true
  | [] => ⟨fun h => .inl h, fun h => h.elim id fun ⟨_, hl, _⟩ => by cases hl⟩
  | l :: ls => by
    have hadd : layBits (l :: ls) B inc = bif Nat.testBit B l.j then Nat.lor (layBits ls B inc) (2 ^ l.j) else layBits ls B inc := rfl
    have ih := layBits_bit (B := B) (inc := inc) (j := j) ls
    rw [hadd]
    cases hb : Nat.testBit B l.j with
    | false =>
      rw [cond_false, ih]
      refine or_congr_right ⟨fun ⟨x, hx, h⟩ => ⟨x, List.mem_cons_of_mem _ hx, h⟩, fun ⟨x, hx, h1, h2⟩ => ?_⟩
      rcases List.mem_cons.1 hx with rfl | hx
      · rw [← h1, hb] at h2; cases h2
      · exact ⟨x, hx, h1, h2⟩
    | true =>
      rw [cond_true, show Nat.lor (layBits ls B inc) (2 ^ l.j) = layBits ls B inc ||| 2 ^ l.j from rfl, Nat.testBit_or, Bool.or_eq_true, ih, Nat.testBit_two_pow]
      constructor
      · rintro ((h | ⟨x, hx, h⟩) | h)
        · exact .inl h
        · exact .inr ⟨x, List.mem_cons_of_mem _ hx, h⟩
        · have : l.j = j := by simpa using h
          exact .inr ⟨l, List.mem_cons_self, this, this ▸ hb⟩
      · rintro (h | ⟨x, hx, h1, h2⟩)
        · exact .inl (.inl h)
        · rcases List.mem_cons.1 hx with rfl | hx
          · exact .inr (by simpa using h1)
          · exact .inl (.inr ⟨x, hx, h1, h2⟩)
section
variable {H : List HookE} {P : Program} {G : Nat} {ih : Run} {ops : Array Oper} {B : Nat → Nat} {s : Nat → DS} {F F' : Nat → Option Obj} {W : World} {E0 E E' : Env} {D : Nat → Prop} {a : Act} {w w' : World} {c : Nat}
theorem Rn.bitsD (hr : Rn H P G ih ops B s) (hcl : Closed ops D) : ∀ (m q : Nat), q < m → q < ops.size → D q → ∀ j, (B q).testBit j = true → D j := by
  intro m
  induction m with
  | zero => intro q h; omega
  | succ m hm =>
    intro q hq hqs hD j hj
    have ho : ops[q]? = some ops[q] := Array.getElem?_eq_getElem hqs
    obtain ⟨e, he, hb, h1⟩ := hr.bits q _ j ho hj
    have hlt := hr.edge q _ e ho he hb
    have hDe := hcl q _ ho hD e he hb
    rcases h1 with rfl | h1
    · exact hDe
    · exact hm e.on (by omega) (by omega) hDe j h1
theorem Rn.bitsD' (hr : Rn H P G ih ops B s) (hcl : Closed ops D) {q : Nat} {o : Oper} (ho : ops[q]? = some o) (hD : D q) {j : Nat} (hj : (B q).testBit j = true) : D j :=
  hr.bitsD hcl (q + 1) q (by omega) (Array.getElem?_eq_some_iff.1 ho).1 hD j hj
/-- An operation that may come now. -/
structure Rdy (ops : Array Oper) (D : Nat → Prop) (i : Nat) (o : Oper) : Prop where
  cl : Closed ops D
  ho : ops[i]? = some o
  no : ¬ D i
  yes : ∀ e ∈ o.after, Region.binds .any e = true → D e.on
theorem Rn.rdy (hr : Rn H P G ih ops B s) {i : Nat} {o : Oper} (h : Rdy ops D i o) {j : Nat} (hj : (B i).testBit j = true) : D j := by
  obtain ⟨e, he, hb, h1⟩ := hr.bits i _ j h.ho hj
  have hD := h.yes e he hb
  rcases h1 with rfl | h1
  · exact hD
  · have hlt := hr.edge i _ e h.ho he hb
    have hi := (Array.getElem?_eq_some_iff.1 h.ho).1
    exact hr.bitsD h.cl (e.on + 1) e.on (by omega) (by omega) hD j h1
theorem Rn.notBit (hr : Rn H P G ih ops B s) {i : Nat} {o : Oper} (h : Rdy ops D i o) {q : Nat} {oq : Oper} (hq : ops[q]? = some oq) (hD : D q) : ¬ (B q).testBit i = true := fun hb => h.no (hr.bitsD' h.cl hq hD hb)
theorem memN_true {d : Tmp} {l : List Tmp} (h : d ∈ l) : memN (some d) l = true := List.any_eq_true.2 ⟨d, h, Nat.beq_refl d⟩
theorem Rn.tmpAt (hr : Rn H P G ih ops B s) {i : Nat} {o : Oper} (h : Rdy ops D i o) {t : Array Value} (ht : TmpI ops s D E t) {x : Tmp} (hx : x ∈ looksT ops o) : VR E (evS (s i).st.tr (.tmp x)) (t.getD x undef) := by
  obtain ⟨j, hj, hv, hno, hlast⟩ := ht x
  have hi := (Array.getElem?_eq_some_iff.1 h.ho).1
  by_cases hji : j ≤ i
  · rw [hr.same hji (by omega) fun q oq hq1 hq2 hoq hd => ?_]
    · exact hv
    · rcases hr.apart q i oq o hq2 hoq h.ho with hb | ⟨hm, _⟩
      · exact hno q oq hq1 hoq (hr.rdy h hb) hd
      · rw [hd, memN_true hx] at hm; cases hm
  · rcases hlast with rfl | ⟨q, oq, rfl, hoq, hDq, hd⟩
    · omega
    · have hne : q ≠ i := fun e => h.no (e ▸ hDq)
      rcases hr.apart i q o oq (by omega) h.ho hoq with hb | ⟨_, hm, _⟩
      · exact absurd hb (hr.notBit h hoq hDq)
      · rw [hd, memN_true hx] at hm; cases hm
theorem Rn.tmpPut (hr : Rn H P G ih ops B s) {i : Nat} {o : Oper} (h : Rdy ops D i o) {a : Act} (ht : TmpI ops s D E a.tmps) (hE : E.le E') {v v' : Value} (hv : VR E' v v') (htr : (s (i + 1)).st.tr = putT (s i).st.tr o.dst v)
    (hlt : ∀ x, o.dst = some x → x < a.tmps.size) : TmpI ops s (fun q => D q ∨ q = i) E' (a.put o.dst v').tmps := by
  have hi := (Array.getElem?_eq_some_iff.1 h.ho).1
  intro x
  by_cases hx : o.dst = some x
  · refine ⟨i + 1, hi, ?_, fun q oq hq hoq hD hd => ?_, .inr ⟨i, o, rfl, h.ho, .inr rfl, hx⟩⟩
    · rw [htr, hx, evS_putT_same]
      have := hlt x hx
      simpa [Act.put, this] using hv
    · rcases hD with hD | rfl
      · rcases hr.apart i q o oq (by omega) h.ho hoq with hb | ⟨_, _, hm⟩
        · exact hr.notBit h hoq hD hb
        · rw [hx, hd] at hm
          have : sameD (some x) (some x) = true := Nat.beq_refl x
          rw [this] at hm; cases hm
      · omega
  · obtain ⟨j, hj, hv', hno, hlast⟩ := ht x
    refine ⟨j, hj, ?_, fun q oq hq hoq hD hd => ?_, hlast.imp id fun ⟨q, oq, h1, h2, h3, h4⟩ => ⟨q, oq, h1, h2, .inl h3, h4⟩⟩
    · have : (a.put o.dst v').tmps.getD x undef = a.tmps.getD x undef := by
        cases hd : o.dst with
        | none => rfl
        | some d =>
          have hne : d ≠ x := fun e => hx (by rw [hd, e])
          simp only [Act.put, Array.getD_eq_getD_getElem?]
          rw [Array.getElem?_setIfInBounds_ne hne]
      rw [this]
      exact hv'.mono hE
    · rcases hD with hD | rfl
      · exact hno q oq hq hoq hD hd
      · rw [h.ho] at hoq; cases hoq
        exact hx hd
theorem yieldS_ok1 {tr : Tr Value} {t : Array Value} (j : Nat) (ht : ∀ x d, ops[j]? = some x → x.dst = some d → VR E (evS tr (.tmp d)) (t.getD d undef)) : yielded ops t j = yieldS ops tr j := by
  unfold yielded yieldS
  cases ho : ops[j]? with
  | none => rfl
  | some o =>
    simp only [Option.bind_some]
    cases hdd : o.dst with
    | none => rfl
    | some d =>
      have hd := ht o d ho hdd
      simp only [Option.bind_some]
      rw [Array.getD_eq_getD_getElem?] at hd
      cases hx : t[d]? with
      | none =>
        rw [hx] at hd
        generalize evS tr (.tmp d) = x at hd
        simp only
        have hu : (none : Option Value).getD undef = .tuple #[] := rfl
        rw [hu] at hd
        cases hd
        rfl
      | some y =>
        rw [hx] at hd
        simp only [Option.getD_some] at hd ⊢
        generalize evS tr (.tmp d) = x at hd
        cases hd <;> rfl
theorem Rn.want (hr : Rn H P G ih ops B s) {i : Nat} {o : Oper} (h : Rdy ops D i o) {t : Array Value} (ht : TmpI ops s D E t) : Region.wanted o (yielded ops t) = wantS ops (s i).st.tr o := by
  have hL := fun x => hr.tmpAt h ht (x := x)
  unfold looksT at hL
  unfold Region.wanted wantS
  cases hg : o.guard with
  | none => rfl
  | some p =>
    obtain ⟨j, want⟩ := p
    rw [hg] at hL
    simp only at hL ⊢
    rw [yieldS_ok1 (E := E) (tr := (s i).st.tr) j fun x d hx hd => hL d (by rw [hx]; simp [hd])]
    cases yieldS ops (s i).st.tr j with
    | none => rfl
    | some b => cases b <;> cases want <;> rfl
theorem Rn.args (hr : Rn H P G ih ops B s) {i : Nat} {o : Oper} (h : Rdy ops D i o) {S : SW} (hs : Sat G F' W E S w) (ht : TmpI ops s D E a.tmps) : ∀ x ∈ opL o.op, okX G x = true → VR E (evS (s i).st.tr x) (a.eval x) := by
  intro x hx hok
  have hleaf : TR E .leaf #[] := fun t => by rw [evS_tmp]; exact VR.undef
  have hev := ev_ok hs (tr := .leaf) (a := { tmps := #[], defers := [] }) hleaf hok
  cases x with
  | tmp t =>
    refine hr.tmpAt h ht (List.mem_append.2 (.inl ?_))
    unfold tmpsOf
    exact List.mem_filterMap.2 ⟨_, hx, rfl⟩
  | const v => exact hev
  | global g => exact hev
  | func f => exact hev
end
end Go.Proofs.YtaeophaecclnbaaGreatDoor
namespace Go.Proofs.YtaeophaecclnbaaGreatDoor
open Go

section
variable {H : List HookE} {P : Program} {G : Nat} {ih : Run} {ops : Array Oper} {B : Nat → Nat} {s : Nat → DS} {F F' : Nat → Option Obj} {W : World} {E0 E E' : Env} {D : Nat → Prop} {a : Act} {w w' : World} {c : Nat}
/-- What is known of the run. -/
structure Run0 (H : List HookE) (P : Program) (G : Nat) (ih : Run) (ops : Array Oper) (B : Nat → Nat) (s : Nat → DS) : Prop where
  run : Rn H P G ih ops B s
  lays : (s 0).lays = []
  inc : (s 0).inc = 0
  lim : (s 0).nx ≤ (s 0).lim
theorem Run0.mem (h : Run0 H P G ih ops B s) : ∀ l ∈ (s ops.size).lays, l.j < ops.size ∧ (s 0).nx ≤ l.id ∧ l.id < (s 0).lim := fun l hl => let ⟨a, b, _, d⟩ := (h.run.lay h.lays (Nat.le_refl _)).1 l hl; ⟨a, b, d⟩
theorem Run0.pair (h : Run0 H P G ih ops B s) {j : Nat} (hj : j ≤ ops.size) : (s j).lays.Pairwise (fun a b => a.j ≠ b.j ∧ a.id ≠ b.id) := (h.run.lay h.lays hj).2.1
theorem Run0.noLay (h : Run0 H P G ih ops B s) {i : Nat} {o : Oper} (ho : ops[i]? = some o) (hl : (s (i + 1)).lays = (s i).lays) : ∀ l ∈ (s ops.size).lays, l.j ≠ i := fun l hm he => by
  have hi := (Array.getElem?_eq_some_iff.1 ho).1
  have h1 := h.run.layBack (i := i + 1) (by omega) (Nat.le_refl _) l hm (by omega)
  rw [hl] at h1
  have := ((h.run.lay h.lays (by omega : i ≤ ops.size)).1 l h1).1
  omega
theorem Inv.le (h : Inv ops s G F W E0 D a w E F' c) (hE : Ext (s c).st.S.n E E') : E.le E' := h.sat.le hE
theorem Inv.ids (h0 : Run0 H P G ih ops B s) (h : Inv ops s G F W E0 D a w E F' c) (hE : Ext (s c).st.S.n E E') : ∀ l ∈ (s ops.size).lays, E' l.id = E l.id := fun l hl => hE _ (Nat.lt_of_lt_of_le (h0.mem l hl).2.2 h.big)
/-- Behind an operation that does nothing to the world. -/
theorem Inv.calm (h0 : Run0 H P G ih ops B s) (h : Inv ops s G F W E0 D a w E F' c) {i : Nat} {o : Oper} (hy : Rdy ops D i o) (hlo : ¬ Lo ops s i o) (hl : (s (i + 1)).lays = (s i).lays) {F2 : Nat → Option Obj} (hE : Ext (s c).st.S.n E E')
    (hs : Sat G F2 W E' (s c).st.S w') (ho : Out F F2 E' w' (s ops.size).lays (fun j => D j ∧ (s c).inc.testBit j = false)) {v v' : Value} (hv : VR E' v v') (htr : (s (i + 1)).st.tr = putT (s i).st.tr o.dst v) (hlt : ∀ x, o.dst = some x → x < (s i).st.nt) :
    Inv ops s G F W E0 (fun q => D q ∨ q = i) (a.put o.dst v') w' E' F2 c := by
  have hi := (Array.getElem?_eq_some_iff.1 hy.ho).1
  have hnt := (h0.run.const (by omega : i ≤ ops.size)).1
  refine ⟨h.hc, fun q oq hq hoq hL => .inl (h.lo q oq hq hoq hL), fun q oq hq hoq hL hD => ?_, hs, h.ext.trans hE (Nat.le_trans h0.lim h.big), h.big, h0.run.tmpPut hy h.tmp (h.le hE) hv htr (fun x hx => ?_), ?_, ?_, ?_, fun l hm hn => ?_, fun j hj => .inl (h.inc j hj)⟩
  · rcases hD with hD | rfl
    · exact h.hi q oq hq hoq hL hD
    · rw [hy.ho] at hoq; cases hoq
      exact hlo hL
  · rw [h.size, ← hnt]; exact hlt x hx
  · rw [put_size]; exact h.size
  · rw [put_defers]; exact h.ds.mono fun _ _ hd => hd.mono (h.le hE)
  · refine ho.mono fun l hm hx => ⟨hx.1.resolve_right (h0.noLay hy.ho hl l hm), hx.2⟩
  · rw [h.ids h0 hE l hm]
    exact h.new l hm fun hD => hn (.inl hD)
theorem Sat.layOut {S : SW} (h : Sat G F' W E S w) {id : Nat} (hid : id < S.n) (hn : E id = none) (obj : Obj) (e : Ent) : Sat G (fun b => if b = w.heap.size then some obj else F' b) W (E.put id e) S (w.alloc obj) := by
  have hle : E.le (E.put id e) := Env.put_le hn _
  have hold : ∀ k, k < w.heap.size → (w.alloc obj).heap[k]? = w.heap[k]? := fun k hk => by
    show (w.heap.push obj)[k]? = _
    rw [Array.getElem?_push, if_neg (by omega)]
  have key : ∀ i o, S.h.get i = some o → ∃ e1, E i = some e1 ∧ E.put id e i = some e1 ∧ ObjR E w e1 o := fun i o hi => let ⟨e1, he, ho⟩ := h.obj i o hi; ⟨e1, he, hle _ _ he, ho⟩
  refine ⟨fun i hi => ?_, fun g hg => ?_, fun i o hi => ?_, fun i j o o' e1 e2 hi hj h1 h2 => ?_, fun i o e1 hi h1 => ?_, fun k o hk => ?_, ?_, h.os, h.tape, h.output⟩
  · unfold Env.put
    rw [if_neg (by omega)]
    exact h.new i hi
  · obtain ⟨e1, he, h1, h2⟩ := h.glob g hg
    exact ⟨e1, hle _ _ he, h1, h2⟩
  · obtain ⟨e1, he, he', ho⟩ := key i o hi
    exact ⟨e1, he', ho.mono hle (hold _ ho.lt)⟩
  · obtain ⟨f1, k1, k2, _⟩ := key i o hi
    obtain ⟨f2, k3, k4, _⟩ := key j o' hj
    rw [k2] at h1; cases h1
    rw [k4] at h2; cases h2
    exact h.inj i j o o' _ _ hi hj k1 k3
  · obtain ⟨f1, k1, k2, k3⟩ := key i o hi
    rw [k2] at h1; cases h1
    have := k3.lt
    simp only [show e1.b ≠ w.heap.size by omega, if_false]
    exact h.own i o _ hi k1
  · by_cases hb : k = w.heap.size
    · subst hb
      simp only [if_true] at hk
      cases hk
      show (w.heap.push obj)[w.heap.size]? = _
      simp
    · simp only [if_neg hb] at hk
      have h1 := h.far k o hk
      rw [hold k (Array.getElem?_eq_some_iff.1 h1).1]
      exact h1
  · show W.heap.size ≤ (w.heap.push obj).size
    have := h.size
    simp
    omega
/-- Behind an operation that lays. -/
theorem Inv.laid (h0 : Run0 H P G ih ops B s) (h : Inv ops s G F W E0 D a w E F' c) {i : Nat} {o : Oper} (hy : Rdy ops D i o) (hlo : ¬ Lo ops s i o) {so : SObj} (hl : (s (i + 1)).lays = ⟨i, (s i).nx, so⟩ :: (s i).lays) {v : Value} {obj : Obj} {k : Nat} {mk : Nat → Value}
    (h2 : ∀ (E' : Env) b, E' (s i).nx = some ⟨b, 0, k⟩ → VR E' v (mk b)) (h3 : ∀ (E' : Env) w b, E.le E' → w.heap[b]? = some obj → ObjR E' w ⟨b, 0, k⟩ so) (htr : (s (i + 1)).st.tr = putT (s i).st.tr o.dst v) (hlt : ∀ x, o.dst = some x → x < (s i).st.nt) :
    ∃ E' F2, Inv ops s G F W E0 (fun q => D q ∨ q = i) (a.put o.dst (mk w.heap.size)) (w.alloc obj) E' F2 c := by
  have hi := (Array.getElem?_eq_some_iff.1 hy.ho).1
  have hnt := (h0.run.const (by omega : i ≤ ops.size)).1
  have hmem : (⟨i, (s i).nx, so⟩ : Lay) ∈ (s ops.size).lays := h0.run.laysMono (i := i + 1) (by omega) (Nat.le_refl _) _ (by rw [hl]; exact List.mem_cons_self)
  obtain ⟨_, hid1, hid2⟩ := h0.mem _ hmem
  have hid2' : (s i).nx < (s c).st.S.n := Nat.lt_of_lt_of_le hid2 h.big
  have hnone : E (s i).nx = none := h.new _ hmem hy.no
  have hle : E.le (E.put (s i).nx ⟨w.heap.size, 0, k⟩) := Env.put_le hnone _
  have hput : E.put (s i).nx ⟨w.heap.size, 0, k⟩ (s i).nx = some ⟨w.heap.size, 0, k⟩ := Env.put_same _ _ _
  have hoth : ∀ l ∈ (s ops.size).lays, l.j ≠ i → E.put (s i).nx ⟨w.heap.size, 0, k⟩ l.id = E l.id := fun l hm hne => by
    unfold Env.put
    rw [if_neg fun e => hne (congrArg Lay.j (pair_uniq (h0.pair (Nat.le_refl _)) l hm _ hmem (.inr e)))]
  have hthis : ∀ l ∈ (s ops.size).lays, l.j = i → l = ⟨i, (s i).nx, so⟩ := fun l hm he => pair_uniq (h0.pair (Nat.le_refl _)) l hm _ hmem (.inl he)
  have hnew : (w.alloc obj).heap[w.heap.size]? = some obj := World.alloc_heap_new w obj
  have hfree : F w.heap.size = none := by
    cases hf : F w.heap.size with
    | none => rfl
    | some x =>
      have := h.out.sub _ _ hf
      rw [h.sat.free_new] at this
      cases this
  have hs2 := h.sat.layOut hid2' hnone obj ⟨w.heap.size, 0, k⟩
  refine ⟨_, _, h.hc, fun q oq hq hoq hL => .inl (h.lo q oq hq hoq hL), fun q oq hq hoq hL hD => ?_, hs2, h.ext.trans (m := (s 0).nx) (fun x hx => ?_) (Nat.le_refl _), h.big, h0.run.tmpPut hy h.tmp hle (h2 _ _ hput) htr (fun x hx => ?_), ?_, ?_, ?_, fun l hm hn => ?_, fun j hj => .inl (h.inc j hj)⟩
  · rcases hD with hD | rfl
    · exact h.hi q oq hq hoq hL hD
    · rw [hy.ho] at hoq; cases hoq
      exact hlo hL
  · unfold Env.put
    rw [if_neg (by have : x < (s i).nx := Nat.lt_of_lt_of_le hx hid1; omega)]
  · rw [h.size, ← hnt]; exact hlt x hx
  · rw [put_size]; exact h.size
  · rw [put_defers]; exact h.ds.mono fun _ _ hd => hd.mono hle
  · refine ⟨fun b x hx => ?_, fun l hm hx => ?_, fun l hm l' hm' hx hx' e e' he he' hb => ?_⟩
    · have hlt := (Array.getElem?_eq_some_iff.1 (h.sat.far _ _ (h.out.sub b x hx))).1
      simp only [show b ≠ w.heap.size by omega, if_false]
      exact h.out.sub b x hx
    · by_cases hj : l.j = i
      · have := hthis l hm hj
        subst this
        exact ⟨_, hput, h3 _ _ _ hle hnew, by simp, hfree⟩
      · obtain ⟨e, he, hobj, hf, hn⟩ := h.out.out l hm ⟨hx.1.resolve_right hj, hx.2⟩
        have hlt := hobj.lt
        refine ⟨e, by rw [hoth l hm hj]; exact he, hobj.mono hle ?_, ?_, hn⟩
        · show (w.heap.push obj)[e.b]? = _
          rw [Array.getElem?_push, if_neg (by omega)]
        · simp only [show e.b ≠ w.heap.size by omega, if_false]
          exact hf
    · by_cases hj : l.j = i
      · by_cases hj' : l'.j = i
        · rw [hj, hj']
        · obtain ⟨e1, he1, hobj, _⟩ := h.out.out l' hm' ⟨hx'.1.resolve_right hj', hx'.2⟩
          rw [hoth l' hm' hj', he1] at he'; cases he'
          rw [hthis l hm hj, hput] at he; cases he
          have := hobj.lt
          simp only at hb
          omega
      · obtain ⟨e1, he1, hobj, _⟩ := h.out.out l hm ⟨hx.1.resolve_right hj, hx.2⟩
        rw [hoth l hm hj] at he
        by_cases hj' : l'.j = i
        · rw [he1] at he; cases he
          rw [hthis l' hm' hj', hput] at he'; cases he'
          have := hobj.lt
          simp only at hb
          omega
        · rw [hoth l' hm' hj'] at he'
          exact h.out.inj l hm l' hm' ⟨hx.1.resolve_right hj, hx.2⟩ ⟨hx'.1.resolve_right hj', hx'.2⟩ e e' he he' hb
  · rw [hoth l hm fun e => hn (.inr e)]
    exact h.new l hm fun hD => hn (.inl hD)
theorem notDefer {o : Oper} (hk : kindO o.op ≠ .loud) : isDefer o.op = false := by
  cases ho : o.op <;> first | rfl | (rw [ho] at hk; exact absurd rfl hk)
/-- What a look sees now. -/
theorem Inv.seen (h0 : Run0 H P G ih ops B s) (h : Inv ops s G F W E0 D a w E F' c) {i : Nat} {o : Oper} (hy : Rdy ops D i o) (hlo : ¬ Lo ops s i o) {v : Value} (hs : lookAt P G (s i).lays ⟨i, o, B i, looksT ops o⟩ (s i).st.tr (s i).now = some v)
    (hb : backOk P G (s i).lays ⟨⟨i, o, B i, looksT ops o⟩, (s i).st.tr, v⟩ (s i).hist = true) (hlk : ⟨⟨i, o, B i, looksT ops o⟩, (s i).st.tr, v⟩ ∈ (s (i + 1)).looks) (heq : ∀ u, valEq PD u v = true → u = v) :
    ∃ q, q ≤ ops.size ∧ lookAt P G (s q).lays ⟨i, o, B i, looksT ops o⟩ (s i).st.tr (s c).now = some v := by
  have hi := (Array.getElem?_eq_some_iff.1 hy.ho).1
  have hsee : ∀ lays g, sees P G lays ⟨⟨i, o, B i, looksT ops o⟩, (s i).st.tr, v⟩ g = true → lookAt P G lays ⟨i, o, B i, looksT ops o⟩ (s i).st.tr g = some v := fun lays g hg => by
    unfold sees at hg
    split at hg
    · rename_i u hu
      rw [hu, heq u hg]
    · cases hg
  by_cases hci : c ≤ i
  · refine ⟨i, by omega, ?_⟩
    have hbk := (h0.run.back (by omega) hb (i - c) c (by omega) fun q oq hq1 hq2 hoq hL => Bool.eq_false_iff.2 fun hbit => h.hi q oq hq1 hoq hL (h0.run.rdy hy hbit)).1
    rcases hbk with h1 | h1
    · rw [h1]; exact hs
    · exact hsee _ _ h1
  · have key := h0.run.go (i := i + 1) (fun m => m ≤ c → (s m).now = (s i).now ∨ ∃ q, q ≤ ops.size ∧ sees P G (s q).lays ⟨⟨i, o, B i, looksT ops o⟩, (s i).st.tr, v⟩ (s m).now = true) (fun _ => .inl ?_) (fun q oq hq hoq hst h1 hqc => ?_) c (by omega) h.hc (Nat.le_refl _)
    · rcases key with h1 | ⟨q, hq, h1⟩
      · exact ⟨i, by omega, by rw [h1]; exact hs⟩
      · exact ⟨q, hq, hsee _ _ h1⟩
    · obtain ⟨k1, _, k3, _⟩ := h0.run.calm (i := i) (j := i + 1) (by omega) (by omega) fun q oq hq1 hq2 hoq hL => by
        have : q = i := by omega
        subst this
        rw [hy.ho] at hoq; cases hoq
        exact hlo hL
      unfold DS.now
      rw [k1, k3]
    · by_cases hL : Lo ops s q oq
      · have hD := h.lo q oq (by omega) hoq hL
        have hnb := h0.run.notBit hy hoq hD
        cases hst with
        | skip hw => have := hL.1; rw [hw] at this; cases this
        | free v S' hw hk => have := hL.2; rw [hk] at this; cases this
        | look v hw hk => have := hL.2; rw [hk] at this; cases this
        | lay v obj hw hk => have := hL.2; rw [hk] at this; cases this
        | loud st' hw hk hh hs' hl' he =>
          have := (allL_iff _ _).1 hl' _ (h0.run.looksMono (i := i + 1) (j := q) hq (by have := (Array.getElem?_eq_some_iff.1 hoq).1; omega) _ hlk)
          rw [Bool.or_eq_true] at this
          rcases this with h2 | h2
          · exact absurd h2 hnb
          · refine .inr ⟨q, by have := (Array.getElem?_eq_some_iff.1 hoq).1; omega, ?_⟩
            rw [he]
            exact h2
      · obtain ⟨k1, _, k3, _⟩ := hst.calm hL
        have hnow : (s (q + 1)).now = (s q).now := by unfold DS.now; rw [k1, k3]
        rw [hnow]
        exact h1 (by omega)
end
end Go.Proofs.YtaeophaecclnbaaGreatDoor

/- The executor: drawn regions: one operation, all of them. The executor: code. -/
import Derived.Test.YtaeophaecclnbaaGreatDoorMgM
import Derived.Scope
namespace Go.Proofs.YtaeophaecclnbaaGreatDoor
open Go

section
variable {H : List HookE} {P : Program} {G : Nat} {ih : Run} {ops : Array Oper} {B : Nat → Nat} {s : Nat → DS} {F F' : Nat → Option Obj} {W : World} {E0 E E' : Env} {D : Nat → Prop} {a : Act} {w w' : World} {c : Nat}
def Inv' (ops : Array Oper) (s : Nat → DS) (G : Nat) (F : Nat → Option Obj) (W : World) (E0 : Env) (D : Nat → Prop) (a : Act) (w : World) : Prop := ∃ E F' c, Inv ops s G F W E0 D a w E F' c
theorem Inv.step (hH : HooksOk P G H) (h0 : Run0 H P G ih ops B s) (hih : Snd P G ih) {rd : Option Nat} (hrd : (s 0).st.rd = rd.isSome) (n : Nat) (h : Inv ops s G F W E0 D a w E F' c) {i : Nat} {o : Oper} (hy : Rdy ops D i o) {K : Act → World → Prop} {Q : Exit → Act → World → Prop}
    (hK : ∀ a' w', Inv' ops s G F W E0 (fun q => D q ∨ q = i) a' w' → K a' w') :
    (if Region.wanted o (yielded ops a.tmps) = true then o.wpIn (fw rd) n P a w K Q else (∀ f, o.about P w a.eval = some f → (fw rd).fn f) ∧ K (a.put o.dst undef) w) := by
  have hi := (Array.getElem?_eq_some_iff.1 hy.ho).1
  have hw := h0.run.want hy h.tmp
  have hargs := h0.run.args (a := a) hy h.sat h.tmp
  have hrdi : (s i).st.rd = rd.isSome := (h0.run.const (by omega : i ≤ ops.size)).2.1.trans hrd
  have hplain : kindO o.op ≠ .loud → ∀ {v' : Value} {w' : World}, wantS ops (s i).st.tr o = true → (execOp a.eval o).run P w = .ok (.value v') w' → K (a.put o.dst v') w' →
      (if Region.wanted o (yielded ops a.tmps) = true then o.wpIn (fw rd) n P a w K Q else (∀ f, o.about P w a.eval = some f → (fw rd).fn f) ∧ K (a.put o.dst undef) w) := fun hk v' w' hww hrun hk' => by
    rw [hw, hww, if_pos rfl]
    refine ⟨fun _ _ => trivial, ?_⟩
    rw [semAt_ok hrdi (fun _ => notDefer hk), hrun, Oper.uponIn_value]
    exact hk'
  cases h0.run.stp hy.ho with
  | skip hww cm h1 h2 h3 =>
    have hww' : wantS ops (s i).st.tr o = false := hww
    rw [hw, hww', if_neg (by simp)]
    exact ⟨fun _ _ => trivial, hK _ _ ⟨E, F', c, h.calm h0 hy (fun hL => by rw [hL.1] at hww'; cases hww') h1 (Ext.refl _ _) h.sat h.out VR.undef cm.put.tr cm.put.lt⟩⟩
  | free v S' hww hk hs cm h1 h2 h3 =>
    have hk' : kindO o.op = .free := hk
    have hnl : kindO o.op ≠ .loud := by rw [hk']; exact fun e => by cases e
    have hs' := free_step hk' hs (s c).st.S
    obtain ⟨v', w', E', hrun, hE, hn, hsat, hv⟩ := stepS_ok2 h.sat hargs hs'
    exact hplain hnl hww hrun (hK _ _ ⟨E', F', c, h.calm h0 hy (fun hL => hnl hL.2) h1 hE hsat (h.out.move h.sat hsat (h.le hE) (h.ids h0 hE)) hv cm.put.tr cm.put.lt⟩)
  | look v hww hk hs hb cm h1 h2 h3 =>
    have hk' : kindO o.op = .look := hk
    have hnl : kindO o.op ≠ .loud := by rw [hk']; exact fun e => by cases e
    obtain ⟨q, hq, hlk⟩ := h.seen h0 hy (fun hL => hnl hL.2) hs hb (by rw [h2]; exact List.mem_cons_self) fun u => valEq_ok PD u v
    have hsub : ∀ l ∈ (s q).lays, l ∈ (s ops.size).lays := h0.run.laysMono hq (Nat.le_refl _)
    have hX : ∀ l ∈ (s q).lays, layNow (B i) (s c).inc l = true → D l.j ∧ (s c).inc.testBit l.j = false := fun l _ hl => by
      unfold layNow at hl
      rw [Bool.and_eq_true, Bool.not_eq_true'] at hl
      exact ⟨h0.run.rdy hy hl.1, hl.2⟩
    obtain ⟨F1, k1, k2, k3⟩ := incl (B := B i) (inc := (s c).inc) h.sat h.out (s q).lays hsub (h0.pair hq) hX
    unfold lookAt at hlk
    split at hlk
    · rename_i u S'' hstep
      cases hlk
      have hS := look_step hk' hstep
      subst hS
      obtain ⟨v', w', E', hrun, hE, hn, hsat, hv⟩ := stepS_ok2 k1 hargs hstep
      have hE' : Ext (s c).st.S.n E E' := fun x hx => hE x (by
        show x < (addLays (s q).lays (B i) (s c).inc (s c).st.S).n
        rw [addLays_n]; exact hx)
      obtain ⟨F2, m1, m2⟩ := excl h.sat h.out (h0.pair hq) (fun l hl l' hl' e => pair_uniq (h0.pair (Nat.le_refl _)) l hl l' (hsub l' hl') (.inl e)) hsub hX k2 k3 k1 hE' (h.ids h0 hE') hsat
      exact hplain hnl hww hrun (hK _ _ ⟨E', F2, c, h.calm h0 hy (fun hL => hnl hL.2) h1 hE' m1 m2 hv cm.put.tr cm.put.lt⟩)
    · cases hlk
  | lay v obj hww hk hok hlt hs cm h1 h2 h3 =>
    have hk' : kindO o.op = .lay := hk
    have hnl : kindO o.op ≠ .loud := by rw [hk']; exact fun e => by cases e
    obtain ⟨ob, k, mk, m1, m2, m3⟩ := alloc_ok (n := (s i).nx) (E := E) (ρ' := a.eval) (fun x hx => hargs x hx ((allL_iff _ _).1 hok x hx)) hs
    obtain ⟨E', F2, hinv⟩ := h.laid h0 hy (fun hL => hnl hL.2) h1 m2 m3 cm.put.tr cm.put.lt
    exact hplain hnl hww (m1 w) (hK _ _ ⟨E', F2, c, hinv⟩)
  | loud st' hww hk hh hs hl he =>
    have hL : Lo ops s i o := ⟨hww, hk⟩
    have hbefore : ∀ q oq, q < i → ops[q]? = some oq → Lo ops s q oq → D q := fun q oq hq hoq hLq =>
      h0.run.rdy hy ((allL_iff _ _).1 hh _ (h0.run.histMem hoq hLq hq (by omega)))
    have hafter : ∀ q oq, i < q → ops[q]? = some oq → Lo ops s q oq → ¬ D q := fun q oq hq hoq hLq hD => by
      have hqs := (Array.getElem?_eq_some_iff.1 hoq).1
      have hm := h0.run.histMem hy.ho hL hq (by omega : q ≤ ops.size)
      cases h0.run.stp hoq with
      | skip hw => have := hLq.1; rw [hw] at this; cases this
      | free v S' hw hk => have := hLq.2; rw [hk] at this; cases this
      | look v hw hk => have := hLq.2; rw [hk] at this; cases this
      | lay v obj hw hk => have := hLq.2; rw [hk] at this; cases this
      | loud st2 hw2 hk2 hh2 hs2 hl2 he2 => exact h0.run.notBit hy hoq hD ((allL_iff _ _).1 hh2 _ hm)
    have hci : c ≤ i := by
      refine Nat.le_of_not_lt fun hlt => ?_
      exact hy.no (h.lo i o hlt hy.ho hL)
    obtain ⟨c1, c2, c3, _⟩ := h0.run.calm hci (by omega) fun q oq hq1 hq2 hoq hLq => h.hi q oq hq1 hoq hLq (hbefore q oq hq2 hoq hLq)
    have hsat := h.sat
    have hout := h.out
    rw [← c1] at hsat
    rw [← c3] at hout
    have hsub : ∀ l ∈ (s i).lays, l ∈ (s ops.size).lays := h0.run.laysMono (by omega) (Nat.le_refl _)
    have hX : ∀ l ∈ (s i).lays, layNow (B i) (s i).inc l = true → D l.j ∧ (s i).inc.testBit l.j = false := fun l _ hl => by
      unfold layNow at hl
      rw [Bool.and_eq_true, Bool.not_eq_true'] at hl
      exact ⟨h0.run.rdy hy hl.1, hl.2⟩
    obtain ⟨F1, k1, k2, k3⟩ := incl (B := B i) (inc := (s i).inc) hsat hout (s i).lays hsub (h0.pair (by omega)) hX
    have hS1 : (((s i).with (B i)).S).n = (s c).st.S.n := by
      show (addLays (s i).lays (B i) (s i).inc (s i).st.S).n = _
      rw [addLays_n, c1]
    have hds : LR (DR E) ((s i).with (B i)).ds a.defers := by
      show LR (DR E) (s i).st.ds a.defers
      rw [c2]; exact h.ds
    refine operE_ok2 hH hih hs n (st := (s i).with (B i)) k1 hargs hw hds hrdi K Q (fun _ E1 a2 w1 v v' hE hn hs1 ht hd1 hv q1 q2 q3 q4 => hK _ _ ?_) (fun v hv => by cases hv)
    rw [hS1] at hE hn
    have hle := h.le hE
    have hst : (s (i + 1)).st = st' := by rw [he]
    have hinc : (s (i + 1)).inc = layBits (s i).lays (B i) (s i).inc := by rw [he]
    have hlays : (s (i + 1)).lays = (s i).lays := by rw [he]
    have hids := h.ids h0 hE
    have ho1 := k2.move k1 hs1 hle hids
    have hbit : ∀ j, (s (i + 1)).inc.testBit j = false → (s i).inc.testBit j = false ∧ ¬ Now (s i).lays (B i) (s i).inc j := fun j hj => by
      rw [hinc] at hj
      refine ⟨Bool.eq_false_iff.2 fun hb => ?_, fun ⟨l, hl, e, hb⟩ => ?_⟩
      · rw [(layBits_bit (s i).lays).2 (.inl hb)] at hj; cases hj
      · unfold layNow at hb
        rw [Bool.and_eq_true] at hb
        rw [(layBits_bit (s i).lays).2 (.inr ⟨l, hl, e, e ▸ hb.1⟩)] at hj; cases hj
    have htmp := h0.run.tmpPut (a := a2) hy (by rw [ht]; exact h.tmp) hle hv (by rw [hst]; exact q1) (fun x hx => by
      rw [ht, h.size, ← (h0.run.const (by omega : i ≤ ops.size)).1]; exact q4 x hx)
    refine ⟨E1, F1, i + 1, hi, fun q oq hq hoq hLq => ?_, fun q oq hq hoq hLq hD => ?_, by rw [hst]; exact hs1, h.ext.trans hE (Nat.le_trans h0.lim h.big), by rw [hst]; exact Nat.le_trans h.big hn, htmp, by rw [put_size, ht]; exact h.size,
      by rw [put_defers, hst]; exact hd1, ho1.mono fun l hm hx => ⟨⟨hx.1.resolve_right (h0.noLay hy.ho hlays l hm), (hbit _ hx.2).1⟩, (hbit _ hx.2).2⟩, fun l hm hno => ?_, fun j hj => ?_⟩
    · by_cases hqi : q = i
      · exact .inr hqi
      · exact .inl (hbefore q oq (by omega) hoq hLq)
    · rcases hD with hD | rfl
      · exact hafter q oq (by omega) hoq hLq hD
      · omega
    · rw [hids l hm]
      exact h.new l hm fun hD => hno (.inl hD)
    · rw [hinc] at hj
      rcases (layBits_bit (s i).lays).1 hj with hb | ⟨l, hl, e, hb⟩
      · rw [c3] at hb
        exact .inl (h.inc j hb)
      · exact .inl (h0.run.rdy hy hb)
/-- All done. -/
theorem Inv.done (h0 : Run0 H P G ih ops B s) {rd : Option Nat} (hrd : (s 0).st.rd = rd.isSome) (h : Inv ops s G F W E0 D a w E F' c) (hD : ∀ q, q < ops.size → D q) :
    PostC G F W E0 rd (s 0).nx .normal ((s ops.size).with (2 ^ ops.toList.length - 1)) .normal a w := by
  obtain ⟨c1, c2, c3, _⟩ := h0.run.calm h.hc (Nat.le_refl _) fun q oq hq1 hq2 hoq hL => h.hi q oq hq1 hoq hL (hD q hq2)
  have hsat := h.sat
  have hout := h.out
  rw [← c1] at hsat
  rw [← c3] at hout
  have hX : ∀ l ∈ (s ops.size).lays, layNow (2 ^ ops.toList.length - 1) (s ops.size).inc l = true → D l.j ∧ (s ops.size).inc.testBit l.j = false := fun l hm hl => by
    unfold layNow at hl
    rw [Bool.and_eq_true, Bool.not_eq_true'] at hl
    exact ⟨hD _ (h0.mem l hm).1, hl.2⟩
  obtain ⟨F1, k1, k2, _⟩ := incl (B := 2 ^ ops.toList.length - 1) hsat hout (s ops.size).lays (fun _ hl => hl) (h0.pair (Nat.le_refl _)) hX
  obtain ⟨n1, n2, _⟩ := h0.run.const (Nat.le_refl ops.size)
  refine ⟨E, h.ext, ?_, ⟨k1.weaken k2.sub, fun x => ?_, ?_, ?_, ?_⟩, trivial⟩
  · show (s 0).nx ≤ (addLays _ _ _ _).n
    rw [addLays_n, c1]
    exact Nat.le_trans h0.lim h.big
  · obtain ⟨j, hj, hv, hno, _⟩ := h.tmp x
    show VR E (evS (s ops.size).st.tr (.tmp x)) _
    rw [h0.run.same hj (Nat.le_refl _) fun q oq hq1 hq2 hoq => hno q oq hq1 hoq (hD q hq2)]
    exact hv
  · show a.tmps.size = (s ops.size).st.nt
    rw [n1]; exact h.size
  · show LR (DR E) (s ops.size).st.ds a.defers
    rw [c2]; exact h.ds
  · show (s ops.size).st.rd = rd.isSome
    rw [n2]; exact hrd
def Dn (listed : Array Bool) : Nat → Prop := fun q => listed.getD q false = true
theorem Dn_set {listed : Array Bool} {i : Nat} (hi : i < listed.size) : Dn (listed.setIfInBounds i true) = fun q => Dn listed q ∨ q = i := by
  funext q
  unfold Dn
  simp only [Array.getD_eq_getD_getElem?]
  by_cases hq : q = i
  · subst hq
    simp [hi]
  · rw [Array.getElem?_setIfInBounds_ne (Ne.symm hq)]
    simp [hq]
theorem count_set {l : List Bool} {i : Nat} (h : l[i]? = some false) : (l.set i true).count false + 1 = l.count false := by
  induction l generalizing i with
  | nil => cases h
  | cons x l hl =>
    cases i with
    | zero => cases h; simp
    | succ i =>
      have := hl (i := i) h
      rw [List.set_cons_succ, List.count_cons, List.count_cons]
      omega
theorem drawAny (hH : HooksOk P G H) (h0 : Run0 H P G ih ops B s) (hih : Snd P G ih) {rd : Option Nat} (hrd : (s 0).st.rd = rd.isSome) (n : Nat) {Q : Exit → Act → World → Prop}
    (hQ : ∀ a w, PostC G F W E0 rd (s 0).nx .normal ((s ops.size).with (2 ^ ops.toList.length - 1)) .normal a w → Q .normal a w) :
    ∀ (fuel : Nat) (listed : Array Bool) (a : Act) (w : World), listed.size = ops.size → listed.toList.count false = fuel → Closed ops (Dn listed) → Inv' ops s G F W E0 (Dn listed) a w → wpAnyIn (fw rd) n P .any ops Q fuel listed a w := by
  have hall : ∀ (listed : Array Bool), listed.size = ops.size → Region.ready .any ops listed = [] → ∀ m q, q < m → q < ops.size → Dn listed q := by
    intro listed hsz hr m
    induction m with
    | zero => intro q h; omega
    | succ m hm =>
      intro q hq hqs
      refine Classical.byContradiction fun hno => ?_
      have ho : ops[q]? = some ops[q] := Array.getElem?_eq_getElem hqs
      have hmem : q ∈ Region.ready .any ops listed := by
        refine mem_ready.2 ⟨?_, _, ho, fun e he hb => ?_⟩
        · unfold Dn at hno
          rw [Array.getD_eq_getD_getElem?, Array.getElem?_eq_getElem (by omega)] at hno ⊢
          simpa using hno
        · have hlt := h0.run.edge q _ e ho he hb
          exact hm e.on (by omega) (by omega)
      rw [hr] at hmem
      cases hmem
  have hend : ∀ (listed : Array Bool) (a : Act) (w : World), listed.size = ops.size → Inv' ops s G F W E0 (Dn listed) a w → Region.ready .any ops listed = [] → Q .normal a w := fun listed a w hsz ⟨E, F', c, h⟩ hr =>
    hQ a w (h.done h0 hrd fun q hq => hall listed hsz hr (q + 1) q (by omega) hq)
  intro fuel
  induction fuel with
  | zero =>
    intro listed a w hsz hcnt hcl hinv
    have hr : Region.ready .any ops listed = [] := by
      refine List.eq_nil_iff_forall_not_mem.2 fun q hq => ?_
      obtain ⟨h1, o, ho, _⟩ := mem_ready.1 hq
      have hqs := (Array.getElem?_eq_some_iff.1 ho).1
      rw [Array.getD_eq_getD_getElem?, Array.getElem?_eq_getElem (by omega)] at h1
      have h2 : false ∈ listed.toList := by
        rw [← (show listed[q] = false from h1)]
        exact Array.getElem_mem_toList _
      have := List.count_pos_iff.2 h2
      omega
    exact ⟨hr, hend listed a w hsz hinv hr⟩
  | succ fuel hf =>
    intro listed a w hsz hcnt hcl hinv
    refine ⟨hend listed a w hsz hinv, fun i hi => ?_⟩
    obtain ⟨h1, o, ho, h2⟩ := mem_ready.1 hi
    have his := (Array.getElem?_eq_some_iff.1 ho).1
    have hget : listed[i]? = some false := by
      rw [Array.getD_eq_getD_getElem?, Array.getElem?_eq_getElem (by omega)] at h1
      rw [Array.getElem?_eq_getElem (by omega)]
      exact congrArg some h1
    have hno : ¬ Dn listed i := fun hd => by
      unfold Dn at hd
      rw [Array.getD_eq_getD_getElem?, hget] at hd
      cases hd
    obtain ⟨E, F', c, hinv⟩ := hinv
    unfold wpOpIn
    rw [ho]
    refine hinv.step hH h0 hih hrd n ⟨hcl, ho, hno, h2⟩ fun a' w' h' => hf _ a' w' (by simpa using hsz) ?_ ?_ ?_
    · have := count_set (l := listed.toList) (i := i) (by simpa using hget)
      rw [Array.toList_setIfInBounds]
      omega
    · rw [Dn_set (by omega)]
      rintro q oq hoq (hq | rfl) e he hb
      · exact .inl (hcl q oq hoq hq e he hb)
      · rw [ho] at hoq; cases hoq
        exact .inl (h2 e he hb)
    · rw [Dn_set (by omega)]
      exact h'
theorem drawE_ok (hH : HooksOk P G H) {ih : Run} (hih : Snd P G ih) (hm : P.follows .mixedOrders = true) {ops : Array Oper} {st st' : St} {e : SExit} (h : drawE H P G ih ops st = some (e, st')) (id : Nat) {rd : Option Nat} (n : Nat) (hst : StR G F W E rd st a w) :
    (Code.region id ops true).wpIn (fw rd) n P (PostC G F W E rd st.S.n e st') a w := by
  unfold drawE at h
  by_cases hreg : regionOk ops = true
  · rw [hreg, cond_true, seqN_eq] at h
    split at h
    · rename_i d hd
      cases h
      obtain ⟨B, s, hr, hs0, hsk⟩ := draw_run hreg hd
      have h0 : Run0 H P G ih ops B s := ⟨hr, by rw [hs0], by rw [hs0], by rw [hs0]; exact Nat.le_add_right _ _⟩
      refine wpIn_region_any hm (drawAny hH (F := F) (W := W) (E0 := E) h0 hih (rd := rd) (by rw [hs0]; exact hst.rd) n (fun a w hp => ?_) ops.size _ a _ (by simp) ?_ ?_ ?_)
      · rw [hs0, hsk] at hp
        exact hp
      · rw [Array.toList_replicate, List.count_replicate_self]
      · intro q o ho hq
        unfold Dn at hq
        rw [Array.getD_eq_getD_getElem?, Array.getElem?_replicate] at hq
        split at hq <;> cases hq
      · have hno : ∀ q, ¬ Dn (Array.replicate ops.size false) q := fun q hq => by
          unfold Dn at hq
          rw [Array.getD_eq_getD_getElem?, Array.getElem?_replicate] at hq
          split at hq <;> cases hq
        have hsat : Sat G F W E (s 0).st.S { w with drawn := w.drawn + 1 } := by
          rw [hs0]
          exact ⟨fun i hi => hst.sat.new i (Nat.le_trans (Nat.le_add_right _ _) hi), hst.sat.glob, hst.sat.obj, hst.sat.inj, hst.sat.own, hst.sat.far, hst.sat.size, hst.sat.os, hst.sat.tape, hst.sat.output⟩
        have hlay := h0.mem
        refine ⟨E, F, 0, Nat.zero_le _, fun q o hq => by omega, fun q o _ _ _ => hno q, hsat, Ext.refl _ _, by rw [hs0]; exact Nat.le_refl _, fun x => ⟨0, Nat.zero_le _, ?_, fun q o _ _ hd => absurd hd (hno q), .inl rfl⟩, ?_, ?_, ⟨fun _ _ h => h, fun l _ hx => absurd hx.1 (hno _), fun l _ l' _ hx => absurd hx.1 (hno _)⟩,
          fun l hl _ => ?_, fun j hj => ?_⟩
        · rw [hs0]; exact hst.tr x
        · rw [hs0]; exact hst.nt
        · rw [hs0]; exact hst.ds
        · refine hst.sat.new _ ?_
          have := (hlay l hl).2.1
          rw [hs0] at this
          exact this
        · rw [h0.inc] at hj
          simp at hj
    · cases h
  · rw [Bool.eq_false_iff.2 hreg] at h; cases h
end
end Go.Proofs.YtaeophaecclnbaaGreatDoor
namespace Go.Proofs.YtaeophaecclnbaaGreatDoor
open Go

section rules
variable {P : Program} {b : Frame} {a : Act} {k : List Item} {cs : List Frame} {w : World} {Q : Exit → Act → World → Prop} {F : Fence} {n : Nat}
theorem stepR_scope {c : Code} : step P (lone (b.atR a (.code (.scope c) :: k)) cs w) = .next (lone (b.atR a (.code c :: .inScope c :: k)) cs w) :=
  step_lone_go (by simp [stepG, stepG.exec, Frame.atR])
theorem stepR_inScope {c : Code} : step P (lone (b.atR a (.inScope c :: k)) cs w) = .next (lone (b.atR a k) cs w) :=
  step_lone_go (by simp [stepG, stepG.exec, Frame.atR])
/-- Within a scope c: from x on. -/
def ScopeIn (F : Fence) (n : Nat) (P : Program) (c x : Code) (Q : Exit → Act → World → Prop) (a : Act) (w : World) : Prop :=
  ∀ (b : Frame) (k : List Item) (cs : List Frame), b.roundOf = F.round → F.fn b.fn → F.room (cs.length + 1 + n) →
    ∃ e a' w', Q e a' w' ∧ ArrivesIn (Machine.fenced P F) P (lone (b.atR a (.code x :: .inScope c :: k)) cs w) b k cs e a' w'
def scopeQ (F : Fence) (n : Nat) (P : Program) (c : Code) (Q : Exit → Act → World → Prop) : Exit → Act → World → Prop
  | .goto l, a, w => match findLabel c l with
    | some rest => ScopeIn F n P c rest Q a w
    | none => Q (.goto l) a w
  | e, a, w => Q e a w
theorem scope_pass {c x : Code} (h : x.wpIn F n P (scopeQ F n P c Q) a w) : ScopeIn F n P c x Q a w := by
  intro b k cs hro hb hr
  obtain ⟨e, a₁, w₁, hq, harr⟩ := h b (.inScope c :: k) cs hro hb hr
  cases e with
  | normal => exact ⟨.normal, a₁, w₁, hq, StepsIn.trans harr (.one (fenced_calm hb hr rfl) stepR_inScope)⟩
  | exit id => exact ⟨.exit id, a₁, w₁, hq, fun k' hk => harr.1 k' (by simp [exitTo, hk]), fun h1 h2 => harr.2 h1 (by simp [exitTo, h2])⟩
  | goto l =>
    have hq' : (match findLabel c l with | some rest => ScopeIn F n P c rest Q a₁ w₁ | none => Q (.goto l) a₁ w₁) := hq
    cases hf : findLabel c l with
    | none =>
      rw [hf] at hq'
      exact ⟨.goto l, a₁, w₁, hq', fun k' hk => harr.1 k' (by simp [gotoIn, hf, hk]), fun h1 h2 => harr.2 h1 (by simp [gotoIn, hf, h2])⟩
    | some rest =>
      rw [hf] at hq'
      obtain ⟨e₂, a₂, w₂, hq₂, harr₂⟩ := hq' b k cs hro hb hr
      exact ⟨e₂, a₂, w₂, hq₂, .of_steps (harr.1 _ (by simp [gotoIn, hf])) harr₂⟩
  | ret => exact ⟨_, a₁, w₁, hq, harr⟩
  | panic ch => exact ⟨_, a₁, w₁, hq, harr⟩
  | outgrown => exact ⟨_, a₁, w₁, hq, harr⟩
theorem wpIn_scope {c : Code} (h : ScopeIn F n P c c Q a w) : (Code.scope c).wpIn F n P Q a w := fun b k cs hro hb hr =>
  let ⟨e, a', w', q, r⟩ := h b k cs hro hb hr
  ⟨e, a', w', q, .of_steps (.one (fenced_calm hb hr rfl) stepR_scope) r⟩
/-- At the head of a loop's body. -/
def LoopIn (F : Fence) (n : Nat) (P : Program) (c : Code) (Q : Exit → Act → World → Prop) (a : Act) (w : World) : Prop :=
  ∀ (b : Frame) (k : List Item) (cs : List Frame), b.roundOf = F.round → F.fn b.fn → F.room (cs.length + 1 + n) →
    ∃ e a' w', Q e a' w' ∧ ArrivesIn (Machine.fenced P F) P (lone (b.atR a (.code c :: .inLoop c :: k)) cs w) b k cs e a' w'
theorem loopIn_of {c : Code} (h : c.wpIn F n P (Exit.then (LoopIn F n P c Q) Q) a w) : LoopIn F n P c Q a w := by
  intro b k cs hro hb hr
  obtain ⟨e, a₁, w₁, hq, harr⟩ := h b (.inLoop c :: k) cs hro hb hr
  cases e with
  | normal =>
    obtain ⟨e₂, a₂, w₂, hq₂, harr₂⟩ := hq b k cs hro hb hr
    exact ⟨e₂, a₂, w₂, hq₂, .of_steps (StepsIn.trans harr (.one (fenced_calm hb hr rfl) stepR_inLoop)) harr₂⟩
  | exit id => exact ⟨_, a₁, w₁, hq, .pass (x := .inLoop c) rfl (fun _ _ => .inl (by simp)) harr⟩
  | goto l => exact ⟨_, a₁, w₁, hq, .pass (x := .inLoop c) rfl (fun _ _ => .inl (by simp)) harr⟩
  | ret => exact ⟨_, a₁, w₁, hq, .pass (x := .inLoop c) rfl (fun _ _ => .inl (by simp)) harr⟩
  | panic ch => exact ⟨_, a₁, w₁, hq, .pass (x := .inLoop c) rfl (fun _ _ => .inl (by simp)) harr⟩
  | outgrown => exact ⟨_, a₁, w₁, hq, .pass (x := .inLoop c) rfl (fun _ _ => .inl (by simp)) harr⟩
theorem wpIn_loop1 {c : Code} (h : LoopIn F n P c Q a w) : (Code.loop c).wpIn F n P Q a w := fun b k cs hro hb hr =>
  let ⟨e, a', w', q, r⟩ := h b k cs hro hb hr
  ⟨e, a', w', q, .of_steps (.one (fenced_calm hb hr rfl) stepR_loop) r⟩
theorem LoopIn.mono {c : Code} {Q' : Exit → Act → World → Prop} (h : LoopIn F n P c Q a w) (hq : ∀ e a w, Q e a w → Q' e a w) : LoopIn F n P c Q' a w := fun b k cs hro hb hr =>
  let ⟨e, a', w', q, r⟩ := h b k cs hro hb hr
  ⟨e, a', w', hq _ _ _ q, r⟩
theorem ScopeIn.mono {c x : Code} {Q' : Exit → Act → World → Prop} (h : ScopeIn F n P c x Q a w) (hq : ∀ e a w, Q e a w → Q' e a w) : ScopeIn F n P c x Q' a w := fun b k cs hro hb hr =>
  let ⟨e, a', w', q, r⟩ := h b k cs hro hb hr
  ⟨e, a', w', hq _ _ _ q, r⟩
end rules
section
variable {H : List HookE} {P : Program} {G : Nat} {F : Nat → Option Obj} {W : World} {E : Env} {w : World} {a : Act}
def SndLoop (P : Program) (G : Nat) (ih : Run) : Prop :=
  ∀ st c e st', ih st (.loop c) = some (e, st') → ∀ F W E a w rd n, StR G F W E rd st a w → LoopIn (fw rd) n P c (PostC G F W E rd st.S.n e st') a w
/-- What ends otherwise than normally: the post. -/
theorem onward_ok {go : St → Option (SExit × St)} {e e1 : SExit} {st' st1 : St} (h : onward go e1 st1 = some (e, st')) : (e1 = .normal ∧ go st1 = some (e, st')) ∨ (e1 ≠ .normal ∧ e = e1 ∧ st' = st1) := by
  cases e1 with
  | normal => exact .inl ⟨rfl, h⟩
  | exit i => cases (show some (SExit.exit i, st1) = some (e, st') from h); exact .inr ⟨(fun h => by cases h), rfl, rfl⟩
  | goto i => cases (show some (SExit.goto i, st1) = some (e, st') from h); exact .inr ⟨(fun h => by cases h), rfl, rfl⟩
  | ret => cases (show some (SExit.ret, st1) = some (e, st') from h); exact .inr ⟨(fun h => by cases h), rfl, rfl⟩
  | panic v => cases (show some (SExit.panic v, st1) = some (e, st') from h); exact .inr ⟨(fun h => by cases h), rfl, rfl⟩
theorem then_ok {rd : Option Nat} {n0 : Nat} {e1 e : SExit} {st1 st' : St} {go : St → Option (SExit × St)} (h : onward go e1 st1 = some (e, st')) {K : Act → World → Prop} {x : Exit} {a : Act} {w : World} (hp : PostC G F W E rd n0 e1 st1 x a w)
    (hK : go st1 = some (e, st') → ∀ E1, Ext n0 E E1 → n0 ≤ st1.S.n → StR G F W E1 rd st1 a w → K a w) : Exit.then K (PostC G F W E rd n0 e st') x a w := by
  rcases onward_ok h with ⟨rfl, hg⟩ | ⟨hne, rfl, rfl⟩
  · obtain ⟨E1, h1, h2, h3, h4⟩ := hp
    cases x <;> first | exact h4.elim | skip
    exact hK hg E1 h1 h2 h3
  · have hp' := hp
    obtain ⟨E1, h1, h2, h3, h4⟩ := hp
    cases x with
    | normal => cases e <;> first | exact absurd rfl hne | exact h4.elim
    | _ => exact hp'
theorem cSeq_ok {ih : Run} (hih : Snd P G ih) {x y : Code} {st st' : St} {e : SExit} (h : cSeq x y H P G ih st = some (e, st')) {rd : Option Nat} (n : Nat) (hst : StR G F W E rd st a w) : (Code.seq x y).wpIn (fw rd) n P (PostC G F W E rd st.S.n e st') a w := by
  unfold cSeq at h
  cases hx : ih st x with
  | none => rw [hx] at h; cases h
  | some p =>
    obtain ⟨e1, st1⟩ := p
    rw [hx] at h
    have h' : onward (fun st => ih st y) e1 st1 = some (e, st') := h
    refine wpIn_seq (wpIn_mono (hih _ _ _ _ hx F W E a w rd n hst) fun z a1 w1 hp => then_ok h' hp fun hg E1 hE hn hs => ?_)
    exact wpIn_mono (hih _ _ _ _ hg F W E1 a1 w1 rd n hs) fun _ _ _ hq => hq.ext hE hn
theorem cLoop_ok {ih : Run} (hih : Snd P G ih) (hlp : SndLoop P G ih) {c : Code} {st st' : St} {e : SExit} (h : cLoop c H P G ih st = some (e, st')) {rd : Option Nat} (n : Nat) (hst : StR G F W E rd st a w) : LoopIn (fw rd) n P c (PostC G F W E rd st.S.n e st') a w := by
  unfold cLoop at h
  cases hx : ih st c with
  | none => rw [hx] at h; cases h
  | some p =>
    obtain ⟨e1, st1⟩ := p
    rw [hx] at h
    have h' : onward (fun st => ih st (.loop c)) e1 st1 = some (e, st') := h
    refine loopIn_of (wpIn_mono (hih _ _ _ _ hx F W E a w rd n hst) fun z a1 w1 hp => then_ok h' hp fun hg E1 hE hn hs => ?_)
    exact (hlp _ _ _ _ hg F W E1 a1 w1 rd n hs).mono fun _ _ _ hq => hq.ext hE hn
theorem cCond_ok {ih : Run} (hih : Snd P G ih) {c : Operand} {x y : Code} {st st' : St} {e : SExit} (h : cCond c x y H P G ih st = some (e, st')) {rd : Option Nat} (n : Nat) (hst : StR G F W E rd st a w) : (Code.cond c x y).wpIn (fw rd) n P (PostC G F W E rd st.S.n e st') a w := by
  unfold cCond at h
  split at h
  · rename_i d t hv
    have hd := hst.tr d
    rw [hv] at hd
    have hc : a.eval (.tmp d) = .bool t := by
      show a.tmps.getD d undef = _
      generalize a.tmps.getD d undef = z at hd
      cases hd; rfl
    refine wpIn_cond hc ?_
    cases t with
    | true => exact hih _ _ _ _ h F W E a w rd n hst
    | false => exact hih _ _ _ _ h F W E a w rd n hst
  · rename_i d t hv
    have hc : a.eval (.const d) = .bool t := hv
    refine wpIn_cond hc ?_
    cases t with
    | true => exact hih _ _ _ _ h F W E a w rd n hst
    | false => exact hih _ _ _ _ h F W E a w rd n hst
  · cases h
theorem cBlock_ok {ih : Run} (hih : Snd P G ih) {id : Nat} {c : Code} {st st' : St} {e : SExit} (h : cBlock id c H P G ih st = some (e, st')) {rd : Option Nat} (n : Nat) (hst : StR G F W E rd st a w) : (Code.block id c).wpIn (fw rd) n P (PostC G F W E rd st.S.n e st') a w := by
  unfold cBlock at h
  cases hx : ih st c with
  | none => rw [hx] at h; cases h
  | some p =>
    obtain ⟨e1, st1⟩ := p
    rw [hx] at h
    cases (show some (inB id e1, st1) = some (e, st') from h)
    refine wpIn_block (wpIn_mono (hih _ _ _ _ hx F W E a w rd n hst) ?_)
    rintro z a1 w1 ⟨E1, h1, h2, h3, h4⟩
    cases e1 with
    | exit i =>
      cases z <;> first | exact h4.elim | skip
      rename_i j
      have hij : i = j := h4
      subst hij
      by_cases hi : i = id
      · subst hi
        show (if i = i then PostC G F W E rd st.S.n (inB i (.exit i)) st' .normal a1 w1 else _)
        rw [if_pos rfl]
        have : inB i (.exit i) = .normal := by show (bif Nat.beq i i then SExit.normal else _) = _; rw [Nat.beq_refl]; rfl
        rw [this]
        exact ⟨E1, h1, h2, h3, trivial⟩
      · show (if i = id then _ else PostC G F W E rd st.S.n (inB id (.exit i)) st' (.exit i) a1 w1)
        rw [if_neg hi]
        have : inB id (.exit i) = .exit i := by
          show (bif Nat.beq i id then SExit.normal else _) = _
          rw [Bool.eq_false_iff.2 fun hb => hi (Nat.eq_of_beq_eq_true hb)]
          rfl
        rw [this]
        exact ⟨E1, h1, h2, h3, rfl⟩
    | normal => cases z <;> first | exact h4.elim | exact ⟨E1, h1, h2, h3, h4⟩
    | goto i => cases z <;> first | exact h4.elim | exact ⟨E1, h1, h2, h3, h4⟩
    | ret => cases z <;> first | exact h4.elim | exact ⟨E1, h1, h2, h3, h4⟩
    | panic v => cases z <;> first | exact h4.elim | exact ⟨E1, h1, h2, h3, h4⟩
theorem scopeE_ok {ih : Run} (hih : Snd P G ih) {c : Code} : ∀ (m : Nat) (st : St) (x : Code) (e : SExit) (st' : St), scopeE ih c m st x = some (e, st') → ∀ (E : Env) (a : Act) (w : World) (rd : Option Nat) (n : Nat), StR G F W E rd st a w →
    ScopeIn (fw rd) n P c x (PostC G F W E rd st.S.n e st') a w := by
  intro m
  induction m with
  | zero => intro st x e st' h; cases h
  | succ m hm =>
    intro st x e st' h E a w rd n hst
    have h' : (match ih st x with
      | some (.goto l, st') => match findLabel c l with
        | some rest => scopeE ih c m st' rest
        | none => some (.goto l, st')
      | r => r) = some (e, st') := h
    refine scope_pass ?_
    split at h'
    · rename_i l st1 hx
      refine wpIn_mono (hih _ _ _ _ hx F W E a w rd n hst) ?_
      rintro z a1 w1 ⟨E1, h1, h2, h3, h4⟩
      cases z <;> first | exact h4.elim | skip
      rename_i l'
      have hl : l = l' := h4
      subst hl
      show (match findLabel c l with | some rest => ScopeIn (fw rd) n P c rest (PostC G F W E rd st.S.n e st') a1 w1 | none => PostC G F W E rd st.S.n e st' (.goto l) a1 w1)
      cases hf : findLabel c l with
      | some rest =>
        rw [hf] at h'
        exact (hm _ _ _ _ h' E1 a1 w1 rd n h3).mono fun _ _ _ hq => hq.ext h1 h2
      | none =>
        rw [hf] at h'
        cases h'
        exact ⟨E1, h1, h2, h3, rfl⟩
    · rename_i r hno
      refine wpIn_mono (hih _ _ _ _ h' F W E a w rd n hst) ?_
      intro z a1 w1 hp
      have hp' := hp
      obtain ⟨E1, h1, h2, h3, h4⟩ := hp
      cases z with
      | goto l =>
        cases e <;> first | exact h4.elim | skip
        exact absurd h' (hno _ _)
      | _ => exact hp'
/-! ### A range over a function -/
theorem jumpQ {E : Env} {e : SExit} {c : Code} (hc : codeJ c = some e) {F : Fence} {n : Nat} {Q : Exit → Act → World → Prop} {a : Act} {w : World} (h : ∀ x, ExitR E e x → x ≠ .outgrown → Q x a w) : c.wpIn F n P Q a w := by
  cases c <;> first | cases hc | skip
  · exact wpIn_exit (h _ rfl (by simp))
  · exact wpIn_goto (h _ rfl (by simp))
  · exact wpIn_ret (h _ trivial (by simp))
theorem isBusy_iff {s : LoopState} (h : isBusy s = false) : s ≠ .busy := fun e => by subst e; cases h
theorem cRange_ok (hH : HooksOk P G H) {ih : Run} (hih : Snd P G ih) {g : Operand} {ps : Array Tmp} {as_ body : Code} {st st' : St} {e : SExit} (h : cRange g ps as_ body H P G ih st = some (e, st')) {rd : Option Nat} (n : Nat) (hst : StR G F W E rd st a w) :
    (Code.rangeFunc g ps as_ body).wpIn (fw rd) n P (PostC G F W E rd st.S.n e st') a w := by
  unfold cRange at h
  cases hrd : st.rd with
  | true => rw [hrd] at h; cases h
  | false =>
    rw [hrd, cond_false] at h
    have hrn : rd = none := by
      have := hst.rd
      rw [hrd] at this
      cases rd with
      | none => rfl
      | some l => cases this
    subst hrn
    split at h
    · rename_i t f first cap hv
      rw [seqN_eq] at h
      split at h
      · rename_i g' args hx
        split at h
        · rename_i p hcall
          obtain ⟨heq, hfn⟩ := enter_ok hx
          cases heq
          obtain ⟨r, S3⟩ := p
          -- the value that is ranged over
          have hd := hst.tr t
          rw [hv] at hd
          have hev : ∃ first' cap', a.eval (.tmp t) = .func (.func f) first' cap' ∧ VL E first.toList first'.toList ∧ VL E cap.toList cap'.toList := by
            show ∃ first' cap', a.tmps.getD t undef = .func (.func f) first' cap' ∧ _ ∧ _
            generalize a.tmps.getD t undef = z at hd
            cases hd with
            | func hf ha ha' hb hb' =>
              cases hf with
              | same _ _ => exact ⟨_, _, rfl, ⟨ha, ha'⟩, ⟨hb, hb'⟩⟩
          obtain ⟨first', cap', hev, hfi, hca⟩ := hev
          -- what is laid
          have hs1 := hst.sat.lay (.deferred (some [])) .dfr ⟨w.heap.size, 0, 0⟩ rfl (World.alloc_heap_new _ _)
          have hle1 : E.le (E.put st.S.n ⟨w.heap.size, 0, 0⟩) := Env.put_le (hst.sat.new _ (Nat.le_refl _)) _
          refine wpIn_rangeFunc fun fn _ => ?_
          let rec0 : Loop := { state := .ready, pending := none, fn, tmps := a.tmps, params := ps, assign := as_, body, defers := w.heap.size }
          have hle2 : (E.put st.S.n ⟨w.heap.size, 0, 0⟩).le ((E.put st.S.n ⟨w.heap.size, 0, 0⟩).put (st.S.new .dfr).n ⟨(w.alloc (.deferred (some []))).heap.size, 0, 0⟩) := Env.put_le (hs1.new _ (Nat.le_refl _)) _
          have hs2 := hs1.lay (.loop rec0) (.loop .ready none st.tr st.nt ps.toList as_ body) ⟨(w.alloc (.deferred (some []))).heap.size, 0, 0⟩ rfl
            ⟨rec0, World.alloc_heap_new _ _, rfl, rfl, rfl, rfl, rfl, hst.nt, hst.tr.mono fun i e he => hle2 _ _ (hle1 _ _ he)⟩
          have hn1 : (st.S.new .dfr).n = st.S.n + 1 := SW.new_n _ _
          have hsz : (w.alloc (.deferred (some []))).heap.size = w.heap.size + 1 := World.size_alloc _ _
          have hEl : ((E.put st.S.n ⟨w.heap.size, 0, 0⟩).put (st.S.new .dfr).n ⟨(w.alloc (.deferred (some []))).heap.size, 0, 0⟩) (st.S.n + 1) = some ⟨w.heap.size + 1, 0, 0⟩ := by
            rw [hn1, hsz]; exact Env.put_same _ _ _
          have hEn : ((E.put st.S.n ⟨w.heap.size, 0, 0⟩).put (st.S.new .dfr).n ⟨(w.alloc (.deferred (some []))).heap.size, 0, 0⟩) st.S.n = some ⟨w.heap.size, 0, 0⟩ := hle2 _ _ (Env.put_same _ _ _)
          have hEE : Ext st.S.n E ((E.put st.S.n ⟨w.heap.size, 0, 0⟩).put (st.S.new .dfr).n ⟨(w.alloc (.deferred (some []))).heap.size, 0, 0⟩) := (Env.put_ext _ _ _).trans (Env.put_ext _ _ _) (by rw [hn1]; omega)
          generalize ((E.put st.S.n ⟨w.heap.size, 0, 0⟩).put (st.S.new .dfr).n ⟨(w.alloc (.deferred (some []))).heap.size, 0, 0⟩) = E2 at hs2 hEl hEn hEE
          have hle := hst.sat.le hEE
          refine ⟨_, _, _, ⟨.fn (.func f) cap', first' ++ #[.func (.yield (w.heap.size + 1)) #[] #[]]⟩, (w.alloc (.deferred (some []))).alloc (.loop rec0), f, (first' ++ #[.func (.yield (w.heap.size + 1)) #[] #[]]) ++ cap', (w.alloc (.deferred (some []))).alloc (.loop rec0), run_enterLoop_outer fn a.tmps ps as_ body, ?_, fun _ _ => trivial, ?_, (fun hh => by cases hh), ?_⟩
          · show (Deferred.ofValue (a.eval (.tmp t)) (#[Operand.const (.func (.yield (w.heap.size + 1)) #[] #[])].map a.eval)).run P _ = _
            rw [hev, show #[Operand.const (.func (.yield (w.heap.size + 1)) #[] #[])].map a.eval = #[Value.func (.yield (w.heap.size + 1)) #[] #[]] from by simp; rfl]
            rfl
          · exact hfn _ _
          · have hargs : VL E2 (first.toList ++ [Value.func (.yield (st.S.n + 1)) #[] #[]] ++ cap.toList) ((first' ++ #[Value.func (.yield (w.heap.size + 1)) #[] #[]]) ++ cap').toList := by
              rw [Array.toList_append, Array.toList_append]
              exact ((hfi.mono hle).append (LR.cons (VR.func' (.yield hEl) LR.nil LR.nil) LR.nil)).append (hca.mono hle)
            refine CallsIn.mono (callF_ok hH hih hcall F W E2 _ _ (n - 1) hs2 hargs) ?_
            rintro z w3 ⟨E3, hE3, hn3, hs3, hz⟩
            cases r with
            | panic v => cases h
            | ret v =>
              cases z <;> first | exact hz.elim | skip
              unfold rangeEnd at h
              simp only at h
              split at h
              · rename_i s p tr nt ps1 as1 body1 hl
                have hn2 : ((st.S.new .dfr).new (.loop .ready none st.tr st.nt ps.toList as_ body)).n = st.S.n + 2 := by rw [SW.new_n, hn1]
                rw [hn2] at hE3 hn3
                have hEl3 : E3 (st.S.n + 1) = some ⟨w.heap.size + 1, 0, 0⟩ := (hE3 _ (by omega)).trans hEl
                have hEn3 : E3 st.S.n = some ⟨w.heap.size, 0, 0⟩ := (hE3 _ (by omega)).trans hEn
                obtain ⟨e', he', r3, m1, m2, m3, m4, m5, m6, m7, m8⟩ := hs3.obj _ _ hl
                rw [hEl3] at he'; cases he'
                have hE03 : Ext st.S.n E E3 := hEE.trans hE3 (by omega)
                have hb : isBusy s = false := by
                  cases hb : isBusy s with
                  | false => rfl
                  | true => rw [hb] at h; cases h
                rw [hb, cond_false] at h
                have hturn := hs3.turn hl hEl3 (.loop .exhausted p tr nt ps1 as1 body1) (w' := w3.putObj (w.heap.size + 1) (.loop { r3 with state := .exhausted })) (fun k hk => World.putObj_heap_other hk) (by simp) rfl rfl rfl
                  ⟨_, World.putObj_heap_same (Array.getElem?_eq_some_iff.1 m1).1, rfl, m3, m4, m5, m6, m7, m8⟩
                have hpost : ∀ e1, some (e1, (⟨S3.set (st.S.n + 1) (.loop .exhausted p tr nt ps1 as1 body1), st.tr, st.nt, ⟨.collected st.S.n, #[]⟩ :: st.ds, false⟩ : St)) = some (e, st') → ∀ x, ExitR E3 e1 x →
                    PostC G F W E none st.S.n e st' x { a with defers := [{ target := .collected w.heap.size, args := #[] }] ++ a.defers } (w3.putObj (w.heap.size + 1) (.loop { r3 with state := .exhausted })) := fun e1 he x hx => by
                  cases he
                  refine ⟨E3, hE03, by rw [SW.set_n]; omega, ⟨hturn, hst.tr.mono (hst.sat.le hE03), hst.nt, LR.cons (.mark hEn3) (hst.ds.mono fun _ _ hd => hd.mono (hst.sat.le hE03)), rfl⟩, hx⟩
                refine ⟨p, w3.putObj (w.heap.size + 1) (.loop { r3 with state := .exhausted }), ?_, ?_⟩
                · have := run_endLoop (P := P) m1 (by rw [m2]; exact isBusy_iff hb)
                  exact this.trans (congrArg (fun q => Result.ok q (w3.putObj (w.heap.size + 1) (.loop { r3 with state := .exhausted }))) m3)
                · cases p with
                  | none => exact hpost _ h _ trivial
                  | some c =>
                    simp only at h ⊢
                    split at h
                    · rename_i e1 hj
                      exact jumpQ (E := E3) hj fun x hx _ => hpost _ h x hx
                    · cases h
              · cases h
        · cases h
      · cases h
    · cases h
/-! ### All code -/
theorem codeE_ok (hH : HooksOk P G H) {ih : Run} (hih : Snd P G ih) (hlp : SndLoop P G ih) (hm : P.follows .mixedOrders = true) {c : Code} {st st' : St} {e : SExit} (h : codeE H P G ih st c = some (e, st')) {rd : Option Nat} (n : Nat) (hst : StR G F W E rd st a w) :
    c.wpIn (fw rd) n P (PostC G F W E rd st.S.n e st') a w := by
  have hself : ∀ (e1 : SExit) (x : Exit), some (e1, st) = some (e, st') → ExitR E e1 x → PostC G F W E rd st.S.n e st' x a w := fun e1 x he hx => by
    cases he
    exact ⟨E, Ext.refl _ _, Nat.le_refl _, hst, hx⟩
  cases c with
  | skip => exact wpIn_skip (hself .normal .normal h trivial)
  | region id ops d =>
    have h' : cRegion ops d H P G ih st = some (e, st') := h
    cases d with
    | true => exact drawE_ok hH hih hm h' id n hst
    | false => exact wpIn_region (opsE_ok hH hih _ _ (range_ops ops) _ _ _ h' E a w rd n hst)
  | seq x y => exact cSeq_ok (H := H) hih h n hst
  | cond c x y => exact cCond_ok (H := H) hih h n hst
  | block id c => exact cBlock_ok (H := H) hih h n hst
  | loop c => exact wpIn_loop1 (cLoop_ok (H := H) hih hlp h n hst)
  | rangeFunc g ps as_ body => exact cRange_ok hH hih h n hst
  | exit i => exact wpIn_exit (hself (.exit i) (.exit i) h rfl)
  | scope c =>
    have h' : cScope c H P G ih st = some (e, st') := h
    unfold cScope at h'
    revert h'
    generalize 100000 = m
    intro h'
    exact wpIn_scope (scopeE_ok hih m st c e st' h' E a w rd n hst)
  | label l => exact wpIn_label (hself .normal .normal h trivial)
  | goto l => exact wpIn_goto (hself (.goto l) (.goto l) h rfl)
  | ret => exact wpIn_ret (hself .ret .ret h trivial)
  | refuse r => cases h
theorem exec_ok (hH : HooksOk P G H) (hm : P.follows .mixedOrders = true) : ∀ n, Snd P G (exec H P G n) ∧ SndLoop P G (exec H P G n)
  | 0 => ⟨fun _ _ _ _ h => (by cases h), fun _ _ _ _ h => (by cases h)⟩
  | n + 1 => by
    obtain ⟨h1, h2⟩ := exec_ok hH hm n
    refine ⟨fun st c e st' h F W E a w rd n hst => codeE_ok hH h1 h2 hm h n hst, fun st c e st' h F W E a w rd n hst => ?_⟩
    exact cLoop_ok (H := H) h1 h2 (show cLoop c [] P G (exec H P G _) st = some (e, st') from h) n hst
theorem callE_ok (hH : HooksOk P G H) (hm : P.follows .mixedOrders = true) {n : Nat} {S S' : SW} {f : FuncId} {args : List Value} {r : SEnd} (h : callE H P G n S f args = some (r, S')) : CallOk P G S f args r S' := by
  unfold callE at h
  split at h
  · cases h
  · rename_i fn hfn
    split at h
    · cases h
    · rename_i c hc
      exact callB_ok (exec_ok hH hm n).1 hfn hc h
/-! ### From a world as it is -/
theorem start_sat (G : Nat) (w : World) : Sat G (fun k => w.heap[k]?) w (fun i => if i < G then some ⟨i, 0, 0⟩ else none) ⟨G, .leaf⟩ w :=
  ⟨fun i hi => if_neg (by have : G ≤ i := hi; omega), fun g hg => ⟨⟨g, 0, 0⟩, if_pos hg, rfl, rfl⟩, fun i o h => (by cases h), fun i j o o' e e' h => (by cases h), fun i o e h => (by cases h), fun k o h => h, Nat.le_refl _, rfl, rfl, rfl⟩
/-- What a closed call answers; the world below stays. -/
theorem closed_ok (hH : HooksOk P G H) (hm : P.follows .mixedOrders = true) {n : Nat} {S' : SW} {f : FuncId} {r : SEnd} (h : callE H P G n ⟨G, .leaf⟩ f [] = some (r, S')) (w : World) (k : Nat) :
    CallsIn Fence.wide k P f #[] w fun e w' => (∃ E', EndR E' r e) ∧ (∀ i, i < w.heap.size → w'.heap[i]? = w.heap[i]?) ∧ w.heap.size ≤ w'.heap.size ∧ w'.os = w.os ∧ w'.tape = w.tape ∧ w'.output = w.output :=
  (callE_ok hH hm h _ w _ w #[] k (start_sat G w) LR.nil).mono fun _ _ ⟨E', _, _, hs, he⟩ =>
    ⟨⟨E', he⟩, fun i hi => (hs.far i _ (Array.getElem?_eq_getElem hi)).trans (Array.getElem?_eq_getElem hi).symm, hs.size, hs.os, hs.tape, hs.output⟩
#print axioms closed_ok
end
end Go.Proofs.YtaeophaecclnbaaGreatDoor

/- The executor: drawn regions: one operation, all of them. -/
import Derived.Test.YtbjecfbfcpiilaaGreatDoorExL
namespace Go.Proofs.YtbjecfbfcpiilaaGreatDoor
open Go

section
variable {H : List HookE} {P : Program} {G : Nat} {ih : Run} {ops : Array Oper} {B : Nat → Nat} {s : Nat → DS} {F F' : Nat → Option Obj} {W : World} {E0 E E' : Env} {D : Nat → Prop} {a : Act} {w w' : World} {c : Nat}
def Inv' (ops : Array Oper) (s : Nat → DS) (G : Nat) (F : Nat → Option Obj) (W : World) (E0 : Env) (D : Nat → Prop) (a : Act) (w : World) : Prop := ∃ E F' c, Inv ops s G F W E0 D a w E F' c
theorem Inv.step (hH : HooksOk P G H) (h0 : Run0 H P G ih ops B s) (hih : Snd P G ih) {rd : Option Nat} (hrd : (s 0).st.rd = rd.isSome) (n : Nat) (h : Inv ops s G F W E0 D a w E F' c) {i : Nat} {o : Oper} (hy : Rdy ops D i o) {K : Act → World → Prop} {Q : Exit → Act → World → Prop}
    (hK : ∀ a' w', Inv' ops s G F W E0 (fun q => D q ∨ q = i) a' w' → K a' w') :
    (if Region.wanted o (yielded ops a.tmps) = true then o.wpIn (fw rd) n P a w K Q else (∀ f, o.about P w a.eval = some f → (fw rd).fn f) ∧ K (a.put o.dst undef) w) := by
  have hi := (Array.getElem?_eq_some_iff.1 hy.ho).1
  have hw := h0.run.want hy h.tmp
  have hargs := h0.run.args (a := a) hy h.sat h.tmp
  have hrdi : (s i).st.rd = rd.isSome := (h0.run.const (by omega : i ≤ ops.size)).2.1.trans hrd
  have hplain : kindO o.op ≠ .loud → ∀ {v' : Value} {w' : World}, wantS ops (s i).st.tr o = true → (execOp a.eval o).run P w = .ok (.value v') w' → K (a.put o.dst v') w' →
      (if Region.wanted o (yielded ops a.tmps) = true then o.wpIn (fw rd) n P a w K Q else (∀ f, o.about P w a.eval = some f → (fw rd).fn f) ∧ K (a.put o.dst undef) w) := fun hk v' w' hww hrun hk' => by
    rw [hw, hww, if_pos rfl]
    refine ⟨fun _ _ => trivial, ?_⟩
    rw [semAt_ok hrdi (fun _ => notDefer hk), hrun, Oper.uponIn_value]
    exact hk'
  cases h0.run.stp hy.ho with
  | skip hww cm h1 h2 h3 =>
    have hww' : wantS ops (s i).st.tr o = false := hww
    rw [hw, hww', if_neg (by simp)]
    exact ⟨fun _ _ => trivial, hK _ _ ⟨E, F', c, h.calm h0 hy (fun hL => by rw [hL.1] at hww'; cases hww') h1 (Ext.refl _ _) h.sat h.out VR.undef cm.put.tr cm.put.lt⟩⟩
  | free v S' hww hk hs cm h1 h2 h3 =>
    have hk' : kindO o.op = .free := hk
    have hnl : kindO o.op ≠ .loud := by rw [hk']; exact fun e => by cases e
    have hs' := free_step hk' hs (s c).st.S
    obtain ⟨v', w', E', hrun, hE, hn, hsat, hv⟩ := stepS_ok2 h.sat hargs hs'
    exact hplain hnl hww hrun (hK _ _ ⟨E', F', c, h.calm h0 hy (fun hL => hnl hL.2) h1 hE hsat (h.out.move h.sat hsat (h.le hE) (h.ids h0 hE)) hv cm.put.tr cm.put.lt⟩)
  | look v hww hk hs hb cm h1 h2 h3 =>
    have hk' : kindO o.op = .look := hk
    have hnl : kindO o.op ≠ .loud := by rw [hk']; exact fun e => by cases e
    obtain ⟨q, hq, hlk⟩ := h.seen h0 hy (fun hL => hnl hL.2) hs hb (by rw [h2]; exact List.mem_cons_self) fun u => valEq_ok PD u v
    have hsub : ∀ l ∈ (s q).lays, l ∈ (s ops.size).lays := h0.run.laysMono hq (Nat.le_refl _)
    have hX : ∀ l ∈ (s q).lays, layNow (B i) (s c).inc l = true → D l.j ∧ (s c).inc.testBit l.j = false := fun l _ hl => by
      unfold layNow at hl
      rw [Bool.and_eq_true, Bool.not_eq_true'] at hl
      exact ⟨h0.run.rdy hy hl.1, hl.2⟩
    obtain ⟨F1, k1, k2, k3⟩ := incl (B := B i) (inc := (s c).inc) h.sat h.out (s q).lays hsub (h0.pair hq) hX
    unfold lookAt at hlk
    split at hlk
    · rename_i u S'' hstep
      cases hlk
      have hS := look_step hk' hstep
      subst hS
      obtain ⟨v', w', E', hrun, hE, hn, hsat, hv⟩ := stepS_ok2 k1 hargs hstep
      have hE' : Ext (s c).st.S.n E E' := fun x hx => hE x (by
        show x < (addLays (s q).lays (B i) (s c).inc (s c).st.S).n
        rw [addLays_n]; exact hx)
      obtain ⟨F2, m1, m2⟩ := excl h.sat h.out (h0.pair hq) (fun l hl l' hl' e => pair_uniq (h0.pair (Nat.le_refl _)) l hl l' (hsub l' hl') (.inl e)) hsub hX k2 k3 k1 hE' (h.ids h0 hE') hsat
      exact hplain hnl hww hrun (hK _ _ ⟨E', F2, c, h.calm h0 hy (fun hL => hnl hL.2) h1 hE' m1 m2 hv cm.put.tr cm.put.lt⟩)
    · cases hlk
  | lay v obj hww hk hok hlt hs cm h1 h2 h3 =>
    have hk' : kindO o.op = .lay := hk
    have hnl : kindO o.op ≠ .loud := by rw [hk']; exact fun e => by cases e
    obtain ⟨ob, k, mk, m1, m2, m3⟩ := alloc_ok (n := (s i).nx) (E := E) (ρ' := a.eval) (fun x hx => hargs x hx ((allL_iff _ _).1 hok x hx)) hs
    obtain ⟨E', F2, hinv⟩ := h.laid h0 hy (fun hL => hnl hL.2) h1 m2 m3 cm.put.tr cm.put.lt
    exact hplain hnl hww (m1 w) (hK _ _ ⟨E', F2, c, hinv⟩)
  | loud st' hww hk hh hs hl he =>
    have hL : Lo ops s i o := ⟨hww, hk⟩
    have hbefore : ∀ q oq, q < i → ops[q]? = some oq → Lo ops s q oq → D q := fun q oq hq hoq hLq =>
      h0.run.rdy hy ((allL_iff _ _).1 hh _ (h0.run.histMem hoq hLq hq (by omega)))
    have hafter : ∀ q oq, i < q → ops[q]? = some oq → Lo ops s q oq → ¬ D q := fun q oq hq hoq hLq hD => by
      have hqs := (Array.getElem?_eq_some_iff.1 hoq).1
      have hm := h0.run.histMem hy.ho hL hq (by omega : q ≤ ops.size)
      cases h0.run.stp hoq with
      | skip hw => have := hLq.1; rw [hw] at this; cases this
      | free v S' hw hk => have := hLq.2; rw [hk] at this; cases this
      | look v hw hk => have := hLq.2; rw [hk] at this; cases this
      | lay v obj hw hk => have := hLq.2; rw [hk] at this; cases this
      | loud st2 hw2 hk2 hh2 hs2 hl2 he2 => exact h0.run.notBit hy hoq hD ((allL_iff _ _).1 hh2 _ hm)
    have hci : c ≤ i := by
      refine Nat.le_of_not_lt fun hlt => ?_
      exact hy.no (h.lo i o hlt hy.ho hL)
    obtain ⟨c1, c2, c3, _⟩ := h0.run.calm hci (by omega) fun q oq hq1 hq2 hoq hLq => h.hi q oq hq1 hoq hLq (hbefore q oq hq2 hoq hLq)
    have hsat := h.sat
    have hout := h.out
    rw [← c1] at hsat
    rw [← c3] at hout
    have hsub : ∀ l ∈ (s i).lays, l ∈ (s ops.size).lays := h0.run.laysMono (by omega) (Nat.le_refl _)
    have hX : ∀ l ∈ (s i).lays, layNow (B i) (s i).inc l = true → D l.j ∧ (s i).inc.testBit l.j = false := fun l _ hl => by
      unfold layNow at hl
      rw [Bool.and_eq_true, Bool.not_eq_true'] at hl
      exact ⟨h0.run.rdy hy hl.1, hl.2⟩
    obtain ⟨F1, k1, k2, k3⟩ := incl (B := B i) (inc := (s i).inc) hsat hout (s i).lays hsub (h0.pair (by omega)) hX
    have hS1 : (((s i).with (B i)).S).n = (s c).st.S.n := by
      show (addLays (s i).lays (B i) (s i).inc (s i).st.S).n = _
      rw [addLays_n, c1]
    have hds : LR (DR E) ((s i).with (B i)).ds a.defers := by
      show LR (DR E) (s i).st.ds a.defers
      rw [c2]; exact h.ds
    refine operE_ok2 hH hih hs n (st := (s i).with (B i)) k1 hargs hw hds hrdi K Q (fun _ E1 a2 w1 v v' hE hn hs1 ht hd1 hv q1 q2 q3 q4 => hK _ _ ?_) (fun v hv => by cases hv)
    rw [hS1] at hE hn
    have hle := h.le hE
    have hst : (s (i + 1)).st = st' := by rw [he]
    have hinc : (s (i + 1)).inc = layBits (s i).lays (B i) (s i).inc := by rw [he]
    have hlays : (s (i + 1)).lays = (s i).lays := by rw [he]
    have hids := h.ids h0 hE
    have ho1 := k2.move k1 hs1 hle hids
    have hbit : ∀ j, (s (i + 1)).inc.testBit j = false → (s i).inc.testBit j = false ∧ ¬ Now (s i).lays (B i) (s i).inc j := fun j hj => by
      rw [hinc] at hj
      refine ⟨Bool.eq_false_iff.2 fun hb => ?_, fun ⟨l, hl, e, hb⟩ => ?_⟩
      · rw [(layBits_bit (s i).lays).2 (.inl hb)] at hj; cases hj
      · unfold layNow at hb
        rw [Bool.and_eq_true] at hb
        rw [(layBits_bit (s i).lays).2 (.inr ⟨l, hl, e, e ▸ hb.1⟩)] at hj; cases hj
    have htmp := h0.run.tmpPut (a := a2) hy (by rw [ht]; exact h.tmp) hle hv (by rw [hst]; exact q1) (fun x hx => by
      rw [ht, h.size, ← (h0.run.const (by omega : i ≤ ops.size)).1]; exact q4 x hx)
    refine ⟨E1, F1, i + 1, hi, fun q oq hq hoq hLq => ?_, fun q oq hq hoq hLq hD => ?_, by rw [hst]; exact hs1, h.ext.trans hE (Nat.le_trans h0.lim h.big), by rw [hst]; exact Nat.le_trans h.big hn, htmp, by rw [put_size, ht]; exact h.size,
      by rw [put_defers, hst]; exact hd1, ho1.mono fun l hm hx => ⟨⟨hx.1.resolve_right (h0.noLay hy.ho hlays l hm), (hbit _ hx.2).1⟩, (hbit _ hx.2).2⟩, fun l hm hno => ?_, fun j hj => ?_⟩
    · by_cases hqi : q = i
      · exact .inr hqi
      · exact .inl (hbefore q oq (by omega) hoq hLq)
    · rcases hD with hD | rfl
      · exact hafter q oq (by omega) hoq hLq hD
      · omega
    · rw [hids l hm]
      exact h.new l hm fun hD => hno (.inl hD)
    · rw [hinc] at hj
      rcases (layBits_bit (s i).lays).1 hj with hb | ⟨l, hl, e, hb⟩
      · rw [c3] at hb
        exact .inl (h.inc j hb)
      · exact .inl (h0.run.rdy hy hb)
/-- All done. -/
theorem Inv.done (h0 : Run0 H P G ih ops B s) {rd : Option Nat} (hrd : (s 0).st.rd = rd.isSome) (h : Inv ops s G F W E0 D a w E F' c) (hD : ∀ q, q < ops.size → D q) :
    PostC G F W E0 rd (s 0).nx .normal ((s ops.size).with (2 ^ ops.toList.length - 1)) .normal a w := by
  obtain ⟨c1, c2, c3, _⟩ := h0.run.calm h.hc (Nat.le_refl _) fun q oq hq1 hq2 hoq hL => h.hi q oq hq1 hoq hL (hD q hq2)
  have hsat := h.sat
  have hout := h.out
  rw [← c1] at hsat
  rw [← c3] at hout
  have hX : ∀ l ∈ (s ops.size).lays, layNow (2 ^ ops.toList.length - 1) (s ops.size).inc l = true → D l.j ∧ (s ops.size).inc.testBit l.j = false := fun l hm hl => by
    unfold layNow at hl
    rw [Bool.and_eq_true, Bool.not_eq_true'] at hl
    exact ⟨hD _ (h0.mem l hm).1, hl.2⟩
  obtain ⟨F1, k1, k2, _⟩ := incl (B := 2 ^ ops.toList.length - 1) hsat hout (s ops.size).lays (fun _ hl => hl) (h0.pair (Nat.le_refl _)) hX
  obtain ⟨n1, n2, _⟩ := h0.run.const (Nat.le_refl ops.size)
  refine ⟨E, h.ext, ?_, ⟨k1.weaken k2.sub, fun x => ?_, ?_, ?_, ?_⟩, trivial⟩
  · show (s 0).nx ≤ (addLays _ _ _ _).n
    rw [addLays_n, c1]
    exact Nat.le_trans h0.lim h.big
  · obtain ⟨j, hj, hv, hno, _⟩ := h.tmp x
    show VR E (evS (s ops.size).st.tr (.tmp x)) _
    rw [h0.run.same hj (Nat.le_refl _) fun q oq hq1 hq2 hoq => hno q oq hq1 hoq (hD q hq2)]
    exact hv
  · show a.tmps.size = (s ops.size).st.nt
    rw [n1]; exact h.size
  · show LR (DR E) (s ops.size).st.ds a.defers
    rw [c2]; exact h.ds
  · show (s ops.size).st.rd = rd.isSome
    rw [n2]; exact hrd
def Dn (listed : Array Bool) : Nat → Prop := fun q => listed.getD q false = true
theorem Dn_set {listed : Array Bool} {i : Nat} (hi : i < listed.size) : Dn (listed.setIfInBounds i true) = fun q => Dn listed q ∨ q = i := by
  funext q
  unfold Dn
  simp only [Array.getD_eq_getD_getElem?]
  by_cases hq : q = i
  · subst hq
    simp [hi]
  · rw [Array.getElem?_setIfInBounds_ne (Ne.symm hq)]
    simp [hq]
theorem count_set {l : List Bool} {i : Nat} (h : l[i]? = some false) : (l.set i true).count false + 1 = l.count false := by
  induction l generalizing i with
  | nil => cases h
  | cons x l hl =>
    cases i with
    | zero => cases h; simp
    | succ i =>
      have := hl (i := i) h
      rw [List.set_cons_succ, List.count_cons, List.count_cons]
      omega
theorem drawAny (hH : HooksOk P G H) (h0 : Run0 H P G ih ops B s) (hih : Snd P G ih) {rd : Option Nat} (hrd : (s 0).st.rd = rd.isSome) (n : Nat) {Q : Exit → Act → World → Prop}
    (hQ : ∀ a w, PostC G F W E0 rd (s 0).nx .normal ((s ops.size).with (2 ^ ops.toList.length - 1)) .normal a w → Q .normal a w) :
    ∀ (fuel : Nat) (listed : Array Bool) (a : Act) (w : World), listed.size = ops.size → listed.toList.count false = fuel → Closed ops (Dn listed) → Inv' ops s G F W E0 (Dn listed) a w → wpAnyIn (fw rd) n P .any ops Q fuel listed a w := by
  have hall : ∀ (listed : Array Bool), listed.size = ops.size → Region.ready .any ops listed = [] → ∀ m q, q < m → q < ops.size → Dn listed q := by
    intro listed hsz hr m
    induction m with
    | zero => intro q h; omega
    | succ m hm =>
      intro q hq hqs
      refine Classical.byContradiction fun hno => ?_
      have ho : ops[q]? = some ops[q] := Array.getElem?_eq_getElem hqs
      have hmem : q ∈ Region.ready .any ops listed := by
        refine mem_ready.2 ⟨?_, _, ho, fun e he hb => ?_⟩
        · unfold Dn at hno
          rw [Array.getD_eq_getD_getElem?, Array.getElem?_eq_getElem (by omega)] at hno ⊢
          simpa using hno
        · have hlt := h0.run.edge q _ e ho he hb
          exact hm e.on (by omega) (by omega)
      rw [hr] at hmem
      cases hmem
  have hend : ∀ (listed : Array Bool) (a : Act) (w : World), listed.size = ops.size → Inv' ops s G F W E0 (Dn listed) a w → Region.ready .any ops listed = [] → Q .normal a w := fun listed a w hsz ⟨E, F', c, h⟩ hr =>
    hQ a w (h.done h0 hrd fun q hq => hall listed hsz hr (q + 1) q (by omega) hq)
  intro fuel
  induction fuel with
  | zero =>
    intro listed a w hsz hcnt hcl hinv
    have hr : Region.ready .any ops listed = [] := by
      refine List.eq_nil_iff_forall_not_mem.2 fun q hq => ?_
      obtain ⟨h1, o, ho, _⟩ := mem_ready.1 hq
      have hqs := (Array.getElem?_eq_some_iff.1 ho).1
      rw [Array.getD_eq_getD_getElem?, Array.getElem?_eq_getElem (by omega)] at h1
      have h2 : false ∈ listed.toList := by
        rw [← (show listed[q] = false from h1)]
        exact Array.getElem_mem_toList _
      have := List.count_pos_iff.2 h2
      omega
    exact ⟨hr, hend listed a w hsz hinv hr⟩
  | succ fuel hf =>
    intro listed a w hsz hcnt hcl hinv
    refine ⟨hend listed a w hsz hinv, fun i hi => ?_⟩
    obtain ⟨h1, o, ho, h2⟩ := mem_ready.1 hi
    have his := (Array.getElem?_eq_some_iff.1 ho).1
    have hget : listed[i]? = some false := by
      rw [Array.getD_eq_getD_getElem?, Array.getElem?_eq_getElem (by omega)] at h1
      rw [Array.getElem?_eq_getElem (by omega)]
      exact congrArg some h1
    have hno : ¬ Dn listed i := fun hd => by
      unfold Dn at hd
      rw [Array.getD_eq_getD_getElem?, hget] at hd
      cases hd
    obtain ⟨E, F', c, hinv⟩ := hinv
    unfold wpOpIn
    rw [ho]
    refine hinv.step hH h0 hih hrd n ⟨hcl, ho, hno, h2⟩ fun a' w' h' => hf _ a' w' (by simpa using hsz) ?_ ?_ ?_
    · have := count_set (l := listed.toList) (i := i) (by simpa using hget)
      rw [Array.toList_setIfInBounds]
      omega
    · rw [Dn_set (by omega)]
      rintro q oq hoq (hq | rfl) e he hb
      · exact .inl (hcl q oq hoq hq e he hb)
      · rw [ho] at hoq; cases hoq
        exact .inl (h2 e he hb)
    · rw [Dn_set (by omega)]
      exact h'
theorem drawE_ok (hH : HooksOk P G H) {ih : Run} (hih : Snd P G ih) (hm : P.follows .mixedOrders = true) {ops : Array Oper} {st st' : St} {e : SExit} (h : drawE H P G ih ops st = some (e, st')) (id : Nat) {rd : Option Nat} (n : Nat) (hst : StR G F W E rd st a w) :
    (Code.region id ops true).wpIn (fw rd) n P (PostC G F W E rd st.S.n e st') a w := by
  unfold drawE at h
  by_cases hreg : regionOk ops = true
  · rw [hreg, cond_true, seqN_eq] at h
    split at h
    · rename_i d hd
      cases h
      obtain ⟨B, s, hr, hs0, hsk⟩ := draw_run hreg hd
      have h0 : Run0 H P G ih ops B s := ⟨hr, by rw [hs0], by rw [hs0], by rw [hs0]; exact Nat.le_add_right _ _⟩
      refine wpIn_region_any hm (drawAny hH (F := F) (W := W) (E0 := E) h0 hih (rd := rd) (by rw [hs0]; exact hst.rd) n (fun a w hp => ?_) ops.size _ a _ (by simp) ?_ ?_ ?_)
      · rw [hs0, hsk] at hp
        exact hp
      · rw [Array.toList_replicate, List.count_replicate_self]
      · intro q o ho hq
        unfold Dn at hq
        rw [Array.getD_eq_getD_getElem?, Array.getElem?_replicate] at hq
        split at hq <;> cases hq
      · have hno : ∀ q, ¬ Dn (Array.replicate ops.size false) q := fun q hq => by
          unfold Dn at hq
          rw [Array.getD_eq_getD_getElem?, Array.getElem?_replicate] at hq
          split at hq <;> cases hq
        have hsat : Sat G F W E (s 0).st.S { w with drawn := w.drawn + 1 } := by
          rw [hs0]
          exact ⟨fun i hi => hst.sat.new i (Nat.le_trans (Nat.le_add_right _ _) hi), hst.sat.glob, hst.sat.obj, hst.sat.inj, hst.sat.own, hst.sat.far, hst.sat.size, hst.sat.os, hst.sat.tape, hst.sat.output⟩
        have hlay := h0.mem
        refine ⟨E, F, 0, Nat.zero_le _, fun q o hq => by omega, fun q o _ _ _ => hno q, hsat, Ext.refl _ _, by rw [hs0]; exact Nat.le_refl _, fun x => ⟨0, Nat.zero_le _, ?_, fun q o _ _ hd => absurd hd (hno q), .inl rfl⟩, ?_, ?_, ⟨fun _ _ h => h, fun l _ hx => absurd hx.1 (hno _), fun l _ l' _ hx => absurd hx.1 (hno _)⟩,
          fun l hl _ => ?_, fun j hj => ?_⟩
        · rw [hs0]; exact hst.tr x
        · rw [hs0]; exact hst.nt
        · rw [hs0]; exact hst.ds
        · refine hst.sat.new _ ?_
          have := (hlay l hl).2.1
          rw [hs0] at this
          exact this
        · rw [h0.inc] at hj
          simp at hj
    · cases h
  · rw [Bool.eq_false_iff.2 hreg] at h; cases h
end
end Go.Proofs.YtbjecfbfcpiilaaGreatDoor

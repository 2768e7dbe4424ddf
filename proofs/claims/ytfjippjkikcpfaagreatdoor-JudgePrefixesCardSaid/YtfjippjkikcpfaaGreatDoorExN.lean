/- The executor: drawn regions: each operation, the whole. -/
import Derived.Test.YtfjippjkikcpfaaGreatDoorExL
namespace Go.Proofs.YtfjippjkikcpfaaGreatDoor
open Go

section
variable {P : Program} {G : Nat} {ih : Run} {ops : Array Oper} {B : Nat → Nat} {s : Nat → DS} {F F' : Nat → Option Obj} {W : World} {E0 E E' : Env} {D : Nat → Prop} {a : Act} {w w' : World} {c : Nat}
/-- What is known of the run. -/
structure Run0 (P : Program) (G : Nat) (ih : Run) (ops : Array Oper) (B : Nat → Nat) (s : Nat → DS) : Prop where
  run : Rn P G ih ops B s
  lays : (s 0).lays = []
  inc : (s 0).inc = 0
  lim : (s 0).nx ≤ (s 0).lim
theorem Run0.mem (h : Run0 P G ih ops B s) : ∀ l ∈ (s ops.size).lays, l.j < ops.size ∧ (s 0).nx ≤ l.id ∧ l.id < (s 0).lim := fun l hl => let ⟨a, b, _, d⟩ := (h.run.lay h.lays (Nat.le_refl _)).1 l hl; ⟨a, b, d⟩
theorem Run0.pair (h : Run0 P G ih ops B s) {j : Nat} (hj : j ≤ ops.size) : (s j).lays.Pairwise (fun a b => a.j ≠ b.j ∧ a.id ≠ b.id) := (h.run.lay h.lays hj).2.1
theorem Run0.noLay (h : Run0 P G ih ops B s) {i : Nat} {o : Oper} (ho : ops[i]? = some o) (hl : (s (i + 1)).lays = (s i).lays) : ∀ l ∈ (s ops.size).lays, l.j ≠ i := fun l hm he => by
  have hi := (Array.getElem?_eq_some_iff.1 ho).1
  have h1 := h.run.layBack (i := i + 1) (by omega) (Nat.le_refl _) l hm (by omega)
  rw [hl] at h1
  have := ((h.run.lay h.lays (by omega : i ≤ ops.size)).1 l h1).1
  omega
theorem Inv.le (h : Inv ops s G F W E0 D a w E F' c) (hE : Ext (s c).st.S.n E E') : E.le E' := h.sat.le hE
theorem Inv.ids (h0 : Run0 P G ih ops B s) (h : Inv ops s G F W E0 D a w E F' c) (hE : Ext (s c).st.S.n E E') : ∀ l ∈ (s ops.size).lays, E' l.id = E l.id := fun l hl => hE _ (Nat.lt_of_lt_of_le (h0.mem l hl).2.2 h.big)
/-- Behind an operation that does nothing to the world. -/
theorem Inv.calm (h0 : Run0 P G ih ops B s) (h : Inv ops s G F W E0 D a w E F' c) {i : Nat} {o : Oper} (hy : Rdy ops D i o) (hlo : ¬ Lo ops s i o) (hl : (s (i + 1)).lays = (s i).lays) {F2 : Nat → Option Obj} (hE : Ext (s c).st.S.n E E')
    (hs : Sat G F2 W E' (s c).st.S w') (ho : Out F F2 E' w' (s ops.size).lays (fun j => D j ∧ (s c).inc.testBit j = false)) {v v' : Value} (hv : VR E' v v') (htr : (s (i + 1)).st.tr = putT (s i).st.tr o.dst v) (hlt : ∀ x, o.dst = some x → x < (s i).st.nt) :
    Inv ops s G F W E0 (fun q => D q ∨ q = i) (a.put o.dst v') w' E' F2 c := by
  have hi := (Array.getElem?_eq_some_iff.1 hy.ho).1
  have hnt := (h0.run.const (by omega : i ≤ ops.size)).1
  refine ⟨h.hc, fun q oq hq hoq hL => .inl (h.lo q oq hq hoq hL), fun q oq hq hoq hL hD => ?_, hs, h.ext.trans hE (Nat.le_trans h0.lim h.big), h.big, h0.run.tmpPut hy h.tmp (h.le hE) hv htr (fun x hx => ?_), ?_, ?_, ?_, fun l hm hn => ?_, fun j hj => .inl (h.inc j hj)⟩
  · rcases hD with hD | rfl
    · exact h.hi q oq hq hoq hL hD
    · rw [hy.ho] at hoq; cases hoq
      exact hlo hL
  · rw [h.size, ← hnt]; exact hlt x hx
  · rw [put_size]; exact h.size
  · rw [put_defers]; exact h.ds.mono fun _ _ hd => hd.mono (h.le hE)
  · refine ho.mono fun l hm hx => ⟨hx.1.resolve_right (h0.noLay hy.ho hl l hm), hx.2⟩
  · rw [h.ids h0 hE l hm]
    exact h.new l hm fun hD => hn (.inl hD)
theorem Sat.layOut {S : SW} (h : Sat G F' W E S w) {id : Nat} (hid : id < S.n) (hn : E id = none) (obj : Obj) (e : Ent) : Sat G (fun b => if b = w.heap.size then some obj else F' b) W (E.put id e) S (w.alloc obj) := by
  have hle : E.le (E.put id e) := Env.put_le hn _
  have hold : ∀ k, k < w.heap.size → (w.alloc obj).heap[k]? = w.heap[k]? := fun k hk => by
    show (w.heap.push obj)[k]? = _
    rw [Array.getElem?_push, if_neg (by omega)]
  have key : ∀ i o, S.h.get i = some o → ∃ e1, E i = some e1 ∧ E.put id e i = some e1 ∧ ObjR E w e1 o := fun i o hi => let ⟨e1, he, ho⟩ := h.obj i o hi; ⟨e1, he, hle _ _ he, ho⟩
  refine ⟨fun i hi => ?_, fun g hg => ?_, fun i o hi => ?_, fun i j o o' e1 e2 hi hj h1 h2 => ?_, fun i o e1 hi h1 => ?_, fun k o hk => ?_, ?_, h.os, h.tape, h.output⟩
  · unfold Env.put
    rw [if_neg (by omega)]
    exact h.new i hi
  · obtain ⟨e1, he, h1, h2⟩ := h.glob g hg
    exact ⟨e1, hle _ _ he, h1, h2⟩
  · obtain ⟨e1, he, he', ho⟩ := key i o hi
    exact ⟨e1, he', ho.mono hle (hold _ ho.lt)⟩
  · obtain ⟨f1, k1, k2, _⟩ := key i o hi
    obtain ⟨f2, k3, k4, _⟩ := key j o' hj
    rw [k2] at h1; cases h1
    rw [k4] at h2; cases h2
    exact h.inj i j o o' _ _ hi hj k1 k3
  · obtain ⟨f1, k1, k2, k3⟩ := key i o hi
    rw [k2] at h1; cases h1
    have := k3.lt
    simp only [show e1.b ≠ w.heap.size by omega, if_false]
    exact h.own i o _ hi k1
  · by_cases hb : k = w.heap.size
    · subst hb
      simp only [if_true] at hk
      cases hk
      show (w.heap.push obj)[w.heap.size]? = _
      simp
    · simp only [if_neg hb] at hk
      have h1 := h.far k o hk
      rw [hold k (Array.getElem?_eq_some_iff.1 h1).1]
      exact h1
  · show W.heap.size ≤ (w.heap.push obj).size
    have := h.size
    simp
    omega
/-- Behind an operation that lays. -/
theorem Inv.laid (h0 : Run0 P G ih ops B s) (h : Inv ops s G F W E0 D a w E F' c) {i : Nat} {o : Oper} (hy : Rdy ops D i o) (hlo : ¬ Lo ops s i o) {so : SObj} (hl : (s (i + 1)).lays = ⟨i, (s i).nx, so⟩ :: (s i).lays) {v : Value} {obj : Obj} {k : Nat} {mk : Nat → Value}
    (h2 : ∀ (E' : Env) b, E' (s i).nx = some ⟨b, 0, k⟩ → VR E' v (mk b)) (h3 : ∀ (E' : Env) w b, E.le E' → w.heap[b]? = some obj → ObjR E' w ⟨b, 0, k⟩ so) (htr : (s (i + 1)).st.tr = putT (s i).st.tr o.dst v) (hlt : ∀ x, o.dst = some x → x < (s i).st.nt) :
    ∃ E' F2, Inv ops s G F W E0 (fun q => D q ∨ q = i) (a.put o.dst (mk w.heap.size)) (w.alloc obj) E' F2 c := by
  have hi := (Array.getElem?_eq_some_iff.1 hy.ho).1
  have hnt := (h0.run.const (by omega : i ≤ ops.size)).1
  have hmem : (⟨i, (s i).nx, so⟩ : Lay) ∈ (s ops.size).lays := h0.run.laysMono (i := i + 1) (by omega) (Nat.le_refl _) _ (by rw [hl]; exact List.mem_cons_self)
  obtain ⟨_, hid1, hid2⟩ := h0.mem _ hmem
  have hid2' : (s i).nx < (s c).st.S.n := Nat.lt_of_lt_of_le hid2 h.big
  have hnone : E (s i).nx = none := h.new _ hmem hy.no
  have hle : E.le (E.put (s i).nx ⟨w.heap.size, 0, k⟩) := Env.put_le hnone _
  have hput : E.put (s i).nx ⟨w.heap.size, 0, k⟩ (s i).nx = some ⟨w.heap.size, 0, k⟩ := Env.put_same _ _ _
  have hoth : ∀ l ∈ (s ops.size).lays, l.j ≠ i → E.put (s i).nx ⟨w.heap.size, 0, k⟩ l.id = E l.id := fun l hm hne => by
    unfold Env.put
    rw [if_neg fun e => hne (congrArg Lay.j (pair_uniq (h0.pair (Nat.le_refl _)) l hm _ hmem (.inr e)))]
  have hthis : ∀ l ∈ (s ops.size).lays, l.j = i → l = ⟨i, (s i).nx, so⟩ := fun l hm he => pair_uniq (h0.pair (Nat.le_refl _)) l hm _ hmem (.inl he)
  have hnew : (w.alloc obj).heap[w.heap.size]? = some obj := World.alloc_heap_new w obj
  have hfree : F w.heap.size = none := by
    cases hf : F w.heap.size with
    | none => rfl
    | some x =>
      have := h.out.sub _ _ hf
      rw [h.sat.free_new] at this
      cases this
  have hs2 := h.sat.layOut hid2' hnone obj ⟨w.heap.size, 0, k⟩
  refine ⟨_, _, h.hc, fun q oq hq hoq hL => .inl (h.lo q oq hq hoq hL), fun q oq hq hoq hL hD => ?_, hs2, h.ext.trans (m := (s 0).nx) (fun x hx => ?_) (Nat.le_refl _), h.big, h0.run.tmpPut hy h.tmp hle (h2 _ _ hput) htr (fun x hx => ?_), ?_, ?_, ?_, fun l hm hn => ?_, fun j hj => .inl (h.inc j hj)⟩
  · rcases hD with hD | rfl
    · exact h.hi q oq hq hoq hL hD
    · rw [hy.ho] at hoq; cases hoq
      exact hlo hL
  · unfold Env.put
    rw [if_neg (by have : x < (s i).nx := Nat.lt_of_lt_of_le hx hid1; omega)]
  · rw [h.size, ← hnt]; exact hlt x hx
  · rw [put_size]; exact h.size
  · rw [put_defers]; exact h.ds.mono fun _ _ hd => hd.mono hle
  · refine ⟨fun b x hx => ?_, fun l hm hx => ?_, fun l hm l' hm' hx hx' e e' he he' hb => ?_⟩
    · have hlt := (Array.getElem?_eq_some_iff.1 (h.sat.far _ _ (h.out.sub b x hx))).1
      simp only [show b ≠ w.heap.size by omega, if_false]
      exact h.out.sub b x hx
    · by_cases hj : l.j = i
      · have := hthis l hm hj
        subst this
        exact ⟨_, hput, h3 _ _ _ hle hnew, by simp, hfree⟩
      · obtain ⟨e, he, hobj, hf, hn⟩ := h.out.out l hm ⟨hx.1.resolve_right hj, hx.2⟩
        have hlt := hobj.lt
        refine ⟨e, by rw [hoth l hm hj]; exact he, hobj.mono hle ?_, ?_, hn⟩
        · show (w.heap.push obj)[e.b]? = _
          rw [Array.getElem?_push, if_neg (by omega)]
        · simp only [show e.b ≠ w.heap.size by omega, if_false]
          exact hf
    · by_cases hj : l.j = i
      · by_cases hj' : l'.j = i
        · rw [hj, hj']
        · obtain ⟨e1, he1, hobj, _⟩ := h.out.out l' hm' ⟨hx'.1.resolve_right hj', hx'.2⟩
          rw [hoth l' hm' hj', he1] at he'; cases he'
          rw [hthis l hm hj, hput] at he; cases he
          have := hobj.lt
          simp only at hb
          omega
      · obtain ⟨e1, he1, hobj, _⟩ := h.out.out l hm ⟨hx.1.resolve_right hj, hx.2⟩
        rw [hoth l hm hj] at he
        by_cases hj' : l'.j = i
        · rw [he1] at he; cases he
          rw [hthis l' hm' hj', hput] at he'; cases he'
          have := hobj.lt
          simp only at hb
          omega
        · rw [hoth l' hm' hj'] at he'
          exact h.out.inj l hm l' hm' ⟨hx.1.resolve_right hj, hx.2⟩ ⟨hx'.1.resolve_right hj', hx'.2⟩ e e' he he' hb
  · rw [hoth l hm fun e => hn (.inr e)]
    exact h.new l hm fun hD => hn (.inl hD)
theorem notDefer {o : Oper} (hk : kindO o.op ≠ .loud) : isDefer o.op = false := by
  cases ho : o.op <;> first | rfl | (rw [ho] at hk; exact absurd rfl hk)
/-- What a look sees now. -/
theorem Inv.seen (h0 : Run0 P G ih ops B s) (h : Inv ops s G F W E0 D a w E F' c) {i : Nat} {o : Oper} (hy : Rdy ops D i o) (hlo : ¬ Lo ops s i o) {v : Value} (hs : lookAt P G (s i).lays ⟨i, o, B i, looksT ops o⟩ (s i).st.tr (s i).now = some v)
    (hb : backOk P G (s i).lays ⟨⟨i, o, B i, looksT ops o⟩, (s i).st.tr, v⟩ (s i).hist = true) (hlk : ⟨⟨i, o, B i, looksT ops o⟩, (s i).st.tr, v⟩ ∈ (s (i + 1)).looks) (heq : ∀ u, valEq PD u v = true → u = v) :
    ∃ q, q ≤ ops.size ∧ lookAt P G (s q).lays ⟨i, o, B i, looksT ops o⟩ (s i).st.tr (s c).now = some v := by
  have hi := (Array.getElem?_eq_some_iff.1 hy.ho).1
  have hsee : ∀ lays g, sees P G lays ⟨⟨i, o, B i, looksT ops o⟩, (s i).st.tr, v⟩ g = true → lookAt P G lays ⟨i, o, B i, looksT ops o⟩ (s i).st.tr g = some v := fun lays g hg => by
    unfold sees at hg
    split at hg
    · rename_i u hu
      rw [hu, heq u hg]
    · cases hg
  by_cases hci : c ≤ i
  · refine ⟨i, by omega, ?_⟩
    have hbk := (h0.run.back (by omega) hb (i - c) c (by omega) fun q oq hq1 hq2 hoq hL => Bool.eq_false_iff.2 fun hbit => h.hi q oq hq1 hoq hL (h0.run.rdy hy hbit)).1
    rcases hbk with h1 | h1
    · rw [h1]; exact hs
    · exact hsee _ _ h1
  · have key := h0.run.go (i := i + 1) (fun m => m ≤ c → (s m).now = (s i).now ∨ ∃ q, q ≤ ops.size ∧ sees P G (s q).lays ⟨⟨i, o, B i, looksT ops o⟩, (s i).st.tr, v⟩ (s m).now = true) (fun _ => .inl ?_) (fun q oq hq hoq hst h1 hqc => ?_) c (by omega) h.hc (Nat.le_refl _)
    · rcases key with h1 | ⟨q, hq, h1⟩
      · exact ⟨i, by omega, by rw [h1]; exact hs⟩
      · exact ⟨q, hq, hsee _ _ h1⟩
    · obtain ⟨k1, _, k3, _⟩ := h0.run.calm (i := i) (j := i + 1) (by omega) (by omega) fun q oq hq1 hq2 hoq hL => by
        have : q = i := by omega
        subst this
        rw [hy.ho] at hoq; cases hoq
        exact hlo hL
      unfold DS.now
      rw [k1, k3]
    · by_cases hL : Lo ops s q oq
      · have hD := h.lo q oq (by omega) hoq hL
        have hnb := h0.run.notBit hy hoq hD
        cases hst with
        | skip hw => have := hL.1; rw [hw] at this; cases this
        | free v S' hw hk => have := hL.2; rw [hk] at this; cases this
        | look v hw hk => have := hL.2; rw [hk] at this; cases this
        | lay v obj hw hk => have := hL.2; rw [hk] at this; cases this
        | loud st' hw hk hh hs' hl' he =>
          have := (allL_iff _ _).1 hl' _ (h0.run.looksMono (i := i + 1) (j := q) hq (by have := (Array.getElem?_eq_some_iff.1 hoq).1; omega) _ hlk)
          rw [Bool.or_eq_true] at this
          rcases this with h2 | h2
          · exact absurd h2 hnb
          · refine .inr ⟨q, by have := (Array.getElem?_eq_some_iff.1 hoq).1; omega, ?_⟩
            rw [he]
            exact h2
      · obtain ⟨k1, _, k3, _⟩ := hst.calm hL
        have hnow : (s (q + 1)).now = (s q).now := by unfold DS.now; rw [k1, k3]
        rw [hnow]
        exact h1 (by omega)
end
end Go.Proofs.YtfjippjkikcpfaaGreatDoor

/- A line of a text is read as its instruction; looking through code that is all ends; in plain Lean. (Of UnlI, for a seat that has no reading of bytes.) -/
import Derived.Test.YtefijgdbnjmifaaDoorUnlE
import Derived.Test.YtefijgdbnjmifaaDoorReadE
namespace Go.Proofs.YtefijgdbnjmifaaDoor
open Go.RowKit

/-- An instruction that is right, its fields. -/
structure Fld (x : InsV) (n : Int) : Prop where
  op : x.op < 256
  hr : rightI x.ins n = true
  hn : n ≤ 8192
  i0 : -9223372036854775808 ≤ x.int
  i1 : x.int ≤ 9223372036854775807
  ts : x.text.size < 18446744073709551616
theorem right_i0 {x : InsV} {n : Int} (h : rightI x.ins n = true) (hn : numK x.op = false) : x.int = 0 := by
  have e : numK x.ins.op = false := hn
  simp only [rightI, e, Bool.false_or, Bool.and_eq_true, decide_eq_true_eq] at h
  exact h.1.1.1.2
theorem right_a0 {x : InsV} {n : Int} (h : rightI x.ins n = true) (ha : aK x.op = 0) : x.a = 0 := by
  have h1 := rightI_a h
  have e : topK x.ins.op n = 1 := by
    have ha' : aK x.ins.op = 0 := ha
    unfold topK; rw [ha']; rfl
  rw [e] at h1
  have : x.ins.a = x.a := rfl
  omega
theorem right_text {x : InsV} {n : Int} (h : rightI x.ins n = true) (ht : textK x.op = 0) : x.text = ⟨#[]⟩ := by
  simp only [rightI, Bool.and_eq_true] at h
  have h1 := h.2
  unfold textOk at h1
  have ht' : textK x.ins.op = 0 := ht
  rw [ht', if_neg (by omega), if_neg (by omega)] at h1
  have h2 : x.text.data.toList = [] := by simpa [InsV.ins] using h1
  have h3 : x.text.data = #[] := by simpa using h2
  cases hx : x.text with
  | mk d => rw [hx] at h3; exact congrArg ByteArray.mk h3
section
variable {x : InsV} {n : Int}
theorem Fld.a (h : Fld x n) : 0 ≤ x.a ∧ x.a ≤ 8192 := right_nn h.hr h.hn
end
theorem trim_head (p r : List UInt8) : Lib.trimPrefix (p ++ r) p = r := by
  have h : Lib.hasPrefix (p ++ r) p = true := by
    show p.isPrefixOf (p ++ r) = true
    rw [List.isPrefixOf_iff_prefix]
    exact List.prefix_append _ _
  rw [Lib.trimPrefix, if_pos h]
  simp
/-- The digits of a number. -/
theorem dd_chars (n : Nat) : ∀ c, c ∈ Lib.decDigits n → 48 ≤ c.toNat ∧ c.toNat ≤ 57 := fun c hc => by
  have := List.all_eq_true.1 (dd_all n) c hc
  simpa [digB] using this
theorem itoa_chars (a : Int) : ∀ c, c ∈ Lib.itoa a → 45 ≤ c.toNat ∧ c.toNat ≤ 57 := fun c hc => by
  unfold Lib.itoa at hc
  split at hc
  · rcases List.mem_cons.1 hc with rfl | h
    · exact ⟨by decide, by decide⟩
    · have := dd_chars _ c h; omega
  · have := dd_chars _ c hc; omega
theorem itoa_no (a : Int) {c : UInt8} (hc : c.toNat < 45) : c ∉ Lib.itoa a := fun h => by
  have := itoa_chars a c h; omega
theorem words_low : (List.range 64).all (fun op => (wordsL.getD op []).all fun c => decide (97 ≤ c.toNat)) = true := by decide +kernel
theorem isK_lt {op : Nat} (h : isK op = true) : op < 64 := by
  simp only [isK, Bool.or_eq_true, Bool.and_eq_true, decide_eq_true_eq] at h; omega
theorem word_no {op : Nat} (h : op < 64) {c : UInt8} (hc : c.toNat < 97) : c ∉ (wordK op).data.toList := fun hm => by
  have h1 := List.all_eq_true.1 words_low op (List.mem_range.2 h)
  have h2 := List.all_eq_true.1 h1 c (by simpa [wordK] using hm)
  simp only [decide_eq_true_eq] at h2
  omega
theorem words_apart : (List.range 64).all (fun op => !isK op || (!(wordsL.getD op []).isEmpty && (List.range op).all fun j => !(wordsL.getD j [] == wordsL.getD op []))) = true := by decide +kernel
theorem word_back {op : Nat} (h : isK op = true) : opS (sp (wordK op).data.toList) = op := by
  have hl := isK_lt h
  have h1 := List.all_eq_true.1 words_apart op (List.mem_range.2 hl)
  rw [h, Bool.not_true, Bool.false_or, Bool.and_eq_true] at h1
  have e : sp (wordK op).data.toList = wordK op := by simp [sp, wordK]
  rw [e]
  refine opS_at ?_ hl rfl fun j hj c => ?_
  · intro h0
    have : (wordsL.getD op []).length = 0 := by simpa [wordK, ByteArray.size] using h0
    have h2 := h1.1
    rw [List.eq_nil_of_length_eq_zero this] at h2
    exact absurd h2 (by decide)
  · have h2 := List.all_eq_true.1 h1.2 j (List.mem_range.2 hj)
    have : wordsL.getD j [] = wordsL.getD op [] := by
      have := congrArg (fun b : ByteArray => b.data.toList) c
      simpa [wordK] using this
    rw [this] at h2
    simp at h2
theorem hexN_hexC : ∀ k : Fin 16, hexN (hexC k.val) = k.val := by decide +kernel
theorem hexN_C {k : Nat} (h : k < 16) : hexN (hexC k) = k := hexN_hexC ⟨k, h⟩
theorem unq_back : ∀ t : List UInt8, unqL (t.flatMap qByte ++ [34]) = t
  | [] => unqL_end (by simp)
  | c :: t => by
    have ih := unq_back t
    rw [List.flatMap_cons, List.append_assoc]
    have hlt := c.toNat_lt
    cases h : odd c with
    | false =>
      rw [qByte_even h]
      have he : escL ([c] ++ (t.flatMap qByte ++ [34])) = false := by
        unfold escL
        have : ¬ ([c] ++ (t.flatMap qByte ++ [34])).getD 0 0 = 92 := by
          show ¬ c = 92
          rintro rfl
          exact absurd h (by decide)
        rw [decide_eq_false this]; rfl
      rw [unqL_one (by simp) he]
      show c :: unqL (t.flatMap qByte ++ [34]) = _
      rw [ih]
    | true =>
      rw [qByte_odd h]
      have g2 : ([92, 120, hexC (c.toNat / 16), hexC (c.toNat % 16)] ++ (t.flatMap qByte ++ [34])).getD 2 0 = hexC (c.toNat / 16) := rfl
      have g3 : ([92, 120, hexC (c.toNat / 16), hexC (c.toNat % 16)] ++ (t.flatMap qByte ++ [34])).getD 3 0 = hexC (c.toNat % 16) := rfl
      have e2 := hexN_C (show c.toNat / 16 < 16 by omega)
      have e3 := hexN_C (show c.toNat % 16 < 16 by omega)
      have he : escL ([92, 120, hexC (c.toNat / 16), hexC (c.toNat % 16)] ++ (t.flatMap qByte ++ [34])) = true := by
        unfold escL
        rw [g2, g3, e2, e3, decide_eq_true (p := c.toNat / 16 < 16) (by omega), decide_eq_true (p := c.toNat % 16 < 16) (by omega)]
        simp
      have hv : escV ([92, 120, hexC (c.toNat / 16), hexC (c.toNat % 16)] ++ (t.flatMap qByte ++ [34])) = c := by
        unfold escV
        rw [g2, g3, e2, e3, show 16 * (c.toNat / 16) + c.toNat % 16 = c.toNat by omega]
        simp
      rw [unqL_esc (by simp) he, hv]
      show c :: unqL (t.flatMap qByte ++ [34]) = _
      rw [ih]
theorem unqS_back (t : List UInt8) : unqS (quotedS t) = t := unq_back t
theorem hexC_no : ∀ k : Fin 16, hexC k.val ≠ 10 := by decide +kernel
theorem qByte_no (c : UInt8) : (10 : UInt8) ∉ qByte c := fun hm => by
  have hlt := c.toNat_lt
  cases h : odd c with
  | false =>
    rw [qByte_even h] at hm
    have : c = 10 := (List.mem_singleton.1 hm).symm
    subst this
    exact absurd h (by decide)
  | true =>
    rw [qByte_odd h] at hm
    simp only [List.mem_cons, List.not_mem_nil, or_false] at hm
    rcases hm with h1 | h1 | h1 | h1
    · exact absurd h1 (by decide)
    · exact absurd h1 (by decide)
    · exact hexC_no ⟨c.toNat / 16, by omega⟩ h1.symm
    · exact hexC_no ⟨c.toNat % 16, by omega⟩ h1.symm
theorem quoted_no (t : List UInt8) : (10 : UInt8) ∉ quotedS t := fun hm => by
  unfold quotedS at hm
  rcases List.mem_cons.1 hm with h | h
  · exact absurd h (by decide)
  · rcases List.mem_append.1 h with h | h
    · obtain ⟨c, _, h2⟩ := List.mem_flatMap.1 h
      exact qByte_no c h2
    · exact absurd (List.mem_singleton.1 h) (by decide)
theorem name_no {l : List UInt8} (h : nameB l = true) {c : UInt8} (hc : c.toNat < 48) : c ∉ l := fun hm => by
  rw [name_def] at h
  simp only [Bool.and_eq_true] at h
  have h1 := List.all_eq_true.1 h.2 c hm
  simp only [okC, Bool.or_eq_true, Bool.and_eq_true, decide_eq_true_eq] at h1
  omega
theorem right_isK {x : InsV} {n : Int} (h : rightI x.ins n = true) : isK x.op = true := by
  simp only [rightI, Bool.and_eq_true] at h
  exact h.1.1.1.1
theorem right_name {x : InsV} {n : Int} (h : rightI x.ins n = true) (ht : textK x.op = 2) : nameB x.text.data.toList = true := by
  simp only [rightI, Bool.and_eq_true] at h
  have h1 := h.2
  unfold textOk at h1
  have ht' : textK x.ins.op = 2 := ht
  rw [ht', if_neg (by omega), if_pos rfl] at h1
  exact h1
/-- An instruction's fields in its line. -/
def fieldsTx (x : InsV) : List UInt8 := iTx x.op x.int ++ tTx x.op x.text
theorem num_op {op : Nat} (h : numK op = true) : aK op = 0 := by
  have : op = 23 := by simpa [numK] using h
  subst this; rfl
section
variable {x : InsV} {n : Int}
theorem Fld.fields (h : Fld x n) : intL x.op (fieldsTx x).tail = x.int ∧ textL x.op (fieldsTx x).tail = x.text := by
  cases hn : numK x.op with
  | true =>
    have ht := num_text hn
    have e : (fieldsTx x).tail = Lib.itoa x.int := by unfold fieldsTx; rw [iTx_is hn, tTx_no ht]; simp
    rw [e, intL_is hn, textL_no ht, (itoa_read _ h.i0 h.i1).1, right_text h.hr ht]
    exact ⟨rfl, rfl⟩
  | false =>
    rw [intL_no hn, right_i0 h.hr hn]
    refine ⟨rfl, ?_⟩
    rcases textK_cases x.op with ht | ht | ht
    · rw [textL_no ht, right_text h.hr ht]
    · have e : (fieldsTx x).tail = quotedS x.text.data.toList := by unfold fieldsTx; rw [iTx_no hn, tTx_any ht]; rfl
      rw [e, textL_any ht, unqS_back]; simp [sp]
    · have e : (fieldsTx x).tail = x.text.data.toList := by unfold fieldsTx; rw [iTx_no hn, tTx_name ht]; rfl
      rw [e, textL_name ht]; simp [sp]
/-- The fields begin with a space, or there are none. -/
theorem fields_head (x : InsV) : fieldsTx x = [] ∨ fieldsTx x = 32 :: (fieldsTx x).tail := by
  unfold fieldsTx
  cases hn : numK x.op with
  | true => right; rw [iTx_is hn]; rfl
  | false =>
    rw [iTx_no hn]
    rcases textK_cases x.op with ht | ht | ht
    · left; rw [tTx_no ht]; rfl
    · right; rw [tTx_any ht]; rfl
    · right; rw [tTx_name ht]; rfl
theorem cut_head {a f : List UInt8} (ha : (32 : UInt8) ∉ a) (hf : f = [] ∨ f = 32 :: f.tail) : (cutL (a ++ f) 32).1 = a ∧ (cutL (a ++ f) 32).2.1 = f.tail := by
  rw [cutL_eq]
  rcases hf with h | h
  · rw [h, List.append_nil, cutR_no a ha]; exact ⟨rfl, rfl⟩
  · rw [h, cutR_at _ a ha]; exact ⟨rfl, rfl⟩
/-- A line is read as its instruction. -/
theorem parse_back (h : Fld x n) (k : Nat) : parseS k (lineS k x) = (x, true) := by
  have hk := right_isK h.hr
  have hl := isK_lt hk
  obtain ⟨F, hF⟩ : ∃ F, F = aTx x.op x.a ++ fieldsTx x := ⟨_, rfl⟩
  have e : lineS k x = headL k ++ ((wordK x.op).data.toList ++ F) := by
    rw [hF]; unfold lineS headTx headL fieldsTx; simp
  have hFh : F = [] ∨ F = 32 :: F.tail := by
    by_cases ha : aK x.op = 0
    · rw [aTx_no ha, List.nil_append] at hF
      rw [hF]; exact fields_head x
    · right; rw [hF, aTx_is ha]; rfl
  have hc := cut_head (word_no hl (c := 32) (by decide)) hFh
  have hw : wordL k (lineS k x) = (wordK x.op).data.toList := by unfold wordL; rw [e, trim_head]; exact hc.1
  have hr : restL k (lineS k x) = F.tail := by unfold restL; rw [e, trim_head]; exact hc.2
  have ho : opS (sp (wordL k (lineS k x))) = x.op := by rw [hw]; exact word_back hk
  have hb : failL x.op F.tail = false ∧ aL x.op F.tail = x.a ∧ behindL x.op F.tail = (fieldsTx x).tail := by
    by_cases ha : aK x.op = 0
    · rw [aTx_no ha, List.nil_append] at hF
      exact ⟨failL_no ha, by rw [aL_no ha, right_a0 h.hr ha], by rw [behindL_no ha, hF]⟩
    · have ht : F.tail = Lib.itoa x.a ++ fieldsTx x := by rw [hF, aTx_is ha]; rfl
      have hA := h.a
      have hi := itoa_read x.a (by omega) (by omega)
      have hc2 := cut_head (itoa_no x.a (c := 32) (by decide)) (fields_head x)
      rw [ht]
      refine ⟨failL_ok (by rw [hc2.1]; exact hi.2) (by rw [hc2.1, hi.1]; omega), by rw [aL_is ha, hc2.1]; exact hi.1, by rw [behindL_is ha, hc2.2]⟩
  have hf : fullL x.op F.tail = x := by
    unfold fullL
    rw [hb.2.1, hb.2.2, h.fields.1, h.fields.2]
  unfold parseS
  rw [ho, hr, parseO_ok hb.1, hf, hk, decide_eq_true rfl]
  rfl
theorem line_no (h : Fld x n) (k : Nat) : (10 : UInt8) ∉ lineS k x := fun hm => by
  have hl := isK_lt (right_isK h.hr)
  unfold lineS headTx at hm
  simp only [List.mem_append, List.mem_cons] at hm
  rcases hm with ((((h1 | h1 | h1) | h1) | h1) | h1)
  · exact itoa_no _ (by decide) h1
  · exact absurd h1 (by decide)
  · exact word_no hl (by decide) h1
  · by_cases ha : aK x.op = 0
    · rw [aTx_no ha] at h1; exact absurd h1 (by simp)
    · rw [aTx_is ha] at h1
      rcases List.mem_cons.1 h1 with h1 | h1
      · exact absurd h1 (by decide)
      · exact itoa_no _ (by decide) h1
  · cases hn : numK x.op with
    | false => rw [iTx_no hn] at h1; exact absurd h1 (by simp)
    | true =>
      rw [iTx_is hn] at h1
      rcases List.mem_cons.1 h1 with h1 | h1
      · exact absurd h1 (by decide)
      · exact itoa_no _ (by decide) h1
  · rcases textK_cases x.op with ht | ht | ht
    · rw [tTx_no ht] at h1; exact absurd h1 (by simp)
    · rw [tTx_any ht] at h1
      rcases List.mem_cons.1 h1 with h1 | h1
      · exact absurd h1 (by decide)
      · exact quoted_no _ h1
    · rw [tTx_name ht] at h1
      rcases List.mem_cons.1 h1 with h1 | h1
      · exact absurd h1 (by decide)
      · exact name_no (right_name h.hr ht) (by decide) h1
theorem Fld.apart (h : Fld x n) : apartS x = true := by
  have hr := h.hr
  unfold apartS
  simp only [rightI, Bool.and_eq_true, decide_eq_true_eq] at hr ⊢
  obtain ⟨⟨⟨⟨h1, h2⟩, h3⟩, h4⟩, h5⟩ := hr
  have h3' : 0 ≤ x.a := h3
  have h4' : x.a < topK x.op n := h4
  refine ⟨⟨⟨⟨h1, h2⟩, ?_⟩, ?_⟩, h5⟩
  · show 0 ≤ if aK x.op = 1 then 0 else x.a
    split <;> omega
  · show (if aK x.op = 1 then 0 else x.a) < topK x.op 1
    unfold topK at h4' ⊢
    by_cases ha : aK x.op = 1
    · rw [if_pos ha, if_pos ha]; omega
    · rw [if_neg ha] at h4'; rw [if_neg ha, if_neg ha]; exact h4'
end
/-- The lines of more code, from a place on. -/
def linesFrom : Nat → List InsV → List UInt8
  | _, [] => []
  | k, x :: d => lineS k x ++ 10 :: linesFrom (k + 1) d
theorem unlTo_back (m : Int) : ∀ (d c : List InsV) (k : Nat), (linesFrom c.length d).length ≤ k → c.length + d.length ≤ 8192 → (∀ x, x ∈ d → Fld x m) → unlTo k c (linesFrom c.length d) = unlEnd (c ++ d)
  | [], c, k, _, _, _ => by rw [linesFrom, unlTo_nil rfl, List.append_nil]
  | x :: d, c, k, hk, hc, hf => by
    have hx := hf x (by simp)
    obtain ⟨l, hl⟩ : ∃ l, l = linesFrom c.length (x :: d) := ⟨_, rfl⟩
    have e : l = lineS c.length x ++ 10 :: linesFrom (c.length + 1) d := by rw [hl]; rfl
    have hcut : cutL l 10 = (lineS c.length x, linesFrom (c.length + 1) d, true) := by rw [e, cutL_eq, cutR_at _ _ (line_no hx _)]
    have hpos : 0 < l.length := by rw [e, List.length_append, List.length_cons]; omega
    have hok : lineOk c.length l = true := by unfold lineOk; rw [hcut, parse_back hx, hx.apart]; rfl
    have hlen := congrArg List.length e
    simp only [List.length_append, List.length_cons] at hlen
    rw [← hl] at hk ⊢
    simp only [List.length_cons] at hc
    cases k with
    | zero => omega
    | succ k =>
      unfold unlTo
      rw [if_neg (by omega), if_neg (by omega), if_pos hok, hcut, parse_back hx]
      have ih := unlTo_back m d (c ++ [x]) k (by rw [List.length_append, List.length_singleton]; omega) (by rw [List.length_append, List.length_singleton]; omega) (fun y hy => hf y (by simp [hy]))
      rw [List.length_append, List.length_singleton] at ih
      show unlTo k (c ++ [x]) (linesFrom (c.length + 1) d) = _
      have e3 : c ++ [x] ++ d = c ++ x :: d := by simp
      rw [← e3]
      exact ih
/-- An instruction that ends. -/
def endV : InsV := ⟨28, 0, 0, ⟨#[]⟩⟩
def endI : Ins := ⟨28, 0, 0, []⟩
theorem ends_at (n i : Nat) (h : i < n) : atI (List.replicate n endI) i = endI := by
  unfold atI; rw [List.getD_eq_getElem?_getD, List.getElem?_eq_getElem (by simpa using h)]; simp
theorem endI_right (n : Int) : rightI endI n = true := by
  have h : topK 28 n = 1 := by unfold topK; rfl
  unfold rightI endI
  simp only [h]
  rfl
theorem ends_fits (n : Nat) (hn : 0 < n) : fitsS (List.replicate n endI) = (d0S n, -1) := by
  obtain ⟨m, rfl⟩ : ∃ m, n = m + 1 := ⟨n - 1, by omega⟩
  have hd : (d0S (m + 1)).length = m + 1 := by simp [d0S]
  have hg : (g0S (m + 1)).length = m + 1 := by simp [g0S]
  unfold fitsS
  rw [List.length_replicate]
  have hl : leastB (d0S (m + 1)) (g0S (m + 1)) = some 0 := least_some.2 ⟨by omega, by unfold pendB; rw [dAt_d0 _ _ (by omega), gAt_g0 _ _ (by omega)]; rfl, fun i hi => absurd hi (by omega)⟩
  have ht : throughS (atI (List.replicate (m + 1) endI) 0) (d0S (m + 1)) 0 = (d0S (m + 1), true) := by
    rw [ends_at _ _ (by omega), through_ends (by rfl), dAt_d0 _ _ (by omega)]; rfl
  simp only [goS, hl, ht]
  rw [if_pos trivial]
  have hn : leastB (d0S (m + 1)) ((g0S (m + 1)).set 0 true) = none := least_none.2 fun i hi => by
    unfold pendB
    rw [gAt_set _ _ _ (by omega), dAt_d0 _ _ (by omega)]
    by_cases e : i = 0
    · rw [if_pos e, if_pos e]; rfl
    · rw [if_neg e]; rfl
  cases m with
  | zero => rfl
  | succ m => simp only [goS, hn]
theorem ends_look (n : Nat) (hn : 0 < n) (h8 : n ≤ 8192) (p : Int) (h0 : 0 ≤ p) (h1 : p ≤ 100) : (lookS (List.replicate n endI) p).wrong = 0 ∧ (lookS (List.replicate n endI) p).e = 0 := by
  have hb : badAt (List.replicate n endI) = none := by
    unfold badAt
    rw [List.find?_range_eq_none]
    intro i hi
    rw [List.length_replicate] at hi
    rw [ends_at n i hi, endI_right]; rfl
  have hc : circAt (List.replicate n endI) (d0S n) = -1 := by
    unfold circAt
    have : ((List.range (List.replicate n endI).length).find? fun i => decide (0 ≤ dAt (d0S n) i) && circS (List.replicate n endI) i) = none := by
      rw [List.find?_range_eq_none]
      intro i hi
      rw [List.length_replicate] at hi
      have : circS (List.replicate n endI) i = false := by
        unfold circS freeS
        rw [ends_at n i hi, if_neg (by decide), if_neg (by decide)]
      rw [this, Bool.and_false]; rfl
    rw [this]; rfl
  have hw : wrongS (List.replicate n endI) = -1 := by
    unfold wrongS
    rw [ends_fits n hn, if_pos (show (-1 : Int) < 0 by decide), hc]
  unfold lookS
  rw [if_neg (by omega), if_neg (by rw [List.length_replicate]; omega), if_neg (by rw [List.length_replicate]; omega), hb, hw]
  exact ⟨rfl, rfl⟩
theorem ends_long (n : Nat) (h8 : 8192 < n) : (lookS (List.replicate n endI) 0).wrong = 0 ∧ (lookS (List.replicate n endI) 0).e = 2 := by
  unfold lookS
  rw [if_neg (by omega), if_pos (by rw [List.length_replicate]; omega)]
  exact ⟨rfl, rfl⟩
theorem ends_many (c : List Ins) : (lookS c 101).wrong = 0 ∧ (lookS c 101).e = 1 := by
  unfold lookS
  rw [if_pos (by omega)]
  exact ⟨rfl, rfl⟩
def kC : List InsV := [⟨21, 0, 0, ⟨#[]⟩⟩, ⟨2, 3, 0, ⟨#[]⟩⟩, ⟨21, 0, 0, ⟨#[]⟩⟩, ⟨28, 0, 0, ⟨#[]⟩⟩]
theorem kC_look : (lookS (insL kC) 0).wrong = 2 ∧ (lookS (insL kC) 0).e = 140 := by decide +kernel
theorem nil_look : (lookS [] 0).e = 3 := by decide +kernel
/-- The chapter's texts. -/
def kU : List InsV := [⟨24, 0, 0, ⟨#[97, 10]⟩⟩, ⟨50, 2, 0, ⟨#[112, 97, 121]⟩⟩]
def kJ : InsV := ⟨1, 7, 0, ⟨#[]⟩⟩
theorem kU_text : linesFrom 0 kU = [48, 32, 116, 101, 120, 116, 32, 34, 97, 92, 120, 48, 97, 34, 10, 49, 32, 99, 97, 108, 108, 32, 50, 32, 112, 97, 121, 10] := by decide +kernel
theorem kJ_text : linesFrom 0 [kJ] = [48, 32, 106, 117, 109, 112, 32, 55, 10] := by decide +kernel
theorem kU_fld : ∀ x, x ∈ kU → Fld x 2 := fun x hx => by
  simp only [kU, List.mem_cons, List.not_mem_nil, or_false] at hx
  rcases hx with rfl | rfl
  · exact ⟨by decide, by decide +kernel, by decide, by decide, by decide, by decide⟩
  · exact ⟨by decide, by decide +kernel, by decide, by decide, by decide, by decide⟩
theorem kJ_fld : ∀ x, x ∈ [kJ] → Fld x 8 := fun x hx => by
  obtain rfl := List.mem_singleton.1 hx
  exact ⟨by decide, by decide +kernel, by decide, by decide, by decide, by decide⟩
theorem kU_unl : unlS [48, 32, 116, 101, 120, 116, 32, 34, 97, 92, 120, 48, 97, 34, 10, 49, 32, 99, 97, 108, 108, 32, 50, 32, 112, 97, 121, 10] = (kU, 0, 0) := by
  rw [← kU_text]
  unfold unlS
  have hb := unlTo_back 2 kU [] _ (Nat.le_refl _) (by decide) kU_fld
  rw [if_neg (by rw [kU_text]; decide)]
  refine Eq.trans hb ?_
  refine unlEnd_ok fun j hj => ?_
  have hj' : j < 2 := hj
  match j, hj' with
  | 0, _ => decide +kernel
  | 1, _ => decide +kernel
theorem kJ_unl : unlS [48, 32, 106, 117, 109, 112, 32, 55, 10] = ([], 0, 9) := by
  rw [← kJ_text]
  unfold unlS
  have hb := unlTo_back 8 [kJ] [] _ (Nat.le_refl _) (by decide) kJ_fld
  rw [if_neg (by rw [kJ_text]; decide)]
  refine Eq.trans hb ?_
  exact unlEnd_bad (by decide) (fun j hj => absurd hj (by omega)) (by decide +kernel)
end Go.Proofs.YtefijgdbnjmifaaDoor

/- A tree gone through, walked: memory, the questions. -/
import Derived.Test.YtjfdokoigkdciaaKee
namespace Go.Proofs.Ytjfdokoigkdciaa
open Go.RowKit

/-- The function has a body: a call of it enters it. -/
def Ent (f : FuncId) : Prop := ∀ (args : Array Value) (w : World), (callFunc f args).run Try.prog w = .ok (.enter f args) w
theorem ent_of {f : FuncId} {fn : Func} {c : Code} (hf : Try.prog.funcs[f]? = some fn) (hname : (fn.name == "runtime.NumGoroutine") = false) (hb : fn.body = some c) : Ent f := fun args w => by
  have h1 : fn.name ≠ "runtime.NumGoroutine" := by simpa using hname
  simp [callFunc, hf, h1, hb]
theorem text_any (tk : Nat) (s : ByteArray) (hs : s.size ≤ 9223372036854775807) : ∃ fid, textF tk = .func (.func fid) #[] #[] ∧ Ent fid ∧ ∀ w, Calls Try.prog fid #[.string s] w (Ret (.bool (twText tk s)) w) := by
  unfold textF twText
  by_cases h0 : tk = 0
  · exact ⟨_, by rw [if_pos h0], ent_of Try.func39 (by kernel_rfl) rfl, fun w => by rw [if_pos h0]; exact own_any s hs w⟩
  · by_cases h1 : tk = 1
    · exact ⟨_, by rw [if_neg h0, if_pos h1], ent_of Try.func42 (by kernel_rfl) rfl, fun w => by rw [if_neg h0, if_pos h1]; exact empty_any s w⟩
    · exact ⟨_, by rw [if_neg h0, if_neg h1], ent_of Try.func45 (by kernel_rfl) rfl, fun w => by rw [if_neg h0, if_neg h1]; exact short_any s w⟩
theorem part_any' (pk : Nat) (i n : Int) (hi : 0 ≤ i) (hn : 0 ≤ n) (hm : n ≤ 4096) : ∃ fid, partF pk = .func (.func fid) #[] #[] ∧ Ent fid ∧ ∀ (op : Nat) w, Calls Try.prog fid #[.int .i64 i, .int .i64 n, .int .u8 (op : Int)] w (Ret (.bool (partOk pk i n op)) w) := by
  by_cases h0 : pk = 0
  · subst h0; exact ⟨_, rfl, ent_of Try.func40 (by kernel_rfl) rfl, fun op w => params_any i n hi hn hm op w⟩
  · by_cases h1 : pk = 1
    · subst h1; exact ⟨_, rfl, ent_of Try.func41 (by kernel_rfl) rfl, fun op w => nothing_any i n op w⟩
    · by_cases h2 : pk = 2
      · subst h2; exact ⟨_, rfl, ent_of Try.func43 (by kernel_rfl) rfl, fun op w => stmt3_any i n op w⟩
      · by_cases h3 : pk = 3
        · subst h3; exact ⟨_, rfl, ent_of Try.func44 (by kernel_rfl) rfl, fun op w => headed_any i n hi op w⟩
        · by_cases h4 : pk = 4
          · subst h4; exact ⟨_, rfl, ent_of Try.func46 (by kernel_rfl) rfl, fun op w => expr3_any i n op w⟩
          · exact ⟨47, by unfold partF; rw [if_neg h0, if_neg h1, if_neg h2, if_neg h3, if_neg h4], ent_of Try.func47 (by kernel_rfl) rfl, fun op w => by
              unfold partOk; rw [if_neg h0, if_neg h1, if_neg h2, if_neg h3, if_neg h4]; exact block_any i n op w⟩
/-- Where the walk's variables lie. -/
structure TB where
  tp : Nat
  wb : Nat
  mb : Nat
  db : Nat
  fb : Nat
  b : Nat
  A : Option Addr
  c : Nat
  cs : List InsV
def TB.caps (x : TB) : Array Value := #[.pointer (some ⟨x.tp, 0, none⟩), .pointer (some ⟨x.wb, 0, none⟩), .pointer (some ⟨x.mb, 0, none⟩), .pointer (some ⟨x.db, 0, none⟩), .pointer (some ⟨x.fb, 0, none⟩)]
def noT (x : TB) (k : Nat) : Prop := k = x.wb ∨ k = x.db
structure TW (x : TB) (wr dp : Int) (w : World) : Prop where
  t : w.cell? ⟨x.tp, 0, none⟩ = some (.slice x.A x.cs.length x.c)
  wr : w.cell? ⟨x.wb, 0, none⟩ = some (.int .i64 wr)
  mp : w.cell? ⟨x.mb, 0, none⟩ = some (.map (some x.b))
  dp : w.cell? ⟨x.db, 0, none⟩ = some (.int .i64 dp)
  fn : w.cell? ⟨x.fb, 0, none⟩ = some (.func (.func 31) #[] x.caps)
  tab : MapF w x.b isO
  code : CodeIn w x.A x.cs
  zw : w.frozen? ⟨x.wb, 0, none⟩ = false
  zd : w.frozen? ⟨x.db, 0, none⟩ = false
structure TD (x : TB) : Prop where
  d1 : x.wb ≠ x.db
  d2 : ¬ noT x x.tp
  d3 : ¬ noT x x.mb
  d4 : ¬ noT x x.fb
  d5 : ¬ noT x x.b
  d6 : 0 < x.cs.length → ∀ b off, x.A = some ⟨b, off, none⟩ → ¬ noT x b
  ok : OkC x.cs
  len : x.cs.length ≤ 2048
theorem TW.move {x : TB} {wr dp wr' dp' : Int} {w w' : World} (hd : TD x) (h : TW x wr dp w) (hk : Keep (noT x) w w') (h1 : w'.cell? ⟨x.wb, 0, none⟩ = some (.int .i64 wr')) (h2 : w'.cell? ⟨x.db, 0, none⟩ = some (.int .i64 dp')) (h3 : w'.frozen? ⟨x.wb, 0, none⟩ = false) (h4 : w'.frozen? ⟨x.db, 0, none⟩ = false) : TW x wr' dp' w' :=
  ⟨(hk.cell (p := ⟨x.tp, 0, none⟩) (World.block_lt_of_cell? w _ h.t) hd.d2).trans h.t, h1, (hk.cell (p := ⟨x.mb, 0, none⟩) (World.block_lt_of_cell? w _ h.mp) hd.d3).trans h.mp, h2,
    (hk.cell (p := ⟨x.fb, 0, none⟩) (World.block_lt_of_cell? w _ h.fn) hd.d4).trans h.fn, hk.mapF h.tab hd.d5, hk.code h.code hd.d6, h3, h4⟩
theorem TW.low {x : TB} {wr dp : Int} {w w' : World} (hd : TD x) (h : TW x wr dp w) (hb : Below w.heap.size w w') : TW x wr dp w' :=
  h.move hd (Keep.of_below hb) ((hb.cell (p := ⟨x.wb, 0, none⟩) (World.block_lt_of_cell? w _ h.wr)).trans h.wr) ((hb.cell (p := ⟨x.db, 0, none⟩) (World.block_lt_of_cell? w _ h.dp)).trans h.dp)
    ((hb.frozen (p := ⟨x.wb, 0, none⟩) (World.block_lt_of_cell? w _ h.wr)).trans h.zw) ((hb.frozen (p := ⟨x.db, 0, none⟩) (World.block_lt_of_cell? w _ h.dp)).trans h.zd)
/-- What may stand at a place: a function, asked. -/
def MayOk (x : TB) (mv : Value) (may : Nat → Bool) (w : World) : Prop := ∃ fid caps, mv = .func (.func fid) #[] caps ∧ Ent fid ∧ ∀ w', Keep (noT x) w w' → ∀ op : Nat, op < 256 → Calls Try.prog fid (#[.int .u8 (op : Int)] ++ caps) w' (RetB (.bool (may op)) w')
theorem MayOk.keep {x : TB} {mv : Value} {may : Nat → Bool} {w w' : World} (h : MayOk x mv may w) (hk : Keep (noT x) w w') : MayOk x mv may w' := by
  obtain ⟨fid, caps, e, hen, hc⟩ := h
  exact ⟨fid, caps, e, hen, fun w2 h2 op ho => hc w2 (hk.trans h2) op ho⟩
def TPost (x : TB) (r : Nat × Int × Int) (w : World) (e : Ending) (w' : World) : Prop := e = .returned (.int .i64 (r.1 : Int)) ∧ TW x r.2.1 r.2.2 w' ∧ Keep (noT x) w w'
theorem may_true (x : TB) (w : World) : MayOk x (.func (.func 33) #[] #[]) (fun _ => true) w :=
  ⟨_, #[], rfl, ent_of Try.func33 (by kernel_rfl) rfl, fun w' _ op _ => by
    go_enter Try.func33, Try.ntmps33
    go_wp2
    go_ret
    exact ⟨rfl, Below.refl _ _⟩⟩
/-- The question that the walk makes for a part. -/
theorem may_part {x : TB} {pk : Nat} {i n : Int} (hi : 0 ≤ i) (hn : 0 ≤ n) (hm : n ≤ 4096) {w : World} {fb ib xb : Nat} (h1 : w.cell? ⟨fb, 3, none⟩ = some (partF pk)) (h2 : w.cell? ⟨ib, 0, none⟩ = some (.int .i64 i)) (h3 : w.cell? ⟨xb, 1, none⟩ = some (.int .i64 n))
    (d1 : ¬ noT x fb) (d2 : ¬ noT x ib) (d3 : ¬ noT x xb) : MayOk x (.func (.func 32) #[] #[.pointer (some ⟨fb, 0, none⟩), .pointer (some ⟨ib, 0, none⟩), .pointer (some ⟨xb, 0, none⟩)]) (partOk pk i n) w :=
  ⟨_, _, rfl, ent_of Try.func32 (by kernel_rfl) rfl, fun w' hk op ho => by
    obtain ⟨fid, hf, hen, hc⟩ := part_any' pk i n hi hn hm
    have c1 := (hk.cell (p := ⟨fb, 3, none⟩) (World.block_lt_of_cell? w _ h1) d1).trans h1
    have c2 := (hk.cell (p := ⟨ib, 0, none⟩) (World.block_lt_of_cell? w _ h2) d2).trans h2
    have c3 := (hk.cell (p := ⟨xb, 1, none⟩) (World.block_lt_of_cell? w _ h3) d3).trans h3
    rw [hf] at c1
    have HC := Lib.hid (fun w => hc op w)
    clear h1 h2 h3 hk hc hf
    unfold Ent at hen
    show Calls Try.prog 32 #[.int .u8 (op : Int), .pointer (some ⟨fb, 0, none⟩), .pointer (some ⟨ib, 0, none⟩), .pointer (some ⟨xb, 0, none⟩)] w' _
    go_enter Try.func32, Try.ntmps32
    go_wp2_with fail
    refine (HC.out _).mono ?_
    rintro e w1 ⟨rfl, rfl⟩
    go_wp2_with fail
    go_ret
    exact ⟨rfl, by first | exact Below.refl _ _ | exact (Below.refl _ _).drew⟩⟩
end Go.Proofs.Ytjfdokoigkdciaa

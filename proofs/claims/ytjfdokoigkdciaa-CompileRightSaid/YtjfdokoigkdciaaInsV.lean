/- Instructions in memory. -/
import Derived.Test.YtjfdokoigkdciaaInstrT
import Derived.Test.YtjfdokoigkdciaaLookP
namespace Go.Proofs.Ytjfdokoigkdciaa
open Go.RowKit

/-- An instruction in memory. -/
structure InsV where
  op : Nat
  a : Int
  int : Int
  text : ByteArray
def InsV.val (x : InsV) : Value := .agg #[.int .u8 (x.op : Int), .int .i64 x.a, .int .i64 x.int, .string x.text]
def InsV.ins (x : InsV) : Ins := ⟨x.op, x.a, x.int, x.text.data.toList⟩
def zV : InsV := ⟨0, 0, 0, ⟨#[]⟩⟩
def atV (c : List InsV) (k : Nat) : InsV := c.getD k zV
def insL (c : List InsV) : List Ins := c.map InsV.ins
theorem insL_length (c : List InsV) : (insL c).length = c.length := by simp [insL]
theorem atI_ins (c : List InsV) (k : Nat) : atI (insL c) k = (atV c k).ins := by
  unfold atI insL atV
  by_cases h : k < c.length
  · simp [List.getD, h]
  · simp [List.getD, List.getElem?_eq_none (by omega : c.length ≤ k)]; rfl
/-- The slice at A holds the code. -/
def CodeIn (w : World) (A : Option Addr) (c : List InsV) : Prop :=
  0 < c.length → ∃ b off : Nat, A = some ⟨b, off, none⟩ ∧ b < w.heap.size ∧ ∀ k, k < c.length →
    w.cell? ⟨b, off + k * 4, none⟩ = some (.int .u8 ((atV c k).op : Int)) ∧ w.cell? ⟨b, off + k * 4 + 1, none⟩ = some (.int .i64 (atV c k).a) ∧
    w.cell? ⟨b, off + k * 4 + 2, none⟩ = some (.int .i64 (atV c k).int) ∧ w.cell? ⟨b, off + k * 4 + 3, none⟩ = some (.string (atV c k).text)
theorem CodeIn.below {w w' : World} {A : Option Addr} {c : List InsV} {B : Nat} (h : CodeIn w A c) (hb : Below B w w') (hB : w.heap.size ≤ B) : CodeIn w' A c := fun hn => by
  obtain ⟨b, off, e, hlt, hc⟩ := h hn
  have hk := fun o => hb.cell (p := ⟨b, o, none⟩) (Nat.lt_of_lt_of_le hlt hB)
  exact ⟨b, off, e, Nat.lt_of_lt_of_le hlt hb.size, fun k hkk => by
    obtain ⟨h1, h2, h3, h4⟩ := hc k hkk
    exact ⟨(hk _).trans h1, (hk _).trans h2, (hk _).trans h3, (hk _).trans h4⟩⟩
theorem CodeIn.keep {w w' : World} {A : Option Addr} {c : List InsV} (h : CodeIn w A c) (hb : Below w.heap.size w w') : CodeIn w' A c := h.below hb (Nat.le_refl _)
/-- The code's numbers and texts are such as there are. -/
def OkC (c : List InsV) : Prop := ∀ k, k < c.length → (atV c k).op < 256 ∧ (atV c k).text.size ≤ 9223372036854775807
end Go.Proofs.Ytjfdokoigkdciaa

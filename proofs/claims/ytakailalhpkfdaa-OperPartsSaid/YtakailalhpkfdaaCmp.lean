/- Comparing nodes of one kind, walked. -/
import Derived.Test.YtakailalhpkfdaaChe
import Derived.Test.YtakailalhpkfdaaShelf
import Derived.StillTailTactics
namespace Go.Proofs.Ytakailalhpkfdaa
open Go.RowKit

def cmpI (a b : Int) : Int := if a < b then -1 else if b < a then 1 else 0
theorem cmpI_self (a : Int) : cmpI a a = 0 := by unfold cmpI; rw [if_neg (by omega), if_neg (by omega)]
theorem comp_u8 (a : Int) (w : World) : Calls Try.prog 64 #[.int .u8 a, .int .u8 a] w (Ret (.int .i64 0) w) := by
  have h1 : (a != a) = false := bne_self_eq_false _
  have h2 : decide (a < a) = false := decide_eq_false (by omega)
  go_enter Try.func64, Try.ntmps64
  go_wp2
  go_ret
  exact ⟨rfl, rfl⟩
theorem comp_int (a : Int) (w : World) : Calls Try.prog 65 #[.int .i64 a, .int .i64 a] w (Ret (.int .i64 0) w) := by
  have h1 : (a != a) = false := bne_self_eq_false _
  have h2 : decide (a < a) = false := decide_eq_false (by omega)
  go_enter Try.func65, Try.ntmps65
  go_wp2
  go_ret
  exact ⟨rfl, rfl⟩
theorem comp_i64 (a b : Int) (w : World) : Calls Try.prog 66 #[.int .i64 a, .int .i64 b] w (Ret (.int .i64 (cmpI a b)) w) := by
  have h1 : (a != a) = false := bne_self_eq_false _
  have h2 : (b != b) = false := bne_self_eq_false _
  rcases Int.lt_trichotomy a b with h | h | h
  · have h3 : decide (a < b) = true := decide_eq_true h
    have e : cmpI a b = -1 := if_pos h
    rw [e]
    go_enter Try.func66, Try.ntmps66
    go_wp2
    go_ret
    exact ⟨rfl, rfl⟩
  · subst h
    have h3 : decide (a < a) = false := decide_eq_false (by omega)
    rw [cmpI_self]
    go_enter Try.func66, Try.ntmps66
    go_wp2
    go_ret
    exact ⟨rfl, rfl⟩
  · have h3 : decide (a < b) = false := decide_eq_false (by omega)
    have h4 : decide (b < a) = true := decide_eq_true h
    have e : cmpI a b = 1 := by unfold cmpI; rw [if_neg (by omega), if_pos h]
    rw [e]
    go_enter Try.func66, Try.ntmps66
    go_wp2
    go_ret
    exact ⟨rfl, rfl⟩
theorem comp_f0 (w : World) : Calls Try.prog 68 #[.float .f64 0, .float .f64 0] w (Ret (.int .i64 0) w) := by
  have h0 : FloatKind.f64.format.order 0 0 = some .eq := by decide
  go_enter Try.func68, Try.ntmps68
  go_wp2
  go_ret
  exact ⟨rfl, rfl⟩
/-- The first that is not nought. -/
def orR (c d : Int) : Int := if c = 0 then d else c
def orV (c d : Int) (j : Nat) : Int := if j = 2 then c else if j = 3 then d else 0
theorem or_any (g cap : Nat) (c d : Int) (w : World) (h : ∀ j : Nat, j < 6 → w.cell? ⟨g, j, none⟩ = some (.int .i64 (orV c d j))) :
    Calls Try.prog 63 #[.slice (some ⟨g, 0, none⟩) 6 cap] w (Ret (.int .i64 (orR c d)) w) := by
  have H := Lib.hid h
  clear h
  obtain ⟨rs, hrs⟩ : ∃ rs, rs = if c = 0 then d else c := ⟨_, rfl⟩
  have hrs2 : orR c d = rs := hrs.symm
  rw [hrs2]
  clear hrs2
  go_enter Try.func63, Try.ntmps63
  go_wp2
  go_loopw [8, 5] (fun i _ wr => ∃ k : Nat, i = .int .i64 k ∧ k ≤ 6 ∧ (2 < k → c = 0) ∧ (3 < k → d = 0) ∧ wr = w) (fun i _ _ => 6 - (intOf i).toNat)
  case atStart => exact ⟨0, rfl, by omega, fun h => by omega, fun h => by omega, rfl⟩
  case round =>
    obtain ⟨k, rfl, hk, h2, h3, rfl⟩ := hrel
    by_cases hlt : k < 6
    · have hc := H.out k hlt
      by_cases hz : orV c d k = 0
      · have hz2 : 2 < k + 1 → c = 0 := fun h => by
          by_cases e : k = 2
          · subst e; exact hz
          · exact h2 (by omega)
        have hz3 : 3 < k + 1 → d = 0 := fun h => by
          by_cases e : k = 3
          · subst e; exact hz
          · exact h3 (by omega)
        rw [hz] at hc
        clear hz h2 h3
        go_wp2
        go_roundw
        case rel => exact ⟨k + 1, by go_num, by omega, hz2, hz3, trivial⟩
        case measure => simp [intOf]; omega
      · have hr : orV c d k = rs := by
          by_cases e2 : k = 2
          · subst e2
            have hcz : ¬ c = 0 := hz
            rw [hrs, if_neg hcz]; rfl
          · by_cases e3 : k = 3
            · subst e3
              rw [hrs, if_pos (h2 (by omega))]; rfl
            · exfalso
              apply hz
              unfold orV
              rw [if_neg e2, if_neg e3]
        have hb : (rs != 0) = true := bne_iff_ne.2 (by rw [← hr]; exact hz)
        rw [hr] at hc
        clear hz hr h2 h3 hrs
        go_wp2
        go_ret
        exact ⟨rfl, rfl⟩
    · have e : rs = 0 := by rw [hrs, if_pos (h2 (by omega)), h3 (by omega)]
      clear h2 h3 hrs
      subst e
      go_wp2
      go_ret
      exact ⟨rfl, rfl⟩
end Go.Proofs.Ytakailalhpkfdaa

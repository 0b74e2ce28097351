import Derived.Test.YmbrbxBase
import Derived.OwnWalk
namespace Go.Proofs.Ymbrbx
open Go.ChangeShapes Go.WideShapes Go.ChangeAt Go.RowKit
set_option linter.unusedVariables false
set_option linter.unusedSimpArgs false

def effPops (n : Int) : Int := if n = 0 then 0 else if n = 1 ∨ n = 7 ∨ n = 2 then 1 else if n < 7 then 2 else 0
def effPush (n : Int) : Int := if n = 0 then 1 else if n = 1 ∨ n = 7 then 0 else if n = 2 ∨ n = 3 then 2 else if n < 7 then 1 else 0

theorem effect_any (n : Int) (h0 : 0 ≤ n) (w : World) :
    Calls Ybxm.prog 33 #[.int .u8 n] w fun e w' => e = .returned (.tuple #[.int .i64 (effPops n), .int .i64 (effPush n), .bool (decide (n < 8))]) ∧ w' = w := by
  by_cases h8 : n < 8
  · obtain h | h | h | h | h | h | h | h : n = 0 ∨ n = 1 ∨ n = 2 ∨ n = 3 ∨ n = 4 ∨ n = 5 ∨ n = 6 ∨ n = 7 := by omega
    all_goals
      subst h
      go_enter Ybxm.func33, Ybxm.ntmps33
      go_wp2
      go_ret3
      exact ⟨rfl, rfl⟩
  · have e1 : effPops n = 0 := by
      unfold effPops; rw [if_neg (by omega), if_neg (by omega), if_neg (by omega)]
    have e2 : effPush n = 0 := by
      unfold effPush; rw [if_neg (by omega), if_neg (by omega), if_neg (by omega), if_neg (by omega)]
    have d : decide (n < 8) = false := decide_eq_false h8
    rw [e1, e2, d]
    clear e1 e2 d
    go_enter Ybxm.func33, Ybxm.ntmps33
    go_wp2
    go_ret3
    exact ⟨rfl, rfl⟩

/-- The table of Effect at the known opcodes, and beyond. -/
theorem eff_cases (n : Int) (h0 : 0 ≤ n) : (n = 0 ∧ effPops n = 0 ∧ effPush n = 1) ∨ (n = 1 ∧ effPops n = 1 ∧ effPush n = 0) ∨ (n = 2 ∧ effPops n = 1 ∧ effPush n = 2) ∨ (n = 3 ∧ effPops n = 2 ∧ effPush n = 2) ∨
    (n = 4 ∧ effPops n = 2 ∧ effPush n = 1) ∨ (n = 5 ∧ effPops n = 2 ∧ effPush n = 1) ∨ (n = 6 ∧ effPops n = 2 ∧ effPush n = 1) ∨ (n = 7 ∧ effPops n = 1 ∧ effPush n = 0) ∨ (8 ≤ n ∧ effPops n = 0 ∧ effPush n = 0) := by
  unfold effPops effPush
  by_cases h8 : 8 ≤ n
  · rw [if_neg (by omega), if_neg (by omega), if_neg (by omega), if_neg (by omega), if_neg (by omega), if_neg (by omega), if_neg (by omega)]
    omega
  · obtain h | h | h | h | h | h | h | h : n = 0 ∨ n = 1 ∨ n = 2 ∨ n = 3 ∨ n = 4 ∨ n = 5 ∨ n = 6 ∨ n = 7 := by omega
    all_goals
      subst h
      decide
end Go.Proofs.Ymbrbx

import Derived.Test.YmbrbxBase
namespace Go.Proofs.Ymbrbx
open Go.ChangeShapes Go.WideShapes Go.ChangeAt Go.RowKit
set_option linter.unusedVariables false
set_option linter.unusedSimpArgs false

/-- What WellFormed answers. -/
def wfI (op arg : Int) : Bool := decide (op = 0 ∨ op = 7 ∨ (op < 8 ∧ arg = 0))

theorem wellFormed_any (op arg : Int) (h0 : 0 ≤ op) (w : World) :
    Calls Ybxm.prog 30 #[.agg #[.int .u8 op, .int .i32 arg]] w fun e w' => e = .returned (.bool (wfI op arg)) ∧ w' = w.alloc (.cells #[.int .u8 op, .int .i32 arg] 38) := by
  by_cases z0 : op = 0
  · subst z0
    rw [show wfI 0 arg = true from decide_eq_true (by omega)]
    go_enter Ybxm.func30, Ybxm.ntmps30
    go_wp2
    go_ret
    exact ⟨rfl, rfl⟩
  by_cases z7 : op = 7
  · subst z7
    rw [show wfI 7 arg = true from decide_eq_true (by omega)]
    go_enter Ybxm.func30, Ybxm.ntmps30
    go_wp2
    go_ret
    exact ⟨rfl, rfl⟩
  have n0 : (op == 0) = false := int_ne z0
  have n7 : (op == 7) = false := int_ne z7
  by_cases h8 : op < 8
  · by_cases ha : arg = 0
    · subst ha
      rw [show wfI op 0 = true from decide_eq_true (by omega)]
      clear z0 z7
      go_enter Ybxm.func30, Ybxm.ntmps30
      go_wp2
      go_ret
      exact ⟨rfl, rfl⟩
    · rw [show wfI op arg = false from decide_eq_false (by omega)]
      have na : (arg == 0) = false := int_ne ha
      clear z0 z7 ha
      go_enter Ybxm.func30, Ybxm.ntmps30
      go_wp2
      go_ret
      exact ⟨rfl, rfl⟩
  · rw [show wfI op arg = false from decide_eq_false (by omega)]
    clear z0 z7
    go_enter Ybxm.func30, Ybxm.ntmps30
    go_wp2
    go_ret
    exact ⟨rfl, rfl⟩
end Go.Proofs.Ymbrbx

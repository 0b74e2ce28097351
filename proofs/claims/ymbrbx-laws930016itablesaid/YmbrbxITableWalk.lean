import Derived.Test.YmbrbxWellFormed
namespace Go.Proofs.Ymbrbx
open Go.ChangeShapes Go.WideShapes Go.ChangeAt Go.RowKit
set_option linter.unusedVariables false
set_option linter.unusedSimpArgs false

theorem iwant_any (op arg : Int) (h0 : 0 ≤ op) (w : World) :
    Calls Ybxm.prog 31 #[.int .u8 op, .int .i32 arg] w fun e w' => e = .returned (.bool (wfI op arg)) ∧ w' = w := by
  by_cases h8 : op < 8
  · by_cases ha : arg = 0
    · have na : (arg == 0) = true := int_eq ha
      have e : wfI op arg = true := decide_eq_true (by omega)
      rw [e]
      clear e ha
      obtain h | h | h | h | h | h | h | h : op = 0 ∨ op = 1 ∨ op = 2 ∨ op = 3 ∨ op = 4 ∨ op = 5 ∨ op = 6 ∨ op = 7 := by omega
      all_goals
        subst h
        go_enter Ybxm.func31, Ybxm.ntmps31
        go_wp2
        go_ret
        exact ⟨rfl, rfl⟩
    · have na : (arg == 0) = false := int_ne ha
      obtain h | h | h | h | h | h | h | h : op = 0 ∨ op = 1 ∨ op = 2 ∨ op = 3 ∨ op = 4 ∨ op = 5 ∨ op = 6 ∨ op = 7 := by omega
      all_goals
        subst h
        first
          | rw [show wfI _ arg = true from decide_eq_true (by omega)]
          | rw [show wfI _ arg = false from decide_eq_false (by omega)]
        clear ha
        go_enter Ybxm.func31, Ybxm.ntmps31
        go_wp2
        go_ret
        exact ⟨rfl, rfl⟩
  · have e : wfI op arg = false := decide_eq_false (by omega)
    rw [e]
    clear e
    go_enter Ybxm.func31, Ybxm.ntmps31
    go_wp2
    go_ret
    exact ⟨rfl, rfl⟩

set_option maxHeartbeats 4000000 in
theorem ITable_walk (a0 a1 : Int) (w : World) (w0 : (Lit.int .u8 a0).wf = true) (w1 : (Lit.int .i32 a1).wf = true) :
    Calls Ybxm.prog 13 #[.int .u8 a0, .int .i32 a1] w fun e w' => e = .returned (.bool true) ∧ Below w.heap.size w w' := by
  have h0 := bounds_u8 w0
  have i0 : 0 ≤ a0 % 16 := by omega
  go_enter Ybxm.func13, Ybxm.ntmps13
  go_wp2_with (first | (go_at_call 30; refine (wellFormed_any _ _ (by omega) _).mono ?_; rintro e w' ⟨rfl, rfl⟩) | (go_at_call 31; refine (iwant_any _ _ (by omega) _).mono ?_; rintro e w' ⟨rfl, rfl⟩))
  go_ret
  exact ⟨rfl, ((((Below.refl _ _).alloc (Nat.le_refl _) _).alloc (by simp) _).alloc (by simp; omega) _).alloc (by simp; omega) _⟩
end Go.Proofs.Ymbrbx

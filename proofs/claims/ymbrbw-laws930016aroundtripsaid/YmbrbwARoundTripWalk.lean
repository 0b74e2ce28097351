import Derived.Test.YmbrbwOpByName
namespace Go.Proofs.Ymbrbw
open Go.ChangeShapes Go.WideShapes Go.ChangeAt Go.RowKit

set_option maxHeartbeats 4000000 in
theorem ARoundTrip_walk (a0 : Int) (w : World) (w0 : (Lit.int .u8 a0).wf = true) :
    Calls Ybwm.prog 4 #[.int .u8 a0] w fun e w' => e = .returned (.bool true) ∧ Below w.heap.size w w' := by
  have h0 := bounds_u8 w0
  obtain ⟨h, e⟩ | ⟨h, e0, e⟩ := opBy_cases a0 h0.1
  · have e1 : (opBy (opName a0)).1 = a0 := by rw [e]
    have e2 : (opBy (opName a0)).2 = true := by rw [e]
    have d : decide (a0 < 8) = true := decide_eq_true h
    clear e
    go_enter Ybwm.func4, Ybwm.ntmps4
    go_wp2_with (first | (go_at_call 16; refine (opName_any _ (by omega) _).mono ?_; rintro e w' ⟨rfl, rfl⟩) | (go_at_call 15; refine (opByName_any _ _).mono ?_; rintro e w' ⟨rfl, rfl⟩))
    go_ret
    exact ⟨rfl, Below.refl _ _⟩
  · have e1 : (opBy (opName a0)).1 = 0 := by rw [e]
    have e2 : (opBy (opName a0)).2 = false := by rw [e]
    have d : decide (a0 < 8) = false := decide_eq_false (by omega)
    clear e e0
    go_enter Ybwm.func4, Ybwm.ntmps4
    go_wp2_with (first | (go_at_call 16; refine (opName_any _ (by omega) _).mono ?_; rintro e w' ⟨rfl, rfl⟩) | (go_at_call 15; refine (opByName_any _ _).mono ?_; rintro e w' ⟨rfl, rfl⟩))
    go_ret
    exact ⟨rfl, Below.refl _ _⟩
end Go.Proofs.Ymbrbw

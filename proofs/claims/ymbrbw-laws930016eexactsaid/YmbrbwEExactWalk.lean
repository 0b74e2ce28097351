import Derived.Test.YmbrbwESpec
import Derived.Test.YmbrbwParseInt32
namespace Go.Proofs.Ymbrbw
open Go.ChangeShapes Go.WideShapes Go.ChangeAt Go.RowKit
set_option linter.unusedVariables false
set_option linter.unusedSimpArgs false

set_option maxHeartbeats 1000000 in
theorem EExact_walk (s : ByteArray) (w : World) (w0 : s.size ≤ maxLen) :
    Calls Ybwm.prog 14 #[.string s] w fun e w' => e = .returned (.bool true) ∧ Below w.heap.size w w' := by
  have h1 := fun w' => espec_any s w' w0
  have h2 := fun w' => parseInt32_any s w' w0
  obtain ⟨⟨v, ok⟩, hP⟩ : ∃ P, P = parseI s.data.toList := ⟨_, rfl⟩
  rw [← hP] at h1 h2
  clear hP
  go_enter Ybwm.func14, Ybwm.ntmps14
  go_wp2_with (first | (go_at_call 29; refine (h1 _).mono ?_; rintro e w' ⟨rfl, rfl⟩) | (go_at_call 30; refine (h2 _).mono ?_; rintro e w' ⟨rfl, rfl⟩))
  go_ret
  exact ⟨rfl, Below.refl _ _⟩
end Go.Proofs.Ymbrbw

import Derived.Test.YmbrbwOpNames
namespace Go.Proofs.Ymbrbw
open Go.ChangeShapes Go.WideShapes Go.ChangeAt Go.RowKit

set_option maxHeartbeats 8000000 in
theorem AExact_walk (s : ByteArray) (w : World) (w0 : s.size ≤ maxLen) :
    Calls Ybwm.prog 3 #[.string s] w fun e w' => e = .returned (.bool true) ∧ Below w.heap.size w w' := by
  obtain ⟨n, h0, h8, hs, e⟩ | ⟨hn, e⟩ := opBy_names s
  · have e1 : (opBy s).1 = n := by rw [e]
    have e2 : (opBy s).2 = true := by rw [e]
    clear e
    obtain h | h | h | h | h | h | h | h : n = 0 ∨ n = 1 ∨ n = 2 ∨ n = 3 ∨ n = 4 ∨ n = 5 ∨ n = 6 ∨ n = 7 := by omega
    all_goals
      subst h
      simp [opName] at hs
      subst hs
      go_enter Ybwm.func3, Ybwm.ntmps3
      go_wp2_with (go_at_call 15; refine (opByName_any _ _).mono ?_; rintro e w' ⟨rfl, rfl⟩)
      go_ret
      exact ⟨rfl, Below.refl _ _⟩
  · have e1 : (opBy s).1 = 0 := by rw [e]
    have e2 : (opBy s).2 = false := by rw [e]
    clear e
    have c0 : (s.toList == [112, 117, 115, 104]) = false := eqb_lit (hn 0 (by decide) (by decide))
    have c1 : (s.toList == [112, 111, 112]) = false := eqb_lit (hn 1 (by decide) (by decide))
    have c2 : (s.toList == [100, 117, 112]) = false := eqb_lit (hn 2 (by decide) (by decide))
    have c3 : (s.toList == [115, 119, 97, 112]) = false := eqb_lit (hn 3 (by decide) (by decide))
    have c4 : (s.toList == [97, 100, 100]) = false := eqb_lit (hn 4 (by decide) (by decide))
    have c5 : (s.toList == [115, 117, 98]) = false := eqb_lit (hn 5 (by decide) (by decide))
    have c6 : (s.toList == [109, 117, 108]) = false := eqb_lit (hn 6 (by decide) (by decide))
    have c7 : (s.toList == [106, 110, 122]) = false := eqb_lit (hn 7 (by decide) (by decide))
    clear hn
    go_enter Ybwm.func3, Ybwm.ntmps3
    go_wp2_with (go_at_call 15; refine (opByName_any _ _).mono ?_; rintro e w' ⟨rfl, rfl⟩)
    go_ret
    exact ⟨rfl, Below.refl _ _⟩
end Go.Proofs.Ymbrbw

import Derived.Test.YmbrbxGExactA
import Derived.Test.YmbrbxGExactB
namespace Go.Proofs.Ymbrbx
open Go.ChangeShapes Go.WideShapes Go.ChangeAt Go.RowKit
set_option linter.unusedVariables false
set_option linter.unusedSimpArgs false

theorem GExact_walk (a0 : Option Addr) (n0 c0 : Nat) (pc : Int) (a2 : Option Addr) (n2 c2 : Nat) (z2 : List Int) (fold : Bool) (w : World) (w0 : RecsAt w a0 n0) (w1 : (Lit.int .i64 pc).wf = true) (w2 : IsRow .i32 w a2 n2 c2 z2) :
    Calls Ybxm.prog 7 #[.slice a0 n0 c0, .int .i64 pc, .slice a2 n2 c2, .bool fold] w fun e w' => e = .returned (.bool true) ∧ Below w.heap.size w w' := by
  obtain ⟨P, hPl, hok, hpr⟩ := recs_prog w0
  obtain ⟨S, hSl, hI, hr⟩ := row_i32 w2
  have hm0 := w0.1
  have hm2 := w2.view.1
  have hpc := bounds_i64 w1
  unfold maxLen at hm0 hm2
  by_cases hl : (1024 : Int) < (n0 : Int)
  · clear hpr w0 hok hPl hI w2 hr hSl
    go_enter Ybxm.func7, Ybxm.ntmps7
    go_wp2
    go_ret
    exact ⟨rfl, Below.refl _ _⟩
  by_cases hl2 : (1024 : Int) < (n2 : Int)
  · clear hpr w0 hok hPl hI w2 hr hSl
    have hd : decide ((1024 : Int) < (n0 : Int)) = false := decide_eq_false hl
    have hd2 : decide ((1024 : Int) < (n2 : Int)) = true := decide_eq_true hl2
    go_enter Ybxm.func7, Ybxm.ntmps7
    go_wp2
    go_ret
    exact ⟨rfl, Below.refl _ _⟩
  cases fold with
  | false => exact GExact_plain P S a0 a2 n0 c0 n2 c2 pc w (by omega) (by omega) hpc hPl.symm hSl hok hpr hI hr
  | true => exact GExact_fold P S a0 a2 n0 c0 n2 c2 pc w (by omega) (by omega) hpc hPl.symm hSl hok hpr hI hr
end Go.Proofs.Ymbrbx

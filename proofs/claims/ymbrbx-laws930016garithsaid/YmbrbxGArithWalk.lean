import Derived.Test.YmbrbxGArithA
import Derived.Test.YmbrbxGArithB
import Derived.Test.YmbrbxGArithC
import Derived.Test.YmbrbxGArithD
namespace Go.Proofs.Ymbrbx
open Go.ChangeShapes Go.WideShapes Go.ChangeAt Go.RowKit
set_option linter.unusedVariables false
set_option linter.unusedSimpArgs false

theorem GArith_walk (a0 : Option Addr) (n cap : Nat) (z : List Int) (x y m : Int) (w : World) (w0 : IsRow .i32 w a0 n cap z) (w1 : (Lit.int .i32 x).wf = true) (w2 : (Lit.int .i32 y).wf = true) (w3 : (Lit.int .u8 m).wf = true) :
    Calls Ybxm.prog 8 #[.slice a0 n cap, .int .i32 x, .int .i32 y, .int .u8 m] w fun e w' => e = .returned (.bool true) ∧ Below w.heap.size w w' := by
  obtain ⟨S, hSl, hI, hr⟩ := row_i32 w0
  have hm := w0.view.1
  unfold maxLen at hm
  by_cases hl : (1024 : Int) < (n : Int)
  · clear hI w0 hr hSl
    go_enter Ybxm.func8, Ybxm.ntmps8
    go_wp2
    go_ret
    exact ⟨rfl, Below.refl _ _⟩
  · have b3 := bounds_u8 w3
    have hn : n ≤ 1024 := by omega
    obtain h | h | h | h : m % 4 = 0 ∨ m % 4 = 1 ∨ m % 4 = 2 ∨ m % 4 = 3 := by omega
    · exact GArith_sub S a0 n cap x y m w hn hSl hI hr (bounds_i32 w1) (bounds_i32 w2) b3 h
    · exact GArith_add S a0 n cap x y m w hn hSl hI hr (bounds_i32 w1) (bounds_i32 w2) b3 h
    · exact GArith_mul S a0 n cap x y m w hn hSl hI hr (bounds_i32 w1) (bounds_i32 w2) b3 h
    · exact GArith_swap S a0 n cap x y m w hn hSl hI hr (bounds_i32 w1) (bounds_i32 w2) b3 h
end Go.Proofs.Ymbrbx

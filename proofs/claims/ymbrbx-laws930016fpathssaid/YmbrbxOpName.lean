import Derived.Test.YmbrbxBase
namespace Go.Proofs.Ymbrbx
open Go.ChangeShapes Go.WideShapes Go.ChangeAt Go.RowKit
set_option linter.unusedVariables false
set_option linter.unusedSimpArgs false

def opName (n : Int) : ByteArray :=
  if n = 0 then ⟨#[112, 117, 115, 104]⟩ else if n = 1 then ⟨#[112, 111, 112]⟩ else if n = 2 then ⟨#[100, 117, 112]⟩ else if n = 3 then ⟨#[115, 119, 97, 112]⟩
  else if n = 4 then ⟨#[97, 100, 100]⟩ else if n = 5 then ⟨#[115, 117, 98]⟩ else if n = 6 then ⟨#[109, 117, 108]⟩ else if n = 7 then ⟨#[106, 110, 122]⟩ else ⟨#[]⟩

theorem opName_any (n : Int) (h0 : 0 ≤ n) (w : World) :
    Calls Ybxm.prog 32 #[.int .u8 n] w fun e w' => e = .returned (.tuple #[.string (opName n), .bool (decide (n < 8))]) ∧ w' = w := by
  by_cases h8 : n < 8
  · obtain h | h | h | h | h | h | h | h : n = 0 ∨ n = 1 ∨ n = 2 ∨ n = 3 ∨ n = 4 ∨ n = 5 ∨ n = 6 ∨ n = 7 := by omega
    all_goals
      subst h
      go_enter Ybxm.func32, Ybxm.ntmps32
      go_wp2
      go_ret2
      exact ⟨rfl, rfl⟩
  · have e : opName n = ⟨#[]⟩ := by
      unfold opName
      rw [if_neg (by omega), if_neg (by omega), if_neg (by omega), if_neg (by omega), if_neg (by omega), if_neg (by omega), if_neg (by omega), if_neg (by omega)]
    have d : decide (n < 8) = false := decide_eq_false h8
    rw [e, d]
    clear e d
    go_enter Ybxm.func32, Ybxm.ntmps32
    go_wp2
    go_ret2
    exact ⟨rfl, rfl⟩

theorem opName_size (n : Int) : (opName n).size ≤ 4 := by
  unfold opName
  repeat (first | split | decide)
end Go.Proofs.Ymbrbx

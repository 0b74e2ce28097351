import Derived.Test.YmbrbyEffect
namespace Go.Proofs.Ymbrby
open Go.ChangeShapes Go.WideShapes Go.ChangeAt Go.RowKit

theorem popRow0 (h : 0 < (⟨#[48, 49, 49, 50, 50, 50, 50, 49]⟩ : ByteArray).size) : (((⟨#[48, 49, 49, 50, 50, 50, 50, 49]⟩ : ByteArray)[0]'h).toNat) = 48 := rfl
theorem popRow1 (h : 1 < (⟨#[48, 49, 49, 50, 50, 50, 50, 49]⟩ : ByteArray).size) : (((⟨#[48, 49, 49, 50, 50, 50, 50, 49]⟩ : ByteArray)[1]'h).toNat) = 49 := rfl
theorem popRow2 (h : 2 < (⟨#[48, 49, 49, 50, 50, 50, 50, 49]⟩ : ByteArray).size) : (((⟨#[48, 49, 49, 50, 50, 50, 50, 49]⟩ : ByteArray)[2]'h).toNat) = 49 := rfl
theorem popRow3 (h : 3 < (⟨#[48, 49, 49, 50, 50, 50, 50, 49]⟩ : ByteArray).size) : (((⟨#[48, 49, 49, 50, 50, 50, 50, 49]⟩ : ByteArray)[3]'h).toNat) = 50 := rfl
theorem popRow4 (h : 4 < (⟨#[48, 49, 49, 50, 50, 50, 50, 49]⟩ : ByteArray).size) : (((⟨#[48, 49, 49, 50, 50, 50, 50, 49]⟩ : ByteArray)[4]'h).toNat) = 50 := rfl
theorem popRow5 (h : 5 < (⟨#[48, 49, 49, 50, 50, 50, 50, 49]⟩ : ByteArray).size) : (((⟨#[48, 49, 49, 50, 50, 50, 50, 49]⟩ : ByteArray)[5]'h).toNat) = 50 := rfl
theorem popRow6 (h : 6 < (⟨#[48, 49, 49, 50, 50, 50, 50, 49]⟩ : ByteArray).size) : (((⟨#[48, 49, 49, 50, 50, 50, 50, 49]⟩ : ByteArray)[6]'h).toNat) = 50 := rfl
theorem popRow7 (h : 7 < (⟨#[48, 49, 49, 50, 50, 50, 50, 49]⟩ : ByteArray).size) : (((⟨#[48, 49, 49, 50, 50, 50, 50, 49]⟩ : ByteArray)[7]'h).toNat) = 49 := rfl
theorem pushRow0 (h : 0 < (⟨#[49, 48, 50, 50, 49, 49, 49, 48]⟩ : ByteArray).size) : (((⟨#[49, 48, 50, 50, 49, 49, 49, 48]⟩ : ByteArray)[0]'h).toNat) = 49 := rfl
theorem pushRow1 (h : 1 < (⟨#[49, 48, 50, 50, 49, 49, 49, 48]⟩ : ByteArray).size) : (((⟨#[49, 48, 50, 50, 49, 49, 49, 48]⟩ : ByteArray)[1]'h).toNat) = 48 := rfl
theorem pushRow2 (h : 2 < (⟨#[49, 48, 50, 50, 49, 49, 49, 48]⟩ : ByteArray).size) : (((⟨#[49, 48, 50, 50, 49, 49, 49, 48]⟩ : ByteArray)[2]'h).toNat) = 50 := rfl
theorem pushRow3 (h : 3 < (⟨#[49, 48, 50, 50, 49, 49, 49, 48]⟩ : ByteArray).size) : (((⟨#[49, 48, 50, 50, 49, 49, 49, 48]⟩ : ByteArray)[3]'h).toNat) = 50 := rfl
theorem pushRow4 (h : 4 < (⟨#[49, 48, 50, 50, 49, 49, 49, 48]⟩ : ByteArray).size) : (((⟨#[49, 48, 50, 50, 49, 49, 49, 48]⟩ : ByteArray)[4]'h).toNat) = 49 := rfl
theorem pushRow5 (h : 5 < (⟨#[49, 48, 50, 50, 49, 49, 49, 48]⟩ : ByteArray).size) : (((⟨#[49, 48, 50, 50, 49, 49, 49, 48]⟩ : ByteArray)[5]'h).toNat) = 49 := rfl
theorem pushRow6 (h : 6 < (⟨#[49, 48, 50, 50, 49, 49, 49, 48]⟩ : ByteArray).size) : (((⟨#[49, 48, 50, 50, 49, 49, 49, 48]⟩ : ByteArray)[6]'h).toNat) = 49 := rfl
theorem pushRow7 (h : 7 < (⟨#[49, 48, 50, 50, 49, 49, 49, 48]⟩ : ByteArray).size) : (((⟨#[49, 48, 50, 50, 49, 49, 49, 48]⟩ : ByteArray)[7]'h).toNat) = 48 := rfl
attribute [local go_sem] popRow0 popRow1 popRow2 popRow3 popRow4 popRow5 popRow6 popRow7 pushRow0 pushRow1 pushRow2 pushRow3 pushRow4 pushRow5 pushRow6 pushRow7

set_option maxHeartbeats 4000000 in
theorem LTable_walk (a0 : Int) (w : World) (w0 : (Lit.int .u8 a0).wf = true) :
    Calls Ybym.prog 10 #[.int .u8 a0] w fun e w' => e = .returned (.bool true) ∧ Below w.heap.size w w' := by
  have h0 := bounds_u8 w0
  obtain ⟨h, e1, e2⟩ | ⟨h, e1, e2⟩ | ⟨h, e1, e2⟩ | ⟨h, e1, e2⟩ | ⟨h, e1, e2⟩ | ⟨h, e1, e2⟩ | ⟨h, e1, e2⟩ | ⟨h, e1, e2⟩ | ⟨h, e1, e2⟩ := eff_cases a0 h0.1
  case inr.inr.inr.inr.inr.inr.inr.inr =>
    have d : decide (a0 < 8) = false := decide_eq_false (by omega)
    go_enter Ybym.func10, Ybym.ntmps10
    go_wp2_with (go_at_call 23; refine (effect_any _ (by omega) _).mono ?_; rintro e w' ⟨rfl, rfl⟩)
    go_ret
    exact ⟨rfl, Below.refl _ _⟩
  all_goals
    subst h
    go_enter Ybym.func10, Ybym.ntmps10
    go_wp2_with (go_at_call 23; refine (effect_any _ (by omega) _).mono ?_; rintro e w' ⟨rfl, rfl⟩)
    go_ret
    exact ⟨rfl, Below.refl _ _⟩
end Go.Proofs.Ymbrby

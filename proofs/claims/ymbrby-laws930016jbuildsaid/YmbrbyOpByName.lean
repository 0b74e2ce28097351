import Derived.Test.YmbrbyOpName
namespace Go.Proofs.Ymbrby
open Go.ChangeShapes Go.WideShapes Go.ChangeAt Go.RowKit
set_option linter.unusedVariables false
set_option linter.unusedSimpArgs false

/-- The search of OpByName: from opcode k on, f tries. -/
def opFrom (s : ByteArray) : Nat → Nat → Int × Bool
  | 0, _ => (0, false)
  | f + 1, k => if opName k = s then ((k : Int), true) else opFrom s f (k + 1)
def opBy (s : ByteArray) : Int × Bool := opFrom s 8 0

theorem opByName_any (s : ByteArray) (w : World) :
    Calls Ybym.prog 22 #[.string s] w fun e w' => e = .returned (.tuple #[.int .u8 (opBy s).1, .bool (opBy s).2]) ∧ w' = w := by
  go_enter Ybym.func22, Ybym.ntmps22
  go_wp2
  go_loop [4] (fun i => ∃ k : Nat, k ≤ 8 ∧ i = .int .u8 k ∧ Hid (opBy s = opFrom s (8 - k) k)) (fun i => 8 - (intOf i).toNat)
  case atStart => exact ⟨0, by omega, rfl, rfl⟩
  case round =>
    obtain ⟨k, hk, rfl, H⟩ := hrel
    by_cases hlt : k < 8
    · obtain ⟨f, hf⟩ : ∃ f, 8 - k = f + 1 := ⟨7 - k, by omega⟩
      have hf' : f = 8 - (k + 1) := by omega
      have H1 : Hid (opBy s = if opName k = s then ((k : Int), true) else opFrom s (8 - (k + 1)) (k + 1)) := by
        have h := H.out
        rw [hf] at h
        rw [← hf']
        exact h
      clear H hf hf'
      by_cases hs : opName k = s
      · have hb := eqb_pos hs
        have H2 : Hid (opBy s = ((k : Int), true)) := by have h := H1.out; rw [if_pos hs] at h; exact h
        clear H1 hs
        go_wp2_with (go_at_call 12; refine (opName_any _ (by omega) _).mono ?_; rintro e w' ⟨rfl, rfl⟩)
        go_ret2
        exact ⟨by rw [H2.out]; rfl, rfl⟩
      · have hb := eqb_neg hs
        have H2 : Hid (opBy s = opFrom s (8 - (k + 1)) (k + 1)) := by have h := H1.out; rw [if_neg hs] at h; exact h
        clear H1 hs
        go_wp2_with (go_at_call 12; refine (opName_any _ (by omega) _).mono ?_; rintro e w' ⟨rfl, rfl⟩)
        go_round
        case rel => exact ⟨k + 1, by omega, by go_num, H2⟩
        case measure => simp [intOf]; omega
    · obtain rfl : k = 8 := by omega
      have H2 : Hid (opBy s = (0, false)) := H
      clear H
      go_wp2
      go_ret2
      exact ⟨by rw [H2.out]; rfl, rfl⟩

/-! ### The plain law: OpByName of OpName -/
theorem opBy_cases (n : Int) (h0 : 0 ≤ n) : (n < 8 ∧ opBy (opName n) = (n, true)) ∨ (8 ≤ n ∧ opName n = ⟨#[]⟩ ∧ opBy (opName n) = (0, false)) := by
  by_cases h8 : n < 8
  · refine .inl ⟨h8, ?_⟩
    obtain h | h | h | h | h | h | h | h : n = 0 ∨ n = 1 ∨ n = 2 ∨ n = 3 ∨ n = 4 ∨ n = 5 ∨ n = 6 ∨ n = 7 := by omega
    all_goals
      subst h
      decide
  · have e : opName n = ⟨#[]⟩ := by
      unfold opName
      rw [if_neg (by omega), if_neg (by omega), if_neg (by omega), if_neg (by omega), if_neg (by omega), if_neg (by omega), if_neg (by omega), if_neg (by omega)]
    refine .inr ⟨by omega, e, ?_⟩
    rw [e]
    decide
end Go.Proofs.Ymbrby

import Derived.Test.YmbrbwOpByName
namespace Go.Proofs.Ymbrbw
open Go.ChangeShapes Go.WideShapes Go.ChangeAt Go.RowKit
set_option linter.unusedVariables false
set_option linter.unusedSimpArgs false

/-- A text is one of the eight mnemonics, or none of them. -/
theorem opBy_names (s : ByteArray) : (∃ n : Int, 0 ≤ n ∧ n < 8 ∧ s = opName n ∧ opBy s = (n, true)) ∨ ((∀ n : Int, 0 ≤ n → n < 8 → ¬ s = opName n) ∧ opBy s = (0, false)) := by
  by_cases h : ∃ n : Int, 0 ≤ n ∧ n < 8 ∧ s = opName n
  · obtain ⟨n, h0, h8, rfl⟩ := h
    obtain ⟨_, e⟩ | ⟨h', _, _⟩ := opBy_cases n h0
    · exact .inl ⟨n, h0, h8, rfl, e⟩
    · omega
  · have hn : ∀ n : Int, 0 ≤ n → n < 8 → ¬ s = opName n := fun n h0 h8 he => h ⟨n, h0, h8, he⟩
    refine .inr ⟨hn, ?_⟩
    have hf : ∀ f k : Nat, f + k ≤ 8 → opFrom s f k = (0, false) := by
      intro f
      induction f with
      | zero => intro k _; rfl
      | succ f ih =>
        intro k hk
        show (if opName k = s then ((k : Int), true) else opFrom s f (k + 1)) = _
        rw [if_neg (fun e => hn k (by omega) (by omega) e.symm)]
        exact ih (k + 1) (by omega)
    exact hf 8 0 (by omega)
end Go.Proofs.Ymbrbw

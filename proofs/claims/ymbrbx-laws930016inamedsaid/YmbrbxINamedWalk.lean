import Derived.Test.YmbrbxWellFormed
import Derived.Test.YmbrbxOpName
namespace Go.Proofs.Ymbrbx
open Go.ChangeShapes Go.WideShapes Go.ChangeAt Go.RowKit
set_option linter.unusedVariables false
set_option linter.unusedSimpArgs false

theorem opName_push (n : Int) (h0 : 0 ≤ n) (h8 : n < 8) : (((opName n).toList == [112, 117, 115, 104]) = decide (n = 0)) ∧ (((opName n).toList == [106, 110, 122]) = decide (n = 7)) := by
  have key : ∀ k : Nat, k < 8 → (((opName k).data.toList == [112, 117, 115, 104]) = decide ((k : Int) = 0)) ∧ (((opName k).data.toList == [106, 110, 122]) = decide ((k : Int) = 7)) := by decide
  obtain ⟨k, rfl⟩ : ∃ k : Nat, n = k := ⟨n.toNat, by omega⟩
  rw [Go.Lib.toList_data]
  exact key k (by omega)

set_option maxHeartbeats 4000000 in
theorem INamed_walk (a0 : Int) (a1 : Bool) (a2 : Int) (w : World) (w0 : (Lit.int .u8 a0).wf = true) (w2 : (Lit.int .i32 a2).wf = true) :
    Calls Ybxm.prog 14 #[.int .u8 a0, .bool a1, .int .i32 a2] w fun e w' => e = .returned (.bool true) ∧ Below w.heap.size w w' := by
  have h0 := bounds_u8 w0
  have key : ∀ n : Int, 0 ≤ n → (wfI n 0 = decide (n < 8)) := by
    intro n hn
    unfold wfI
    by_cases h : n < 8
    · rw [decide_eq_true h, decide_eq_true (by omega)]
    · rw [decide_eq_false h, decide_eq_false (by omega)]
  -- the opcode that is looked at
  obtain ⟨n, hn⟩ : ∃ n, n = if a1 then a0 % 10 else a0 := ⟨_, rfl⟩
  have n0 : 0 ≤ n := by rw [hn]; split <;> omega
  have k1 : wfI n 0 = decide (n < 8) := key n n0
  by_cases h8 : n < 8
  · have d8 : decide (n < 8) = true := decide_eq_true h8
    rw [d8] at k1
    obtain ⟨p1, p2⟩ := opName_push n n0 h8
    by_cases ha : a2 = 0
    · have na : (a2 == 0) = true := int_eq ha
      have k2 : wfI n a2 = true := decide_eq_true (by omega)
      clear ha p1 p2
      cases a1 with
      | true =>
        simp only [if_true] at hn
        subst hn
        go_enter Ybxm.func14, Ybxm.ntmps14
        go_wp2_with (first | (go_at_call 30; refine (wellFormed_any _ _ (by omega) _).mono ?_; rintro e w' ⟨rfl, rfl⟩) | (go_at_call 32; refine (opName_any _ (by omega) _).mono ?_; rintro e w' ⟨rfl, rfl⟩))
        go_ret
        exact ⟨rfl, ((Below.refl _ _).alloc (Nat.le_refl _) _).alloc (by simp) _⟩
      | false =>
        simp only [Bool.false_eq_true, if_false] at hn
        subst hn
        go_enter Ybxm.func14, Ybxm.ntmps14
        go_wp2_with (first | (go_at_call 30; refine (wellFormed_any _ _ (by omega) _).mono ?_; rintro e w' ⟨rfl, rfl⟩) | (go_at_call 32; refine (opName_any _ (by omega) _).mono ?_; rintro e w' ⟨rfl, rfl⟩))
        go_ret
        exact ⟨rfl, ((Below.refl _ _).alloc (Nat.le_refl _) _).alloc (by simp) _⟩
    · have na : (a2 == 0) = false := int_ne ha
      have k2 : wfI n a2 = (decide (n = 0) || decide (n = 7)) := by
        unfold wfI
        rw [← Bool.decide_or]
        exact decide_eq_decide.2 (by omega)
      clear ha
      rw [← p1, ← p2] at k2
      clear p1 p2
      cases a1 with
      | true =>
        simp only [if_true] at hn
        subst hn
        go_enter Ybxm.func14, Ybxm.ntmps14
        go_wp2_with (first | (go_at_call 30; refine (wellFormed_any _ _ (by omega) _).mono ?_; rintro e w' ⟨rfl, rfl⟩) | (go_at_call 32; refine (opName_any _ (by omega) _).mono ?_; rintro e w' ⟨rfl, rfl⟩))
        all_goals
          go_ret
          exact ⟨rfl, ((Below.refl _ _).alloc (Nat.le_refl _) _).alloc (by simp) _⟩
      | false =>
        simp only [Bool.false_eq_true, if_false] at hn
        subst hn
        go_enter Ybxm.func14, Ybxm.ntmps14
        go_wp2_with (first | (go_at_call 30; refine (wellFormed_any _ _ (by omega) _).mono ?_; rintro e w' ⟨rfl, rfl⟩) | (go_at_call 32; refine (opName_any _ (by omega) _).mono ?_; rintro e w' ⟨rfl, rfl⟩))
        all_goals
          go_ret
          exact ⟨rfl, ((Below.refl _ _).alloc (Nat.le_refl _) _).alloc (by simp) _⟩
  · have d8 : decide (n < 8) = false := decide_eq_false h8
    rw [d8] at k1
    have k2 : wfI n a2 = false := decide_eq_false (by omega)
    cases a1 with
    | true =>
      simp only [if_true] at hn
      subst hn
      go_enter Ybxm.func14, Ybxm.ntmps14
      go_wp2_with (first | (go_at_call 30; refine (wellFormed_any _ _ (by omega) _).mono ?_; rintro e w' ⟨rfl, rfl⟩) | (go_at_call 32; refine (opName_any _ (by omega) _).mono ?_; rintro e w' ⟨rfl, rfl⟩))
      go_ret
      exact ⟨rfl, ((Below.refl _ _).alloc (Nat.le_refl _) _).alloc (by simp) _⟩
    | false =>
      simp only [Bool.false_eq_true, if_false] at hn
      subst hn
      go_enter Ybxm.func14, Ybxm.ntmps14
      go_wp2_with (first | (go_at_call 30; refine (wellFormed_any _ _ (by omega) _).mono ?_; rintro e w' ⟨rfl, rfl⟩) | (go_at_call 32; refine (opName_any _ (by omega) _).mono ?_; rintro e w' ⟨rfl, rfl⟩))
      go_ret
      exact ⟨rfl, ((Below.refl _ _).alloc (Nat.le_refl _) _).alloc (by simp) _⟩
end Go.Proofs.Ymbrbx

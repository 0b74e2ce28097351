import Derived.Test.YmbrbwOpNames
namespace Go.Proofs.Ymbrbw
open Go.ChangeShapes Go.WideShapes Go.ChangeAt Go.RowKit

theorem aword_any (n : Int) (h0 : 0 ≤ n) (h8 : n < 8) (w : World) :
    Calls Ybwm.prog 17 #[.int .u8 n] w fun e w' => e = .returned (.string (opName n)) ∧ w' = w := by
  obtain h | h | h | h | h | h | h | h : n = 0 ∨ n = 1 ∨ n = 2 ∨ n = 3 ∨ n = 4 ∨ n = 5 ∨ n = 6 ∨ n = 7 := by omega
  all_goals
    subst h
    go_enter Ybwm.func17, Ybwm.ntmps17
    go_wp2
    go_ret
    exact ⟨rfl, rfl⟩

/-! ### The plain law: no mnemonic lies inside another -/
def nm (k : Nat) : List UInt8 := (opName k).data.toList
theorem nm_inside : ∀ n, n < 8 → ∀ i, i < 8 → ∀ p, p < 2 → (((nm n).drop p).take (nm i).length = nm i) → p = 0 ∧ (nm n).length = (nm i).length := by decide
theorem nm_len : ∀ n, n < 8 → 3 ≤ (nm n).length ∧ (nm n).length ≤ 4 := by decide
theorem nm_whole (B A : List UInt8) (i n : Nat) (hi : i < 8) (hn : n < 8) (h : B ++ nm i ++ A = nm n) : B = [] ∧ A = [] := by
  have hl := congrArg List.length h
  simp only [List.length_append] at hl
  have li := nm_len i hi
  have ln := nm_len n hn
  have key := nm_inside n hn i hi B.length (by omega) (by rw [← h]; simp)
  exact ⟨List.eq_nil_of_length_eq_zero key.1, List.eq_nil_of_length_eq_zero (by omega)⟩
theorem opBy_whole (B A : ByteArray) (i : Int) (h0 : 0 ≤ i) (h8 : i < 8) (hne : 0 < B.size ∨ 0 < A.size) : opBy (B ++ opName i ++ A) = (0, false) := by
  obtain ⟨n, n0, n8, hs, _⟩ | ⟨_, e⟩ := opBy_names (B ++ opName i ++ A)
  · exfalso
    obtain ⟨i', rfl⟩ : ∃ i' : Nat, i = i' := ⟨i.toNat, by omega⟩
    obtain ⟨n', rfl⟩ : ∃ n' : Nat, n = n' := ⟨n.toNat, by omega⟩
    have hl := congrArg (fun s : ByteArray => s.data.toList) hs
    simp only [ByteArray.data_append, Array.toList_append] at hl
    have := nm_whole B.data.toList A.data.toList i' n' (by omega) (by omega) hl
    have hB : B.size = 0 := by have := congrArg List.length this.1; simpa using this
    have hA : A.size = 0 := by have := congrArg List.length this.2; simpa using this
    omega
  · exact e

set_option maxHeartbeats 4000000 in
theorem AWhole_walk (a0 : Int) (a1 a2 : ByteArray) (w : World) (w0 : (Lit.int .u8 a0).wf = true) (w1 : a1.size ≤ maxLen) (w2 : a2.size ≤ maxLen) :
    Calls Ybwm.prog 5 #[.int .u8 a0, .string a1, .string a2] w fun e w' => e = .returned (.bool true) ∧ Below w.heap.size w w' := by
  have h0 := bounds_u8 w0
  unfold maxLen at w1 w2
  by_cases l1 : (1024 : Int) < (a1.size : Int)
  · go_enter Ybwm.func5, Ybwm.ntmps5
    go_wp2
    go_ret
    exact ⟨rfl, Below.refl _ _⟩
  by_cases l2 : (1024 : Int) < (a2.size : Int)
  · go_enter Ybwm.func5, Ybwm.ntmps5
    go_wp2
    go_ret
    exact ⟨rfl, Below.refl _ _⟩
  have i0 : 0 ≤ a0 % 8 := by omega
  have i8 : a0 % 8 < 8 := by omega
  have e : opBy (opName (a0 % 8)) = (a0 % 8, true) := by
    obtain ⟨_, e⟩ | ⟨h, _⟩ := opBy_cases (a0 % 8) i0
    · exact e
    · omega
  have e1 : (opBy (opName (a0 % 8))).1 = a0 % 8 := by rw [e]
  have e2 : (opBy (opName (a0 % 8))).2 = true := by rw [e]
  clear e
  have hsz : (opName (a0 % 8)).size ≤ 4 := opName_size _
  have ew := opBy_whole a1 a2 (a0 % 8) i0 i8
  by_cases z1 : 0 < a1.size ∨ 0 < a2.size
  · have e3 : (opBy (a1 ++ opName (a0 % 8) ++ a2)).1 = 0 := by rw [ew z1]
    have e4 : (opBy (a1 ++ opName (a0 % 8) ++ a2)).2 = false := by rw [ew z1]
    clear ew
    by_cases z3 : a1.size = 0
    · have z4 : ((a1.size : Int) == 0) = true := int_eq (by omega)
      have z5 : ((a2.size : Int) == 0) = false := int_ne (by omega)
      clear z3
      go_enter Ybwm.func5, Ybwm.ntmps5
      go_wp2_with (first | (go_at_call 17; refine (aword_any _ (by omega) (by omega) _).mono ?_; rintro e w' ⟨rfl, rfl⟩) | (go_at_call 15; refine (opByName_any _ _).mono ?_; rintro e w' ⟨rfl, rfl⟩))
      go_ret
      exact ⟨rfl, Below.refl _ _⟩
    · have z4 : ((a1.size : Int) == 0) = false := int_ne (by omega)
      clear z3
      go_enter Ybwm.func5, Ybwm.ntmps5
      go_wp2_with (first | (go_at_call 17; refine (aword_any _ (by omega) (by omega) _).mono ?_; rintro e w' ⟨rfl, rfl⟩) | (go_at_call 15; refine (opByName_any _ _).mono ?_; rintro e w' ⟨rfl, rfl⟩))
      go_ret
      exact ⟨rfl, Below.refl _ _⟩
  · have hB : a1 = ⟨#[]⟩ := str_ext (List.eq_nil_of_length_eq_zero (by have : ∀ s : ByteArray, s.data.toList.length = s.size := fun _ => rfl; rw [this]; omega))
    have hA : a2 = ⟨#[]⟩ := str_ext (List.eq_nil_of_length_eq_zero (by have : ∀ s : ByteArray, s.data.toList.length = s.size := fun _ => rfl; rw [this]; omega))
    subst hB hA
    have ec : (⟨#[]⟩ : ByteArray) ++ opName (a0 % 8) ++ ⟨#[]⟩ = opName (a0 % 8) := str_ext (by simp [ByteArray.data_append])
    have e3 : (opBy (⟨#[]⟩ ++ opName (a0 % 8) ++ ⟨#[]⟩)).1 = a0 % 8 := by rw [ec, e1]
    have e4 : (opBy (⟨#[]⟩ ++ opName (a0 % 8) ++ ⟨#[]⟩)).2 = true := by rw [ec, e2]
    clear ew ec
    go_enter Ybwm.func5, Ybwm.ntmps5
    go_wp2_with (first | (go_at_call 17; refine (aword_any _ (by omega) (by omega) _).mono ?_; rintro e w' ⟨rfl, rfl⟩) | (go_at_call 15; refine (opByName_any _ _).mono ?_; rintro e w' ⟨rfl, rfl⟩))
    go_ret
    exact ⟨rfl, Below.refl _ _⟩
end Go.Proofs.Ymbrbw

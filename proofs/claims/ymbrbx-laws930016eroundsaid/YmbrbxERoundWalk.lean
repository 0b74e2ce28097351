import Derived.Test.YmbrbxEDecimal
namespace Go.Proofs.Ymbrbx
open Go.ChangeShapes Go.WideShapes Go.ChangeAt Go.RowKit
set_option linter.unusedVariables false
set_option linter.unusedSimpArgs false

theorem tmod_bd (n : Int) (k : Int) (hk : 0 < k) : -k < n.tmod k ∧ n.tmod k < k := by
  constructor
  · have := Int.lt_tmod_of_pos n hk
    omega
  · exact Int.tmod_lt_of_pos n hk

/-- Reading back what was written. -/
theorem read_back (v : Int) (z : Nat) (h0 : -10000000000000 < v) (h1 : v < 10000000000000) (hz : z ≤ 255) : ∃ s : ByteArray,
    (∀ w, Calls Ybxm.prog 17 #[.int .i64 v, .int .i64 (z : Int)] w fun e w' => e = .returned (.string s) ∧ w' = w) ∧
    (∀ w, Calls Ybxm.prog 16 #[.string s] w fun e w' => e = .returned (.tuple #[.int .i32 (if -2147483648 ≤ v ∧ v ≤ 2147483647 then (v, true) else (0, false)).1, .bool (if -2147483648 ≤ v ∧ v ≤ 2147483647 then (v, true) else (0, false)).2]) ∧ w' = w) := by
  refine ⟨⟨(edec v z).toArray⟩, fun w => edecimal_any v z h0 h1 hz w, fun w => ?_⟩
  have hl : (edec v z).length ≤ 300 := by
    have h3 := dec_len13 v.natAbs (by omega)
    unfold edec
    split
    · rw [List.length_cons, zdec_len]; omega
    · rw [zdec_len]; omega
  have h := parseInt32_any ⟨(edec v z).toArray⟩ w (by
    show (edec v z).toArray.size ≤ maxLen
    rw [List.size_toArray]
    unfold maxLen
    omega)
  rw [← parse_edec v z]
  exact h

set_option maxHeartbeats 4000000 in
theorem ERound_walk (n a1 a2 : Int) (w : World) (w0 : (Lit.int .i64 n).wf = true) (w1 : (Lit.int .u8 a1).wf = true) (w2 : (Lit.int .u8 a2).wf = true) :
    Calls Ybxm.prog 4 #[.int .i64 n, .int .u8 a1, .int .u8 a2] w fun e w' => e = .returned (.bool true) ∧ Below w.heap.size w w' := by
  have b1 := bounds_u8 w1
  have b2 := bounds_u8 w2
  have b0 := bounds_i64 w0
  obtain ⟨t1, t2⟩ := tmod_bd n 1000 (by omega)
  obtain ⟨t3, t4⟩ := tmod_bd n 10000000000 (by omega)
  obtain ⟨z, hz⟩ : ∃ z : Nat, a2 % 16 = (z : Int) := ⟨(a2 % 16).toNat, by omega⟩
  have hz255 : z ≤ 255 := by omega
  have hq : a1 % 4 = 0 ∨ a1 % 4 = 1 ∨ a1 % 4 = 2 ∨ a1 % 4 = 3 := by omega
  rcases hq with hq | hq | hq | hq
  · obtain ⟨s, h1, h2⟩ := read_back (n.tmod 1000) z (by omega) (by omega) hz255
    by_cases hr : -2147483648 ≤ n.tmod 1000 ∧ n.tmod 1000 ≤ 2147483647
    · rw [if_pos hr] at h2
      have hr1 : -2147483648 ≤ n.tmod 1000 := hr.1
      have hr2 : n.tmod 1000 ≤ 2147483647 := hr.2
      clear hr
      go_enter Ybxm.func4, Ybxm.ntmps4
      go_wp2_with (first | (go_at_call 17; refine (h1 _).mono ?_; rintro e w' ⟨rfl, rfl⟩) | (go_at_call 16; refine (h2 _).mono ?_; rintro e w' ⟨rfl, rfl⟩))
      go_ret
      exact ⟨rfl, Below.refl _ _⟩
    · omega
  · obtain ⟨s, h1, h2⟩ := read_back (n.tmod 1000 + 2147483647) z (by omega) (by omega) hz255
    by_cases hr : -2147483648 ≤ n.tmod 1000 + 2147483647 ∧ n.tmod 1000 + 2147483647 ≤ 2147483647
    · rw [if_pos hr] at h2
      have hr1 : -2147483648 ≤ n.tmod 1000 + 2147483647 := hr.1
      have hr2 : n.tmod 1000 + 2147483647 ≤ 2147483647 := hr.2
      clear hr
      go_enter Ybxm.func4, Ybxm.ntmps4
      go_wp2_with (first | (go_at_call 17; refine (h1 _).mono ?_; rintro e w' ⟨rfl, rfl⟩) | (go_at_call 16; refine (h2 _).mono ?_; rintro e w' ⟨rfl, rfl⟩))
      go_ret
      exact ⟨rfl, Below.refl _ _⟩
    · rw [if_neg hr] at h2
      by_cases hlo : n.tmod 1000 + 2147483647 < -2147483648
      · omega
      · have hhi : 2147483647 < n.tmod 1000 + 2147483647 := by omega
        clear hr
        go_enter Ybxm.func4, Ybxm.ntmps4
        go_wp2_with (first | (go_at_call 17; refine (h1 _).mono ?_; rintro e w' ⟨rfl, rfl⟩) | (go_at_call 16; refine (h2 _).mono ?_; rintro e w' ⟨rfl, rfl⟩))
        go_ret
        exact ⟨rfl, Below.refl _ _⟩
  · obtain ⟨s, h1, h2⟩ := read_back (n.tmod 1000 - 2147483648) z (by omega) (by omega) hz255
    by_cases hr : -2147483648 ≤ n.tmod 1000 - 2147483648 ∧ n.tmod 1000 - 2147483648 ≤ 2147483647
    · rw [if_pos hr] at h2
      have hr1 : -2147483648 ≤ n.tmod 1000 - 2147483648 := hr.1
      have hr2 : n.tmod 1000 - 2147483648 ≤ 2147483647 := hr.2
      clear hr
      go_enter Ybxm.func4, Ybxm.ntmps4
      go_wp2_with (first | (go_at_call 17; refine (h1 _).mono ?_; rintro e w' ⟨rfl, rfl⟩) | (go_at_call 16; refine (h2 _).mono ?_; rintro e w' ⟨rfl, rfl⟩))
      go_ret
      exact ⟨rfl, Below.refl _ _⟩
    · rw [if_neg hr] at h2
      by_cases hlo : n.tmod 1000 - 2147483648 < -2147483648
      · clear hr
        go_enter Ybxm.func4, Ybxm.ntmps4
        go_wp2_with (first | (go_at_call 17; refine (h1 _).mono ?_; rintro e w' ⟨rfl, rfl⟩) | (go_at_call 16; refine (h2 _).mono ?_; rintro e w' ⟨rfl, rfl⟩))
        go_ret
        exact ⟨rfl, Below.refl _ _⟩
      · omega
  · obtain ⟨s, h1, h2⟩ := read_back (n.tmod 10000000000) z (by omega) (by omega) hz255
    by_cases hr : -2147483648 ≤ n.tmod 10000000000 ∧ n.tmod 10000000000 ≤ 2147483647
    · rw [if_pos hr] at h2
      have hr1 : -2147483648 ≤ n.tmod 10000000000 := hr.1
      have hr2 : n.tmod 10000000000 ≤ 2147483647 := hr.2
      clear hr
      go_enter Ybxm.func4, Ybxm.ntmps4
      go_wp2_with (first | (go_at_call 17; refine (h1 _).mono ?_; rintro e w' ⟨rfl, rfl⟩) | (go_at_call 16; refine (h2 _).mono ?_; rintro e w' ⟨rfl, rfl⟩))
      go_ret
      exact ⟨rfl, Below.refl _ _⟩
    · rw [if_neg hr] at h2
      by_cases hlo : n.tmod 10000000000 < -2147483648
      · clear hr
        go_enter Ybxm.func4, Ybxm.ntmps4
        go_wp2_with (first | (go_at_call 17; refine (h1 _).mono ?_; rintro e w' ⟨rfl, rfl⟩) | (go_at_call 16; refine (h2 _).mono ?_; rintro e w' ⟨rfl, rfl⟩))
        go_ret
        exact ⟨rfl, Below.refl _ _⟩
      · have hhi : 2147483647 < n.tmod 10000000000 := by omega
        clear hr
        go_enter Ybxm.func4, Ybxm.ntmps4
        go_wp2_with (first | (go_at_call 17; refine (h1 _).mono ?_; rintro e w' ⟨rfl, rfl⟩) | (go_at_call 16; refine (h2 _).mono ?_; rintro e w' ⟨rfl, rfl⟩))
        go_ret
        exact ⟨rfl, Below.refl _ _⟩
end Go.Proofs.Ymbrbx

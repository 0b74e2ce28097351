import Derived.Test.YmbrbyParseSpec
namespace Go.Proofs.Ymbrby
open Go.ChangeShapes Go.WideShapes Go.ChangeAt Go.RowKit
set_option linter.unusedVariables false
set_option linter.unusedSimpArgs false

set_option maxHeartbeats 4000000 in
theorem parseInt32_neg (s : ByteArray) (w : World) (hs : s.size ≤ maxLen) (h0 : 0 < s.size) (h45 : ((s[0].toNat : Int) == 45) = true) :
    Calls Ybym.prog 26 #[.string s] w fun e w' => e = .returned (.tuple #[.int .i32 (parseB true (s.data.toList.drop 1)).1, .bool (parseB true (s.data.toList.drop 1)).2]) ∧ w' = w := by
  have hne : ¬ s = ByteArray.empty := by intro e; rw [e] at h0; exact absurd h0 (by decide)
  unfold maxLen at hs
  by_cases h1 : s.size = 1
  · rw [show parseB true (s.data.toList.drop 1) = (0, false) from by
      rw [show s.data.toList.drop 1 = [] from List.drop_eq_nil_of_le (by have : s.data.toList.length = s.size := rfl; omega)]
      exact parseB_nil true]
    have hz1 : ((1 : Int) == (s.size : Int)) = true := int_eq (by omega)
    go_enter Ybym.func26, Ybym.ntmps26
    go_wp2
    go_ret2
    exact ⟨rfl, rfl⟩
  · have hz1 : ((1 : Int) == (s.size : Int)) = false := int_ne (by omega)
    obtain ⟨P, hP⟩ : ∃ P, P = parseB true (s.data.toList.drop 1) := ⟨_, rfl⟩
    rw [← hP]
    have HP : Hid (P = parseB true (s.data.toList.drop 1)) := hP
    clear hP
    go_enter Ybym.func26, Ybym.ntmps26
    go_wp2
    go_loop [4, 7] (fun i x => ∃ k : Nat, 1 ≤ k ∧ k ≤ s.size ∧ i = .int .i64 k ∧ x = .int .i64 (vseg s 1 k : Nat) ∧ vseg s 1 k ≤ 2147483648 ∧ (∀ c ∈ seg s 1 k, isDig c)) (fun i _ => s.size - (intOf i).toNat)
    case atStart => exact ⟨1, by omega, by omega, rfl, by rw [vseg_none]; rfl, by rw [vseg_none]; omega, by rw [seg_start]; simp⟩
    case round =>
      obtain ⟨k, hk1, hk2, rfl, rfl, hv, hd⟩ := hrel
      by_cases hlt : k < s.size
      · by_cases hc : isDig s[k]
        · have hc1 : 48 ≤ (s[k].toNat : Int) := by unfold isDig at hc; omega
          have hc2 : (s[k].toNat : Int) ≤ 57 := by unfold isDig at hc; omega
          have hst := vseg_step s 1 k hk1 hlt
          have HS : Hid (((vseg s 1 (k + 1) : Nat) : Int) = (vseg s 1 k : Int) * 10 + ((s[k].toNat : Int) - 48)) := by
            show _ = _
            rw [hst]
            omega
          clear hst
          by_cases hov : (2147483648 : Int) < (vseg s 1 k : Int) * 10 + ((s[k].toNat : Int) - 48)
          · have e : Hid (P = (0, false)) := by
              show _ = _
              rw [HP.out]
              refine parseB_big _ _ ?_
              have := vseg_le s 1 (k + 1) (by omega)
              have h3 := HS.out
              show 2147483648 < _
              omega
            clear HP hc hd
            go_wp2
            go_ret2
            exact ⟨by rw [e.out]; rfl, rfl⟩
          · have hd' := seg_dig_step s 1 k hk1 hlt hd hc
            clear HP hc hd
            go_wp2
            go_round
            case rel => exact ⟨k + 1, by omega, by omega, by go_num, by rw [HS.out], by have := HS.out; omega, hd'⟩
            case measure => simp [intOf]; omega
        · have e : Hid (P = (0, false)) := by
            show _ = _
            rw [HP.out]
            exact parseB_bad _ _ _ (at_mem s 1 k hk1 hlt) hc
          clear HP hd
          by_cases hc1 : (s[k].toNat : Int) < 48
          · clear hc
            go_wp2
            go_ret2
            exact ⟨by rw [e.out]; rfl, rfl⟩
          · have hc2 : (57 : Int) < (s[k].toNat : Int) := by unfold isDig at hc; omega
            clear hc
            go_wp2
            go_ret2
            exact ⟨by rw [e.out]; rfl, rfl⟩
      · obtain rfl : k = s.size := by omega
        have e : Hid (P = (-((vseg s 1 s.size : Nat) : Int), true)) := by
          show _ = _
          rw [HP.out, parseB_ok true (s.data.toList.drop 1) ?_ ?_ ?_, vseg_all]
          · rfl
          · intro he
            have := congrArg List.length he
            have hsz : s.data.toList.length = s.size := rfl
            rw [List.length_drop] at this
            simp only [List.length_nil] at this
            omega
          · rw [seg_all] at hd; exact hd
          · rw [vseg_all] at hv; exact hv
        clear HP hd
        go_wp2
        go_ret2
        exact ⟨by rw [e.out]; rfl, rfl⟩

set_option maxHeartbeats 4000000 in
theorem parseInt32_pos (s : ByteArray) (w : World) (hs : s.size ≤ maxLen) (h0 : 0 < s.size) (h45 : ((s[0].toNat : Int) == 45) = false) :
    Calls Ybym.prog 26 #[.string s] w fun e w' => e = .returned (.tuple #[.int .i32 (parseB false (s.data.toList.drop 0)).1, .bool (parseB false (s.data.toList.drop 0)).2]) ∧ w' = w := by
  have hne : ¬ s = ByteArray.empty := by intro e; rw [e] at h0; exact absurd h0 (by decide)
  unfold maxLen at hs
  by_cases h1 : s.size = 0
  · omega
  · have hz1 : ((0 : Int) == (s.size : Int)) = false := int_ne (by omega)
    obtain ⟨P, hP⟩ : ∃ P, P = parseB false (s.data.toList.drop 0) := ⟨_, rfl⟩
    rw [← hP]
    have HP : Hid (P = parseB false (s.data.toList.drop 0)) := hP
    clear hP
    go_enter Ybym.func26, Ybym.ntmps26
    go_wp2
    go_loop [4, 7] (fun i x => ∃ k : Nat, 0 ≤ k ∧ k ≤ s.size ∧ i = .int .i64 k ∧ x = .int .i64 (vseg s 0 k : Nat) ∧ vseg s 0 k ≤ 2147483647 ∧ (∀ c ∈ seg s 0 k, isDig c)) (fun i _ => s.size - (intOf i).toNat)
    case atStart => exact ⟨0, by omega, by omega, rfl, by rw [vseg_none]; rfl, by rw [vseg_none]; omega, by rw [seg_start]; simp⟩
    case round =>
      obtain ⟨k, hk1, hk2, rfl, rfl, hv, hd⟩ := hrel
      by_cases hlt : k < s.size
      · by_cases hc : isDig s[k]
        · have hc1 : 48 ≤ (s[k].toNat : Int) := by unfold isDig at hc; omega
          have hc2 : (s[k].toNat : Int) ≤ 57 := by unfold isDig at hc; omega
          have hst := vseg_step s 0 k hk1 hlt
          have HS : Hid (((vseg s 0 (k + 1) : Nat) : Int) = (vseg s 0 k : Int) * 10 + ((s[k].toNat : Int) - 48)) := by
            show _ = _
            rw [hst]
            omega
          clear hst
          by_cases hov : (2147483647 : Int) < (vseg s 0 k : Int) * 10 + ((s[k].toNat : Int) - 48)
          · have e : Hid (P = (0, false)) := by
              show _ = _
              rw [HP.out]
              refine parseB_big _ _ ?_
              have := vseg_le s 0 (k + 1) (by omega)
              have h3 := HS.out
              show 2147483647 < _
              omega
            clear HP hc hd
            go_wp2
            go_ret2
            exact ⟨by rw [e.out]; rfl, rfl⟩
          · have hd' := seg_dig_step s 0 k hk1 hlt hd hc
            clear HP hc hd
            go_wp2
            go_round
            case rel => exact ⟨k + 1, by omega, by omega, by go_num, by rw [HS.out], by have := HS.out; omega, hd'⟩
            case measure => simp [intOf]; omega
        · have e : Hid (P = (0, false)) := by
            show _ = _
            rw [HP.out]
            exact parseB_bad _ _ _ (at_mem s 0 k hk1 hlt) hc
          clear HP hd
          by_cases hc1 : (s[k].toNat : Int) < 48
          · clear hc
            go_wp2
            go_ret2
            exact ⟨by rw [e.out]; rfl, rfl⟩
          · have hc2 : (57 : Int) < (s[k].toNat : Int) := by unfold isDig at hc; omega
            clear hc
            go_wp2
            go_ret2
            exact ⟨by rw [e.out]; rfl, rfl⟩
      · obtain rfl : k = s.size := by omega
        have e : Hid (P = (((vseg s 0 s.size : Nat) : Int), true)) := by
          show _ = _
          rw [HP.out, parseB_ok false (s.data.toList.drop 0) ?_ ?_ ?_, vseg_all]
          · rfl
          · intro he
            have := congrArg List.length he
            have hsz : s.data.toList.length = s.size := rfl
            rw [List.length_drop] at this
            simp only [List.length_nil] at this
            omega
          · rw [seg_all] at hd; exact hd
          · rw [vseg_all] at hv; exact hv
        clear HP hd
        go_wp2
        go_ret2
        exact ⟨by rw [e.out]; rfl, rfl⟩

theorem parseInt32_none (w : World) :
    Calls Ybym.prog 26 #[.string ByteArray.empty] w fun e w' => e = .returned (.tuple #[.int .i32 0, .bool false]) ∧ w' = w := by
  go_enter Ybym.func26, Ybym.ntmps26
  go_wp2
  go_ret2
  exact ⟨rfl, rfl⟩

theorem parseInt32_any (s : ByteArray) (w : World) (hs : s.size ≤ maxLen) :
    Calls Ybym.prog 26 #[.string s] w fun e w' => e = .returned (.tuple #[.int .i32 (parseI s.data.toList).1, .bool (parseI s.data.toList).2]) ∧ w' = w := by
  by_cases h0 : 0 < s.size
  · by_cases h45 : (s[0].toNat : Int) = 45
    · rw [parse_neg s h0 h45]
      exact parseInt32_neg s w hs h0 (int_eq h45)
    · rw [parse_pos s h0 h45]
      exact parseInt32_pos s w hs h0 (int_ne h45)
  · have e : s = ByteArray.empty := str_ext (List.eq_nil_of_length_eq_zero (by have : s.data.toList.length = s.size := rfl; omega))
    subst e
    exact parseInt32_none w
end Go.Proofs.Ymbrby

import Derived.Test.YmbrbxValDrop
namespace Go.Proofs.Ymbrbx
open Go.ChangeShapes Go.WideShapes Go.ChangeAt Go.RowKit
set_option linter.unusedVariables false
set_option linter.unusedSimpArgs false

set_option maxHeartbeats 8000000 in
theorem espec_neg (s b : ByteArray) (w : World) (hs : s.size ≤ maxLen) (hbs : b.size ≤ s.size) (h0 : 0 < s.size) (h45 : ((s[0].toNat : Int) == 45) = true) (hsl : (Instr.slice 9 (.string s) (some (.int .i64 1)) none none).run Ybxm.prog w = .ok (.string b) w) :
    Calls Ybxm.prog 15 #[.string s] w fun e w' => e = .returned (.tuple #[.int .i32 (parseB true b.data.toList).1, .bool (parseB true b.data.toList).2]) ∧ w' = w := by
  have hne : ¬ s = ByteArray.empty := by intro e; rw [e] at h0; exact absurd h0 (by decide)
  unfold maxLen at hs
  by_cases h1 : b.size = 0
  · have e : b = ByteArray.empty := str_ext (List.eq_nil_of_length_eq_zero (by rw [bsize]; omega))
    subst e
    rw [show parseB true ByteArray.empty.data.toList = (0, false) from parseB_nil true]
    go_enter Ybxm.func15, Ybxm.ntmps15
    go_wp2
    go_ret2
    exact ⟨rfl, rfl⟩
  · have hz1 : ((b.size : Int) == 0) = false := int_ne (by omega)
    have hbne : ¬ b = ByteArray.empty := by intro e; rw [e] at h1; exact h1 rfl
    obtain ⟨P, hP⟩ : ∃ P, P = parseB true b.data.toList := ⟨_, rfl⟩
    rw [← hP]
    have HP : Hid (P = parseB true b.data.toList) := hP
    clear hP
    go_enter Ybxm.func15, Ybxm.ntmps15
    go_wp2
    go_loop [6] (fun i => ∃ k : Nat, k ≤ b.size ∧ i = .int .i64 k ∧ (∀ c ∈ seg b 0 k, isDig c)) (fun i => b.size - (intOf i).toNat)
    case atStart => exact ⟨0, by omega, rfl, by rw [seg_start]; simp⟩
    case round =>
      obtain ⟨k, hk, rfl, hd⟩ := hrel
      by_cases hlt : k < b.size
      · by_cases hc : isDig b[k]
        · have hc1 : 48 ≤ (b[k].toNat : Int) := by unfold isDig at hc; omega
          have hc2 : (b[k].toNat : Int) ≤ 57 := by unfold isDig at hc; omega
          have hd' := seg_dig_step b 0 k (by omega) hlt hd hc
          clear HP hc hd
          go_wp2
          go_round
          case rel => exact ⟨k + 1, by omega, by go_num, hd'⟩
          case measure => simp [intOf]; omega
        · have e : Hid (P = (0, false)) := by
            show _ = _
            rw [HP.out]
            exact parseB_bad _ _ _ (at_mem b 0 k (by omega) hlt) hc
          clear HP hd
          by_cases hc1 : (b[k].toNat : Int) < 48
          · clear hc
            go_wp2
            go_ret2
            exact ⟨by rw [e.out]; rfl, rfl⟩
          · have hc2 : (57 : Int) < (b[k].toNat : Int) := by unfold isDig at hc; omega
            clear hc
            go_wp2
            go_ret2
            exact ⟨by rw [e.out]; rfl, rfl⟩
      · obtain rfl : k = b.size := by omega
        have hall : ∀ c ∈ b.data.toList, isDig c := by rw [seg_all] at hd; exact hd
        have hdat : ∀ j, (h : j < b.size) → 48 ≤ (b[j].toNat : Int) ∧ (b[j].toNat : Int) ≤ 57 := by
          intro j h
          have := hall _ (at_mem b 0 j (by omega) h)
          unfold isDig at this
          omega
        clear hd hlt
        have HA : Hid (∀ c ∈ b.data.toList, isDig c) := hall
        have HD : Hid (∀ j, (h : j < b.size) → 48 ≤ (b[j].toNat : Int) ∧ (b[j].toNat : Int) ≤ 57) := hdat
        clear hall hdat
        go_wp2
        go_loop [7] (fun z => ∃ k : Nat, k ≤ b.size ∧ z = .int .i64 k ∧ Hid (vdrop b k = vdrop b 0)) (fun z => b.size - (intOf z).toNat)
        case atStart => exact ⟨0, by omega, rfl, rfl⟩
        case round =>
          obtain ⟨z, hz, rfl, HZ⟩ := hrel
          by_cases hzz : ∃ h : z < b.size, (b[z].toNat : Int) = 48
          · obtain ⟨hlt, h48⟩ := hzz
            have h48' : ((b[z].toNat : Int) == 48) = true := int_eq h48
            have HZ' : Hid (vdrop b (z + 1) = vdrop b 0) := by
              show _ = _
              rw [← vdrop_zero b z hlt (by omega)]
              exact HZ.out
            clear h48 HZ HP
            go_wp2
            go_round
            case rel => exact ⟨z + 1, by omega, by go_num, HZ'⟩
            case measure => simp [intOf]; omega
          · have hbig : ∀ h : z < b.size, 49 ≤ b[z].toNat := by
              intro h
              have h4 : ¬ (b[z].toNat : Int) = 48 := fun h4 => hzz ⟨h, h4⟩
              have h5 := (HD.out z h).1
              omega
            by_cases hlong : (10 : Int) < (b.size : Int) - (z : Int)
            · have hlt : z < b.size := by omega
              have hn48 : ((b[z].toNat : Int) == 48) = false := int_ne (by have := hbig hlt; omega)
              have e : Hid (P = (0, false)) := by
                show _ = _
                rw [HP.out]
                refine parseB_big _ _ ?_
                have h6 := vdrop_big b z (by omega) (hbig hlt)
                have h7 := HZ.out
                show 2147483648 < vdrop b 0
                omega
              clear hbig hzz HP
              go_wp2
              go_ret2
              exact ⟨by rw [e.out]; rfl, rfl⟩
            · have hex : ¬ z < b.size ∨ ∃ h : z < b.size, ((b[z].toNat : Int) == 48) = false := by
                by_cases h : z < b.size
                · exact .inr ⟨h, int_ne (by have := hbig h; omega)⟩
                · exact .inl h
              clear hbig hzz
              rcases hex with hnlt | ⟨hlt, hn48⟩
              all_goals
                go_wp2
                go_loop [8, 9, 10] (fun x p i => ∃ j : Nat, z ≤ j ∧ j ≤ b.size ∧ i = .int .i64 ((j : Int) - 1) ∧ x = .int .i64 (vdrop b j : Nat) ∧ p = .int .i64 ((10 ^ (b.size - j) : Nat) : Int)) (fun _ _ i => (intOf i + 1).toNat)
                case atStart => exact ⟨b.size, hz, by omega, by go_num, by rw [vdrop_end]; rfl, by rw [Nat.sub_self]; rfl⟩
                case round =>
                  obtain ⟨j, hj1, hj2, rfl, rfl, rfl⟩ := hrel
                  by_cases hjz : z < j
                  · obtain ⟨i, rfl⟩ : ∃ i, j = i + 1 := ⟨j - 1, by omega⟩
                    have hib : i < b.size := by omega
                    have hi0 : ((i + 1 : Nat) : Int) - 1 = (i : Int) := by omega
                    rw [hi0]
                    clear hi0
                    obtain ⟨q, hq⟩ : ∃ q : Nat, q = 10 ^ (b.size - (i + 1)) := ⟨_, rfl⟩
                    have hq1 : q ≤ 1000000000 := by rw [hq]; exact pow10_le _ (by omega)
                    have hst := vdrop_step b i hib
                    have hvl := vdrop_lt b (i + 1) HA.out
                    rw [← hq] at hst hvl ⊢
                    obtain ⟨hd1, hd2⟩ := HD.out i hib
                    have hpr1 := mul_bound (b[i].toNat - 48) q (by omega) hq1
                    have hpr : (((b[i].toNat - 48) * q : Nat) : Int) = ((b[i].toNat : Int) - 48) * (q : Int) := by
                      rw [Int.natCast_mul]
                      congr 1
                      omega
                    have hpp1 : 0 ≤ ((b[i].toNat : Int) - 48) * (q : Int) := by omega
                    have hpp2 : ((b[i].toNat : Int) - 48) * (q : Int) ≤ 9000000000 := by omega
                    have HS : Hid (((vdrop b i : Nat) : Int) = (vdrop b (i + 1) : Int) + ((b[i].toNat : Int) - 48) * (q : Int)) := by
                      show _ = _
                      rw [hst]
                      omega
                    have HQ : Hid ((10 ^ (b.size - i) : Nat) = q * 10) := by
                      show _ = _
                      rw [show b.size - i = (b.size - (i + 1)) + 1 from by omega, pow10_succ, ← hq]
                    clear hst hpr hpr1 hq HP HZ
                    go_wp2
                    all_goals
                      go_round
                      case rel => exact ⟨i, by omega, by omega, rfl, by rw [HS.out], by rw [HQ.out]; go_num⟩
                      case measure => simp [intOf] <;> omega
                  · obtain rfl : j = z := by omega
                    have hlv := vdrop_lt b j HA.out
                    have hl10 : 10 ^ (b.size - j) ≤ 10 ^ 10 := Nat.pow_le_pow_right (by omega) (by omega)
                    have hv10 : vdrop b j < 10000000000 := by omega
                    clear hlv hl10
                    by_cases hov : (2147483648 : Int) < (vdrop b j : Int)
                    · have e : Hid (P = (0, false)) := by
                        show _ = _
                        rw [HP.out]
                        refine parseB_big _ _ ?_
                        have h7 := HZ.out
                        show 2147483648 < vdrop b 0
                        omega
                      have hov' : -(vdrop b j : Int) < -2147483648 := by omega
                      clear HP
                      go_wp2
                      go_ret2
                      exact ⟨by rw [e.out]; rfl, rfl⟩
                    · have e : Hid (P = (-((vdrop b j : Nat) : Int), true)) := by
                        show _ = _
                        rw [HP.out, parseB_ok true b.data.toList ?_ HA.out ?_, HZ.out]
                        · rfl
                        · intro he
                          have := congrArg List.length he
                          rw [bsize] at this
                          simp only [List.length_nil] at this
                          omega
                        · have h7 := HZ.out
                          show vdrop b 0 ≤ 2147483648
                          omega
                      clear HP
                      go_wp2
                      go_ret2
                      exact ⟨by rw [e.out]; rfl, rfl⟩

set_option maxHeartbeats 8000000 in
theorem espec_pos (b : ByteArray) (w : World) (hs : b.size ≤ maxLen) (h0 : 0 < b.size) (h45 : ((b[0].toNat : Int) == 45) = false) :
    Calls Ybxm.prog 15 #[.string b] w fun e w' => e = .returned (.tuple #[.int .i32 (parseB false b.data.toList).1, .bool (parseB false b.data.toList).2]) ∧ w' = w := by
  have hne : ¬ b = ByteArray.empty := by intro e; rw [e] at h0; exact absurd h0 (by decide)
  unfold maxLen at hs
  by_cases h1 : b.size = 0
  · omega
  · have hz1 : ((b.size : Int) == 0) = false := int_ne (by omega)
    obtain ⟨P, hP⟩ : ∃ P, P = parseB false b.data.toList := ⟨_, rfl⟩
    rw [← hP]
    have HP : Hid (P = parseB false b.data.toList) := hP
    clear hP
    go_enter Ybxm.func15, Ybxm.ntmps15
    go_wp2
    go_loop [6] (fun i => ∃ k : Nat, k ≤ b.size ∧ i = .int .i64 k ∧ (∀ c ∈ seg b 0 k, isDig c)) (fun i => b.size - (intOf i).toNat)
    case atStart => exact ⟨0, by omega, rfl, by rw [seg_start]; simp⟩
    case round =>
      obtain ⟨k, hk, rfl, hd⟩ := hrel
      by_cases hlt : k < b.size
      · by_cases hc : isDig b[k]
        · have hc1 : 48 ≤ (b[k].toNat : Int) := by unfold isDig at hc; omega
          have hc2 : (b[k].toNat : Int) ≤ 57 := by unfold isDig at hc; omega
          have hd' := seg_dig_step b 0 k (by omega) hlt hd hc
          clear HP hc hd
          go_wp2
          go_round
          case rel => exact ⟨k + 1, by omega, by go_num, hd'⟩
          case measure => simp [intOf]; omega
        · have e : Hid (P = (0, false)) := by
            show _ = _
            rw [HP.out]
            exact parseB_bad _ _ _ (at_mem b 0 k (by omega) hlt) hc
          clear HP hd
          by_cases hc1 : (b[k].toNat : Int) < 48
          · clear hc
            go_wp2
            go_ret2
            exact ⟨by rw [e.out]; rfl, rfl⟩
          · have hc2 : (57 : Int) < (b[k].toNat : Int) := by unfold isDig at hc; omega
            clear hc
            go_wp2
            go_ret2
            exact ⟨by rw [e.out]; rfl, rfl⟩
      · obtain rfl : k = b.size := by omega
        have hall : ∀ c ∈ b.data.toList, isDig c := by rw [seg_all] at hd; exact hd
        have hdat : ∀ j, (h : j < b.size) → 48 ≤ (b[j].toNat : Int) ∧ (b[j].toNat : Int) ≤ 57 := by
          intro j h
          have := hall _ (at_mem b 0 j (by omega) h)
          unfold isDig at this
          omega
        clear hd hlt
        have HA : Hid (∀ c ∈ b.data.toList, isDig c) := hall
        have HD : Hid (∀ j, (h : j < b.size) → 48 ≤ (b[j].toNat : Int) ∧ (b[j].toNat : Int) ≤ 57) := hdat
        clear hall hdat
        go_wp2
        go_loop [7] (fun z => ∃ k : Nat, k ≤ b.size ∧ z = .int .i64 k ∧ Hid (vdrop b k = vdrop b 0)) (fun z => b.size - (intOf z).toNat)
        case atStart => exact ⟨0, by omega, rfl, rfl⟩
        case round =>
          obtain ⟨z, hz, rfl, HZ⟩ := hrel
          by_cases hzz : ∃ h : z < b.size, (b[z].toNat : Int) = 48
          · obtain ⟨hlt, h48⟩ := hzz
            have h48' : ((b[z].toNat : Int) == 48) = true := int_eq h48
            have HZ' : Hid (vdrop b (z + 1) = vdrop b 0) := by
              show _ = _
              rw [← vdrop_zero b z hlt (by omega)]
              exact HZ.out
            clear h48 HZ HP
            go_wp2
            go_round
            case rel => exact ⟨z + 1, by omega, by go_num, HZ'⟩
            case measure => simp [intOf]; omega
          · have hbig : ∀ h : z < b.size, 49 ≤ b[z].toNat := by
              intro h
              have h4 : ¬ (b[z].toNat : Int) = 48 := fun h4 => hzz ⟨h, h4⟩
              have h5 := (HD.out z h).1
              omega
            by_cases hlong : (10 : Int) < (b.size : Int) - (z : Int)
            · have hlt : z < b.size := by omega
              have hn48 : ((b[z].toNat : Int) == 48) = false := int_ne (by have := hbig hlt; omega)
              have e : Hid (P = (0, false)) := by
                show _ = _
                rw [HP.out]
                refine parseB_big _ _ ?_
                have h6 := vdrop_big b z (by omega) (hbig hlt)
                have h7 := HZ.out
                show 2147483647 < vdrop b 0
                omega
              clear hbig hzz HP
              go_wp2
              go_ret2
              exact ⟨by rw [e.out]; rfl, rfl⟩
            · have hex : ¬ z < b.size ∨ ∃ h : z < b.size, ((b[z].toNat : Int) == 48) = false := by
                by_cases h : z < b.size
                · exact .inr ⟨h, int_ne (by have := hbig h; omega)⟩
                · exact .inl h
              clear hbig hzz
              rcases hex with hnlt | ⟨hlt, hn48⟩
              all_goals
                go_wp2
                go_loop [8, 9, 10] (fun x p i => ∃ j : Nat, z ≤ j ∧ j ≤ b.size ∧ i = .int .i64 ((j : Int) - 1) ∧ x = .int .i64 (vdrop b j : Nat) ∧ p = .int .i64 ((10 ^ (b.size - j) : Nat) : Int)) (fun _ _ i => (intOf i + 1).toNat)
                case atStart => exact ⟨b.size, hz, by omega, by go_num, by rw [vdrop_end]; rfl, by rw [Nat.sub_self]; rfl⟩
                case round =>
                  obtain ⟨j, hj1, hj2, rfl, rfl, rfl⟩ := hrel
                  by_cases hjz : z < j
                  · obtain ⟨i, rfl⟩ : ∃ i, j = i + 1 := ⟨j - 1, by omega⟩
                    have hib : i < b.size := by omega
                    have hi0 : ((i + 1 : Nat) : Int) - 1 = (i : Int) := by omega
                    rw [hi0]
                    clear hi0
                    obtain ⟨q, hq⟩ : ∃ q : Nat, q = 10 ^ (b.size - (i + 1)) := ⟨_, rfl⟩
                    have hq1 : q ≤ 1000000000 := by rw [hq]; exact pow10_le _ (by omega)
                    have hst := vdrop_step b i hib
                    have hvl := vdrop_lt b (i + 1) HA.out
                    rw [← hq] at hst hvl ⊢
                    obtain ⟨hd1, hd2⟩ := HD.out i hib
                    have hpr1 := mul_bound (b[i].toNat - 48) q (by omega) hq1
                    have hpr : (((b[i].toNat - 48) * q : Nat) : Int) = ((b[i].toNat : Int) - 48) * (q : Int) := by
                      rw [Int.natCast_mul]
                      congr 1
                      omega
                    have hpp1 : 0 ≤ ((b[i].toNat : Int) - 48) * (q : Int) := by omega
                    have hpp2 : ((b[i].toNat : Int) - 48) * (q : Int) ≤ 9000000000 := by omega
                    have HS : Hid (((vdrop b i : Nat) : Int) = (vdrop b (i + 1) : Int) + ((b[i].toNat : Int) - 48) * (q : Int)) := by
                      show _ = _
                      rw [hst]
                      omega
                    have HQ : Hid ((10 ^ (b.size - i) : Nat) = q * 10) := by
                      show _ = _
                      rw [show b.size - i = (b.size - (i + 1)) + 1 from by omega, pow10_succ, ← hq]
                    clear hst hpr hpr1 hq HP HZ
                    go_wp2
                    all_goals
                      go_round
                      case rel => exact ⟨i, by omega, by omega, rfl, by rw [HS.out], by rw [HQ.out]; go_num⟩
                      case measure => simp [intOf] <;> omega
                  · obtain rfl : j = z := by omega
                    have hlv := vdrop_lt b j HA.out
                    have hl10 : 10 ^ (b.size - j) ≤ 10 ^ 10 := Nat.pow_le_pow_right (by omega) (by omega)
                    have hv10 : vdrop b j < 10000000000 := by omega
                    clear hlv hl10
                    by_cases hov : (2147483647 : Int) < (vdrop b j : Int)
                    · have e : Hid (P = (0, false)) := by
                        show _ = _
                        rw [HP.out]
                        refine parseB_big _ _ ?_
                        have h7 := HZ.out
                        show 2147483647 < vdrop b 0
                        omega
                      have hov' : (2147483647 : Int) < (vdrop b j : Int) := by omega
                      clear HP
                      go_wp2
                      go_ret2
                      exact ⟨by rw [e.out]; rfl, rfl⟩
                    · have e : Hid (P = (((vdrop b j : Nat) : Int), true)) := by
                        show _ = _
                        rw [HP.out, parseB_ok false b.data.toList ?_ HA.out ?_, HZ.out]
                        · rfl
                        · intro he
                          have := congrArg List.length he
                          rw [bsize] at this
                          simp only [List.length_nil] at this
                          omega
                        · have h7 := HZ.out
                          show vdrop b 0 ≤ 2147483647
                          omega
                      clear HP
                      go_wp2
                      go_ret2
                      exact ⟨by rw [e.out]; rfl, rfl⟩

theorem espec_none (w : World) :
    Calls Ybxm.prog 15 #[.string ByteArray.empty] w fun e w' => e = .returned (.tuple #[.int .i32 0, .bool false]) ∧ w' = w := by
  go_enter Ybxm.func15, Ybxm.ntmps15
  go_wp2
  go_ret2
  exact ⟨rfl, rfl⟩

theorem espec_any (s : ByteArray) (w : World) (hs : s.size ≤ maxLen) :
    Calls Ybxm.prog 15 #[.string s] w fun e w' => e = .returned (.tuple #[.int .i32 (parseI s.data.toList).1, .bool (parseI s.data.toList).2]) ∧ w' = w := by
  by_cases h0 : 0 < s.size
  · by_cases h45 : (s[0].toNat : Int) = 45
    · rw [parse_neg s h0 h45, ← extract_one]
      refine espec_neg s (s.extract 1 s.size) w hs (by rw [ByteArray.size_extract]; omega) h0 (int_eq h45) ?_
      rw [run_slice_string_from_if w 9 s .i64 1 Ybxm.underlying9, if_pos (by omega)]
      rfl
    · rw [parse_pos s h0 h45]
      exact espec_pos s w hs h0 (int_ne h45)
  · have e : s = ByteArray.empty := str_ext (List.eq_nil_of_length_eq_zero (by rw [bsize]; omega))
    subst e
    exact espec_none w
end Go.Proofs.Ymbrbx

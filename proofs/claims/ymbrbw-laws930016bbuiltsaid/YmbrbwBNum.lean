import Derived.Test.YmbrbwValDrop
namespace Go.Proofs.Ymbrbw
open Go.ChangeShapes Go.WideShapes Go.ChangeAt Go.RowKit
set_option linter.unusedVariables false
set_option linter.unusedSimpArgs false

def strLen : Value → Nat
  | .string s => s.size
  | _ => 0

set_option maxHeartbeats 8000000 in
theorem bnum_neg (s b : ByteArray) (w : World) (hs : s.size ≤ maxLen) (hbs : b.size ≤ s.size) (h0 : 0 < s.size) (h45 : ((s[0].toNat : Int) == 45) = true) (hsl : (Instr.slice 9 (.string s) (some (.int .i64 1)) none none).run Ybwm.prog w = .ok (.string b) w) :
    Calls Ybwm.prog 36 #[.string s] w fun e w' => e = .returned (.tuple #[.int .i32 (parseB true b.data.toList).1, .bool (parseB true b.data.toList).2]) ∧ w' = w := by
  have hne : ¬ s = ByteArray.empty := by intro e; rw [e] at h0; exact absurd h0 (by decide)
  unfold maxLen at hs
  by_cases h1 : b.size = 0
  · have e : b = ByteArray.empty := str_ext (List.eq_nil_of_length_eq_zero (by rw [bsize]; omega))
    subst e
    rw [show parseB true ByteArray.empty.data.toList = (0, false) from parseB_nil true]
    go_enter Ybwm.func36, Ybwm.ntmps36
    go_wp2
    go_ret2
    exact ⟨rfl, rfl⟩
  · have hz1 : ((b.size : Int) == 0) = false := int_ne (by omega)
    have hbne : ¬ b = ByteArray.empty := by intro e; rw [e] at h1; exact h1 rfl
    obtain ⟨P, hP⟩ : ∃ P, P = parseB true b.data.toList := ⟨_, rfl⟩
    rw [← hP]
    have HP : Hid (P = parseB true b.data.toList) := hP
    clear hP
    go_enter Ybwm.func36, Ybwm.ntmps36
    go_wp2
    go_loop [5] (fun i => ∃ k : Nat, k ≤ b.size ∧ i = .int .i64 k ∧ (∀ c ∈ seg b 0 k, isDig c)) (fun i => b.size - (intOf i).toNat)
    case atStart => exact ⟨0, by omega, rfl, by rw [seg_start]; simp⟩
    case round =>
      obtain ⟨k, hk, rfl, hd⟩ := hrel
      by_cases hlt : k < b.size
      · by_cases hc : isDig b[k]
        · have hc1 : 48 ≤ (b[k].toNat : Int) := by unfold isDig at hc; omega
          have hc2 : (b[k].toNat : Int) ≤ 57 := by unfold isDig at hc; omega
          have hd' := seg_dig_step b 0 k (by omega) hlt hd hc
          clear HP hc hd
          go_wp2
          go_round
          case rel => exact ⟨k + 1, by omega, by go_num, hd'⟩
          case measure => simp [intOf]; omega
        · have e : Hid (P = (0, false)) := by
            show _ = _
            rw [HP.out]
            exact parseB_bad _ _ _ (at_mem b 0 k (by omega) hlt) hc
          clear HP hd
          by_cases hc1 : (b[k].toNat : Int) < 48
          · clear hc
            go_wp2
            go_ret2
            exact ⟨by rw [e.out]; rfl, rfl⟩
          · have hc2 : (57 : Int) < (b[k].toNat : Int) := by unfold isDig at hc; omega
            clear hc
            go_wp2
            go_ret2
            exact ⟨by rw [e.out]; rfl, rfl⟩
      · obtain rfl : k = b.size := by omega
        have HA : Hid (∀ c ∈ b.data.toList, isDig c) := by rw [seg_all] at hd; exact hd
        have hbm : b.size ≤ 9223372036854775807 := by omega
        clear hd
        go_wp2
        go_loop [0] (fun x => ∃ c : ByteArray, x = .string c ∧ c.size ≤ b.size ∧ Hid (val c.data.toList = val b.data.toList) ∧ Hid (∀ q ∈ c.data.toList, isDig q)) (fun x => strLen x)
        case atStart => exact ⟨b, rfl, by omega, rfl, HA⟩
        case round =>
          obtain ⟨c, rfl, hcb, HZ, HC⟩ := hrel
          by_cases hzz : ∃ h : 0 < c.size, (c[0].toNat : Int) = 48
          · obtain ⟨hlt, h48⟩ := hzz
            have h48' : ((c[0].toNat : Int) == 48) = true := int_eq h48
            have hcne : ¬ c = ByteArray.empty := by intro e; rw [e] at hlt; exact absurd hlt (by decide)
            have hcons : Hid (c.data.toList = c[0] :: (c.extract 1 c.size).data.toList) := by
              show _ = _
              rw [extract_one, ← drop_cons c 0 hlt]
              rfl
            have HZ' : Hid (val (c.extract 1 c.size).data.toList = val b.data.toList) := by
              show _ = _
              rw [← HZ.out, hcons.out, val_cons, show c[0].toNat = 48 from by omega]
              simp
            have HC' : Hid (∀ q ∈ (c.extract 1 c.size).data.toList, isDig q) := by
              intro q hq
              refine HC.out q ?_
              rw [hcons.out]
              exact List.mem_cons_of_mem _ hq
            have hsz : (c.extract 1 c.size).size = c.size - 1 := by rw [ByteArray.size_extract]; omega
            have HSZ : Hid ((c.extract 1 c.size).size = c.size - 1) := hsz
            clear h48 HZ HP hcons HC hsz
            go_wp2
            go_round
            case rel => exact ⟨_, rfl, by rw [HSZ.out]; omega, HZ', HC'⟩
            case measure =>
              show strLen (.string (c.extract 1 c.size)) < strLen (.string c)
              show (c.extract 1 c.size).size < c.size
              rw [HSZ.out]
              omega
          · have hbig : ∀ h : 0 < c.size, 49 ≤ c[0].toNat := by
              intro h
              have h4 : ¬ (c[0].toNat : Int) = 48 := fun h4 => hzz ⟨h, h4⟩
              have h5 := HC.out _ (at_mem c 0 0 (by omega) h)
              unfold isDig at h5
              omega
            by_cases hlong : (10 : Int) < (c.size : Int)
            · have hlt : 0 < c.size := by omega
              have hn48 : ((c[0].toNat : Int) == 48) = false := int_ne (by have := hbig hlt; omega)
              have hcne : ¬ c = ByteArray.empty := by intro e; rw [e] at hlt; exact absurd hlt (by decide)
              have e : Hid (P = (0, false)) := by
                show _ = _
                rw [HP.out]
                refine parseB_big _ _ ?_
                have h6 := vdrop_big c 0 (by omega) (hbig hlt)
                have h7 := HZ.out
                unfold vdrop at h6
                rw [List.drop_zero] at h6
                show 2147483648 < _
                omega
              clear hbig hzz HP
              go_wp2
              go_ret2
              exact ⟨by rw [e.out]; rfl, rfl⟩
            · have hex : c = ByteArray.empty ∨ ∃ h : 0 < c.size, ((c[0].toNat : Int) == 48) = false ∧ ¬ c = ByteArray.empty := by
                by_cases h : 0 < c.size
                · exact .inr ⟨h, int_ne (by have := hbig h; omega), by intro e; rw [e] at h; exact absurd h (by decide)⟩
                · exact .inl (str_ext (List.eq_nil_of_length_eq_zero (by rw [bsize]; omega)))
              clear hbig hzz
              have hvb : ∀ k, k ≤ c.size → vseg c 0 k < 10000000000 := fun k hk => vseg_lt c 0 k hk (by omega) (fun q hq => HC.out q (by rw [List.drop_zero] at hq; exact hq))
              have HVB : Hid (∀ k, k ≤ c.size → vseg c 0 k < 10000000000) := hvb
              clear hvb
              rcases hex with rfl | ⟨hlt, hn48, hcne⟩
              · go_wp2
                go_loop [6, 7] (fun x i => ∃ k : Nat, k ≤ ByteArray.empty.size ∧ i = .int .i64 k ∧ x = .int .i64 (vseg ByteArray.empty 0 k : Nat)) (fun _ i => ByteArray.empty.size - (intOf i).toNat)
                case atStart => exact ⟨0, by omega, rfl, by rw [vseg_none]; rfl⟩
                case round =>
                  obtain ⟨k, hk, rfl, rfl⟩ := hrel
                  have hvk := HVB.out k hk
                  by_cases hkl : k < ByteArray.empty.size
                  · have hdk := HC.out _ (at_mem ByteArray.empty 0 k (by omega) hkl)
                    have hd1 : 48 ≤ (ByteArray.empty[k].toNat : Int) := by unfold isDig at hdk; omega
                    have hd2 : (ByteArray.empty[k].toNat : Int) ≤ 57 := by unfold isDig at hdk; omega
                    have HS : Hid (((vseg ByteArray.empty 0 (k + 1) : Nat) : Int) = (vseg ByteArray.empty 0 k : Int) * 10 + (ByteArray.empty[k].toNat : Int) - 48) := by
                      show _ = _
                      rw [vseg_step ByteArray.empty 0 k (by omega) hkl]
                      omega
                    clear hdk HP HZ
                    go_wp2
                    all_goals
                      go_round
                      case rel => exact ⟨k + 1, by omega, by go_num, by rw [HS.out]⟩
                      case measure => simp [intOf] <;> omega
                  · have hkc : k = ByteArray.empty.size := by omega
                    have HVC : Hid (vseg ByteArray.empty 0 k = val b.data.toList) := by
                      show _ = _
                      rw [hkc, vseg_all, List.drop_zero]
                      exact HZ.out
                    clear hkc
                    by_cases hov : (2147483648 : Int) < (vseg ByteArray.empty 0 k : Int)
                    · have e : Hid (P = (0, false)) := by
                        show _ = _
                        rw [HP.out]
                        refine parseB_big _ _ ?_
                        have h7 := HVC.out
                        show 2147483648 < _
                        omega
                      have hov' : -(vseg ByteArray.empty 0 k : Int) < -2147483648 := by omega
                      clear HP
                      go_wp2
                      go_ret2
                      exact ⟨by rw [e.out]; rfl, rfl⟩
                    · have e : Hid (P = (-((vseg ByteArray.empty 0 k : Nat) : Int), true)) := by
                        show _ = _
                        rw [HP.out, parseB_ok true b.data.toList ?_ HA.out ?_, HVC.out]
                        · rfl
                        · intro he
                          have := congrArg List.length he
                          rw [bsize] at this
                          simp only [List.length_nil] at this
                          omega
                        · have h7 := HVC.out
                          show _ ≤ 2147483648
                          omega
                      clear HP
                      go_wp2
                      go_ret2
                      exact ⟨by rw [e.out]; rfl, rfl⟩
              · go_wp2
                go_loop [6, 7] (fun x i => ∃ k : Nat, k ≤ c.size ∧ i = .int .i64 k ∧ x = .int .i64 (vseg c 0 k : Nat)) (fun _ i => c.size - (intOf i).toNat)
                case atStart => exact ⟨0, by omega, rfl, by rw [vseg_none]; rfl⟩
                case round =>
                  obtain ⟨k, hk, rfl, rfl⟩ := hrel
                  have hvk := HVB.out k hk
                  by_cases hkl : k < c.size
                  · have hdk := HC.out _ (at_mem c 0 k (by omega) hkl)
                    have hd1 : 48 ≤ (c[k].toNat : Int) := by unfold isDig at hdk; omega
                    have hd2 : (c[k].toNat : Int) ≤ 57 := by unfold isDig at hdk; omega
                    have HS : Hid (((vseg c 0 (k + 1) : Nat) : Int) = (vseg c 0 k : Int) * 10 + (c[k].toNat : Int) - 48) := by
                      show _ = _
                      rw [vseg_step c 0 k (by omega) hkl]
                      omega
                    clear hdk HP HZ
                    go_wp2
                    all_goals
                      go_round
                      case rel => exact ⟨k + 1, by omega, by go_num, by rw [HS.out]⟩
                      case measure => simp [intOf] <;> omega
                  · have hkc : k = c.size := by omega
                    have HVC : Hid (vseg c 0 k = val b.data.toList) := by
                      show _ = _
                      rw [hkc, vseg_all, List.drop_zero]
                      exact HZ.out
                    clear hkc
                    by_cases hov : (2147483648 : Int) < (vseg c 0 k : Int)
                    · have e : Hid (P = (0, false)) := by
                        show _ = _
                        rw [HP.out]
                        refine parseB_big _ _ ?_
                        have h7 := HVC.out
                        show 2147483648 < _
                        omega
                      have hov' : -(vseg c 0 k : Int) < -2147483648 := by omega
                      clear HP
                      go_wp2
                      go_ret2
                      exact ⟨by rw [e.out]; rfl, rfl⟩
                    · have e : Hid (P = (-((vseg c 0 k : Nat) : Int), true)) := by
                        show _ = _
                        rw [HP.out, parseB_ok true b.data.toList ?_ HA.out ?_, HVC.out]
                        · rfl
                        · intro he
                          have := congrArg List.length he
                          rw [bsize] at this
                          simp only [List.length_nil] at this
                          omega
                        · have h7 := HVC.out
                          show _ ≤ 2147483648
                          omega
                      clear HP
                      go_wp2
                      go_ret2
                      exact ⟨by rw [e.out]; rfl, rfl⟩

set_option maxHeartbeats 8000000 in
theorem bnum_pos (b : ByteArray) (w : World) (hs : b.size ≤ maxLen) (h0 : 0 < b.size) (h45 : ((b[0].toNat : Int) == 45) = false) :
    Calls Ybwm.prog 36 #[.string b] w fun e w' => e = .returned (.tuple #[.int .i32 (parseB false b.data.toList).1, .bool (parseB false b.data.toList).2]) ∧ w' = w := by
  have hne : ¬ b = ByteArray.empty := by intro e; rw [e] at h0; exact absurd h0 (by decide)
  unfold maxLen at hs
  by_cases h1 : b.size = 0
  · omega
  · have hz1 : ((b.size : Int) == 0) = false := int_ne (by omega)
    obtain ⟨P, hP⟩ : ∃ P, P = parseB false b.data.toList := ⟨_, rfl⟩
    rw [← hP]
    have HP : Hid (P = parseB false b.data.toList) := hP
    clear hP
    go_enter Ybwm.func36, Ybwm.ntmps36
    go_wp2
    go_loop [5] (fun i => ∃ k : Nat, k ≤ b.size ∧ i = .int .i64 k ∧ (∀ c ∈ seg b 0 k, isDig c)) (fun i => b.size - (intOf i).toNat)
    case atStart => exact ⟨0, by omega, rfl, by rw [seg_start]; simp⟩
    case round =>
      obtain ⟨k, hk, rfl, hd⟩ := hrel
      by_cases hlt : k < b.size
      · by_cases hc : isDig b[k]
        · have hc1 : 48 ≤ (b[k].toNat : Int) := by unfold isDig at hc; omega
          have hc2 : (b[k].toNat : Int) ≤ 57 := by unfold isDig at hc; omega
          have hd' := seg_dig_step b 0 k (by omega) hlt hd hc
          clear HP hc hd
          go_wp2
          go_round
          case rel => exact ⟨k + 1, by omega, by go_num, hd'⟩
          case measure => simp [intOf]; omega
        · have e : Hid (P = (0, false)) := by
            show _ = _
            rw [HP.out]
            exact parseB_bad _ _ _ (at_mem b 0 k (by omega) hlt) hc
          clear HP hd
          by_cases hc1 : (b[k].toNat : Int) < 48
          · clear hc
            go_wp2
            go_ret2
            exact ⟨by rw [e.out]; rfl, rfl⟩
          · have hc2 : (57 : Int) < (b[k].toNat : Int) := by unfold isDig at hc; omega
            clear hc
            go_wp2
            go_ret2
            exact ⟨by rw [e.out]; rfl, rfl⟩
      · obtain rfl : k = b.size := by omega
        have HA : Hid (∀ c ∈ b.data.toList, isDig c) := by rw [seg_all] at hd; exact hd
        have hbm : b.size ≤ 9223372036854775807 := by omega
        clear hd
        go_wp2
        go_loop [0] (fun x => ∃ c : ByteArray, x = .string c ∧ c.size ≤ b.size ∧ Hid (val c.data.toList = val b.data.toList) ∧ Hid (∀ q ∈ c.data.toList, isDig q)) (fun x => strLen x)
        case atStart => exact ⟨b, rfl, by omega, rfl, HA⟩
        case round =>
          obtain ⟨c, rfl, hcb, HZ, HC⟩ := hrel
          by_cases hzz : ∃ h : 0 < c.size, (c[0].toNat : Int) = 48
          · obtain ⟨hlt, h48⟩ := hzz
            have h48' : ((c[0].toNat : Int) == 48) = true := int_eq h48
            have hcne : ¬ c = ByteArray.empty := by intro e; rw [e] at hlt; exact absurd hlt (by decide)
            have hcons : Hid (c.data.toList = c[0] :: (c.extract 1 c.size).data.toList) := by
              show _ = _
              rw [extract_one, ← drop_cons c 0 hlt]
              rfl
            have HZ' : Hid (val (c.extract 1 c.size).data.toList = val b.data.toList) := by
              show _ = _
              rw [← HZ.out, hcons.out, val_cons, show c[0].toNat = 48 from by omega]
              simp
            have HC' : Hid (∀ q ∈ (c.extract 1 c.size).data.toList, isDig q) := by
              intro q hq
              refine HC.out q ?_
              rw [hcons.out]
              exact List.mem_cons_of_mem _ hq
            have hsz : (c.extract 1 c.size).size = c.size - 1 := by rw [ByteArray.size_extract]; omega
            have HSZ : Hid ((c.extract 1 c.size).size = c.size - 1) := hsz
            clear h48 HZ HP hcons HC hsz
            go_wp2
            go_round
            case rel => exact ⟨_, rfl, by rw [HSZ.out]; omega, HZ', HC'⟩
            case measure =>
              show strLen (.string (c.extract 1 c.size)) < strLen (.string c)
              show (c.extract 1 c.size).size < c.size
              rw [HSZ.out]
              omega
          · have hbig : ∀ h : 0 < c.size, 49 ≤ c[0].toNat := by
              intro h
              have h4 : ¬ (c[0].toNat : Int) = 48 := fun h4 => hzz ⟨h, h4⟩
              have h5 := HC.out _ (at_mem c 0 0 (by omega) h)
              unfold isDig at h5
              omega
            by_cases hlong : (10 : Int) < (c.size : Int)
            · have hlt : 0 < c.size := by omega
              have hn48 : ((c[0].toNat : Int) == 48) = false := int_ne (by have := hbig hlt; omega)
              have hcne : ¬ c = ByteArray.empty := by intro e; rw [e] at hlt; exact absurd hlt (by decide)
              have e : Hid (P = (0, false)) := by
                show _ = _
                rw [HP.out]
                refine parseB_big _ _ ?_
                have h6 := vdrop_big c 0 (by omega) (hbig hlt)
                have h7 := HZ.out
                unfold vdrop at h6
                rw [List.drop_zero] at h6
                show 2147483647 < _
                omega
              clear hbig hzz HP
              go_wp2
              go_ret2
              exact ⟨by rw [e.out]; rfl, rfl⟩
            · have hex : c = ByteArray.empty ∨ ∃ h : 0 < c.size, ((c[0].toNat : Int) == 48) = false ∧ ¬ c = ByteArray.empty := by
                by_cases h : 0 < c.size
                · exact .inr ⟨h, int_ne (by have := hbig h; omega), by intro e; rw [e] at h; exact absurd h (by decide)⟩
                · exact .inl (str_ext (List.eq_nil_of_length_eq_zero (by rw [bsize]; omega)))
              clear hbig hzz
              have hvb : ∀ k, k ≤ c.size → vseg c 0 k < 10000000000 := fun k hk => vseg_lt c 0 k hk (by omega) (fun q hq => HC.out q (by rw [List.drop_zero] at hq; exact hq))
              have HVB : Hid (∀ k, k ≤ c.size → vseg c 0 k < 10000000000) := hvb
              clear hvb
              rcases hex with rfl | ⟨hlt, hn48, hcne⟩
              · go_wp2
                go_loop [6, 7] (fun x i => ∃ k : Nat, k ≤ ByteArray.empty.size ∧ i = .int .i64 k ∧ x = .int .i64 (vseg ByteArray.empty 0 k : Nat)) (fun _ i => ByteArray.empty.size - (intOf i).toNat)
                case atStart => exact ⟨0, by omega, rfl, by rw [vseg_none]; rfl⟩
                case round =>
                  obtain ⟨k, hk, rfl, rfl⟩ := hrel
                  have hvk := HVB.out k hk
                  by_cases hkl : k < ByteArray.empty.size
                  · have hdk := HC.out _ (at_mem ByteArray.empty 0 k (by omega) hkl)
                    have hd1 : 48 ≤ (ByteArray.empty[k].toNat : Int) := by unfold isDig at hdk; omega
                    have hd2 : (ByteArray.empty[k].toNat : Int) ≤ 57 := by unfold isDig at hdk; omega
                    have HS : Hid (((vseg ByteArray.empty 0 (k + 1) : Nat) : Int) = (vseg ByteArray.empty 0 k : Int) * 10 + (ByteArray.empty[k].toNat : Int) - 48) := by
                      show _ = _
                      rw [vseg_step ByteArray.empty 0 k (by omega) hkl]
                      omega
                    clear hdk HP HZ
                    go_wp2
                    all_goals
                      go_round
                      case rel => exact ⟨k + 1, by omega, by go_num, by rw [HS.out]⟩
                      case measure => simp [intOf] <;> omega
                  · have hkc : k = ByteArray.empty.size := by omega
                    have HVC : Hid (vseg ByteArray.empty 0 k = val b.data.toList) := by
                      show _ = _
                      rw [hkc, vseg_all, List.drop_zero]
                      exact HZ.out
                    clear hkc
                    by_cases hov : (2147483647 : Int) < (vseg ByteArray.empty 0 k : Int)
                    · have e : Hid (P = (0, false)) := by
                        show _ = _
                        rw [HP.out]
                        refine parseB_big _ _ ?_
                        have h7 := HVC.out
                        show 2147483647 < _
                        omega
                      have hov' : (2147483647 : Int) < (vseg ByteArray.empty 0 k : Int) := by omega
                      clear HP
                      go_wp2
                      go_ret2
                      exact ⟨by rw [e.out]; rfl, rfl⟩
                    · have e : Hid (P = (((vseg ByteArray.empty 0 k : Nat) : Int), true)) := by
                        show _ = _
                        rw [HP.out, parseB_ok false b.data.toList ?_ HA.out ?_, HVC.out]
                        · rfl
                        · intro he
                          have := congrArg List.length he
                          rw [bsize] at this
                          simp only [List.length_nil] at this
                          omega
                        · have h7 := HVC.out
                          show _ ≤ 2147483647
                          omega
                      clear HP
                      go_wp2
                      go_ret2
                      exact ⟨by rw [e.out]; rfl, rfl⟩
              · go_wp2
                go_loop [6, 7] (fun x i => ∃ k : Nat, k ≤ c.size ∧ i = .int .i64 k ∧ x = .int .i64 (vseg c 0 k : Nat)) (fun _ i => c.size - (intOf i).toNat)
                case atStart => exact ⟨0, by omega, rfl, by rw [vseg_none]; rfl⟩
                case round =>
                  obtain ⟨k, hk, rfl, rfl⟩ := hrel
                  have hvk := HVB.out k hk
                  by_cases hkl : k < c.size
                  · have hdk := HC.out _ (at_mem c 0 k (by omega) hkl)
                    have hd1 : 48 ≤ (c[k].toNat : Int) := by unfold isDig at hdk; omega
                    have hd2 : (c[k].toNat : Int) ≤ 57 := by unfold isDig at hdk; omega
                    have HS : Hid (((vseg c 0 (k + 1) : Nat) : Int) = (vseg c 0 k : Int) * 10 + (c[k].toNat : Int) - 48) := by
                      show _ = _
                      rw [vseg_step c 0 k (by omega) hkl]
                      omega
                    clear hdk HP HZ
                    go_wp2
                    all_goals
                      go_round
                      case rel => exact ⟨k + 1, by omega, by go_num, by rw [HS.out]⟩
                      case measure => simp [intOf] <;> omega
                  · have hkc : k = c.size := by omega
                    have HVC : Hid (vseg c 0 k = val b.data.toList) := by
                      show _ = _
                      rw [hkc, vseg_all, List.drop_zero]
                      exact HZ.out
                    clear hkc
                    by_cases hov : (2147483647 : Int) < (vseg c 0 k : Int)
                    · have e : Hid (P = (0, false)) := by
                        show _ = _
                        rw [HP.out]
                        refine parseB_big _ _ ?_
                        have h7 := HVC.out
                        show 2147483647 < _
                        omega
                      have hov' : (2147483647 : Int) < (vseg c 0 k : Int) := by omega
                      clear HP
                      go_wp2
                      go_ret2
                      exact ⟨by rw [e.out]; rfl, rfl⟩
                    · have e : Hid (P = (((vseg c 0 k : Nat) : Int), true)) := by
                        show _ = _
                        rw [HP.out, parseB_ok false b.data.toList ?_ HA.out ?_, HVC.out]
                        · rfl
                        · intro he
                          have := congrArg List.length he
                          rw [bsize] at this
                          simp only [List.length_nil] at this
                          omega
                        · have h7 := HVC.out
                          show _ ≤ 2147483647
                          omega
                      clear HP
                      go_wp2
                      go_ret2
                      exact ⟨by rw [e.out]; rfl, rfl⟩

theorem bnum_none (w : World) :
    Calls Ybwm.prog 36 #[.string ByteArray.empty] w fun e w' => e = .returned (.tuple #[.int .i32 0, .bool false]) ∧ w' = w := by
  go_enter Ybwm.func36, Ybwm.ntmps36
  go_wp2
  go_ret2
  exact ⟨rfl, rfl⟩

theorem bnum_any (s : ByteArray) (w : World) (hs : s.size ≤ maxLen) :
    Calls Ybwm.prog 36 #[.string s] w fun e w' => e = .returned (.tuple #[.int .i32 (parseI s.data.toList).1, .bool (parseI s.data.toList).2]) ∧ w' = w := by
  by_cases h0 : 0 < s.size
  · by_cases h45 : (s[0].toNat : Int) = 45
    · rw [parse_neg s h0 h45, ← extract_one]
      refine bnum_neg s (s.extract 1 s.size) w hs (by rw [ByteArray.size_extract]; omega) h0 (int_eq h45) ?_
      rw [run_slice_string_from_if w 9 s .i64 1 Ybwm.underlying9, if_pos (by omega)]
      rfl
    · rw [parse_pos s h0 h45]
      exact bnum_pos s w hs h0 (int_ne h45)
  · have e : s = ByteArray.empty := str_ext (List.eq_nil_of_length_eq_zero (by rw [bsize]; omega))
    subst e
    exact bnum_none w
end Go.Proofs.Ymbrbw

import Derived.Test.YmbrbwZDec
namespace Go.Proofs.Ymbrbw
open Go.ChangeShapes Go.WideShapes Go.ChangeAt Go.RowKit
set_option linter.unusedVariables false
set_option linter.unusedSimpArgs false

theorem wrap_back (m : Nat) (h : m ≤ 9223372036854775808) : IntKind.u64.wrap (-IntKind.u64.wrap (-(m : Int))) = (m : Int) := by
  rw [IntKind.wrap_u64, IntKind.wrap_u64]
  omega

set_option maxHeartbeats 4000000 in
theorem bdec_neg (m z : Nat) (h0 : 0 < m) (h1 : m ≤ 9223372036854775808) (hz : z ≤ 255) (w : World) :
    Calls Ybwm.prog 22 #[.int .i64 (-(m : Int)), .int .i64 (z : Int)] w fun e w' => e = .returned (.string ⟨(45 :: zdec m z).toArray⟩) ∧ w' = w := by
  have hl : (dec m).length ≤ 19 := dec_len 18 m (by omega)
  obtain ⟨D, hD⟩ : ∃ D, dec m = D := ⟨_, rfl⟩
  have hDl : D.length ≤ 19 := by rw [← hD]; exact hl
  have HZ : Hid (zdec m z = List.replicate z 48 ++ D) := by show _ = _; unfold zdec; rw [hD]
  have hstart : Hid (D = dec m ++ ([] : List UInt8)) := by show _ = _; rw [hD, List.append_nil]
  obtain ⟨R, hR⟩ : ∃ R : ByteArray, R = ⟨(45 :: zdec m z).toArray⟩ := ⟨_, rfl⟩
  rw [← hR]
  have HR : Hid (R.data.toList = 45 :: (List.replicate z 48 ++ D)) := by show _ = _; rw [hR, HZ.out]
  clear hD hl hR HZ
  go_enter Ybwm.func22, Ybwm.ntmps22
  go_wp2
  go_loop [5, 6] (fun x t => ∃ (v : Nat) (s : ByteArray), x = .int .u64 v ∧ v ≤ 9223372036854775808 ∧ t = .string s ∧ Hid (D = dec v ++ s.data.toList)) (fun x _ => (intOf x).toNat)
  case atStart => exact ⟨m, _, by rw [wrap_back m h1], by omega, rfl, hstart⟩
  case round =>
    obtain ⟨v, s, rfl, hv, rfl, H⟩ := hrel
    clear hstart
    have hsl : s.size ≤ 19 := by
      have := congrArg List.length H.out
      rw [List.length_append] at this
      have h3 : s.data.toList.length = s.size := rfl
      omega
    have hcut := cut_digit ((v : Int) % 10) (by omega) (by omega) w
    rw [show ((v : Int) % 10).toNat = v % 10 from by omega] at hcut
    by_cases hpos : 10 ≤ v
    · have H2 : Hid (D = dec (v / 10) ++ (⟨#[dg (v % 10)]⟩ ++ s : ByteArray).data.toList) := by
        have h := H.out
        rw [dec_big v hpos] at h
        show _ = _
        rw [h, List.append_assoc, ByteArray.data_append, Array.toList_append]
      have hq : ((v : Int) / 10 == 0) = false := int_ne (by omega)
      clear H
      go_wp2
      go_round
      case rel => exact ⟨v / 10, _, by go_num, by omega, rfl, H2⟩
      case measure => simp [intOf]; omega
    · have H2 : Hid ((⟨#[dg (v % 10)]⟩ ++ s : ByteArray).data.toList = List.replicate 0 48 ++ D) := by
        have h := H.out
        show _ = _
        rw [h, dec_small v (by omega), ByteArray.data_append, Array.toList_append, Nat.mod_eq_of_lt (by omega)]
        rfl
      have hq : ((v : Int) / 10 == 0) = true := int_eq (by omega)
      clear H
      go_wp2
      go_loop [6, 8] (fun t i => ∃ (k : Nat) (s : ByteArray), k ≤ z ∧ i = .int .i64 k ∧ t = .string s ∧ Hid (s.data.toList = List.replicate k 48 ++ D)) (fun _ i => z - (intOf i).toNat)
      case atStart => exact ⟨0, _, by omega, rfl, rfl, H2⟩
      case round =>
        obtain ⟨k, s, hk, rfl, rfl, H⟩ := hrel
        have hsl : s.size ≤ 300 := by
          have := congrArg List.length H.out
          rw [List.length_append, List.length_replicate] at this
          have h3 : s.data.toList.length = s.size := rfl
          omega
        by_cases hlt : k < z
        · have H3 : Hid ((⟨#[48]⟩ ++ s : ByteArray).data.toList = List.replicate (k + 1) 48 ++ D) := by
            show _ = _
            rw [ByteArray.data_append, Array.toList_append, H.out, List.replicate_succ]
            rfl
          clear H H2
          go_wp2
          go_round
          case rel => exact ⟨k + 1, _, by omega, by go_num, rfl, H3⟩
          case measure => simp [intOf]; omega
        · obtain rfl : k = z := by omega
          have e : Hid ((⟨#[45]⟩ ++ s : ByteArray) = R) := str_ext (by rw [HR.out]; rw [ByteArray.data_append, Array.toList_append, H.out]; rfl)
          clear H2
          go_wp2
          go_ret
          exact ⟨ret_str e.out, rfl⟩

set_option maxHeartbeats 4000000 in
theorem bdec_pos (m z : Nat) (h0 : 0 ≤ m) (h1 : m ≤ 9223372036854775808 - 1) (hz : z ≤ 255) (w : World) :
    Calls Ybwm.prog 22 #[.int .i64 (m : Int), .int .i64 (z : Int)] w fun e w' => e = .returned (.string ⟨(zdec m z).toArray⟩) ∧ w' = w := by
  have hl : (dec m).length ≤ 19 := dec_len 18 m (by omega)
  obtain ⟨D, hD⟩ : ∃ D, dec m = D := ⟨_, rfl⟩
  have hDl : D.length ≤ 19 := by rw [← hD]; exact hl
  have HZ : Hid (zdec m z = List.replicate z 48 ++ D) := by show _ = _; unfold zdec; rw [hD]
  have hstart : Hid (D = dec m ++ ([] : List UInt8)) := by show _ = _; rw [hD, List.append_nil]
  obtain ⟨R, hR⟩ : ∃ R : ByteArray, R = ⟨(zdec m z).toArray⟩ := ⟨_, rfl⟩
  rw [← hR]
  have HR : Hid (R.data.toList = (List.replicate z 48 ++ D)) := by show _ = _; rw [hR, HZ.out]
  clear hD hl hR HZ
  go_enter Ybwm.func22, Ybwm.ntmps22
  go_wp2
  go_loop [5, 6] (fun x t => ∃ (v : Nat) (s : ByteArray), x = .int .u64 v ∧ v ≤ 9223372036854775808 ∧ t = .string s ∧ Hid (D = dec v ++ s.data.toList)) (fun x _ => (intOf x).toNat)
  case atStart => exact ⟨m, _, rfl, by omega, rfl, hstart⟩
  case round =>
    obtain ⟨v, s, rfl, hv, rfl, H⟩ := hrel
    clear hstart
    have hsl : s.size ≤ 19 := by
      have := congrArg List.length H.out
      rw [List.length_append] at this
      have h3 : s.data.toList.length = s.size := rfl
      omega
    have hcut := cut_digit ((v : Int) % 10) (by omega) (by omega) w
    rw [show ((v : Int) % 10).toNat = v % 10 from by omega] at hcut
    by_cases hpos : 10 ≤ v
    · have H2 : Hid (D = dec (v / 10) ++ (⟨#[dg (v % 10)]⟩ ++ s : ByteArray).data.toList) := by
        have h := H.out
        rw [dec_big v hpos] at h
        show _ = _
        rw [h, List.append_assoc, ByteArray.data_append, Array.toList_append]
      have hq : ((v : Int) / 10 == 0) = false := int_ne (by omega)
      clear H
      go_wp2
      go_round
      case rel => exact ⟨v / 10, _, by go_num, by omega, rfl, H2⟩
      case measure => simp [intOf]; omega
    · have H2 : Hid ((⟨#[dg (v % 10)]⟩ ++ s : ByteArray).data.toList = List.replicate 0 48 ++ D) := by
        have h := H.out
        show _ = _
        rw [h, dec_small v (by omega), ByteArray.data_append, Array.toList_append, Nat.mod_eq_of_lt (by omega)]
        rfl
      have hq : ((v : Int) / 10 == 0) = true := int_eq (by omega)
      clear H
      go_wp2
      go_loop [6, 8] (fun t i => ∃ (k : Nat) (s : ByteArray), k ≤ z ∧ i = .int .i64 k ∧ t = .string s ∧ Hid (s.data.toList = List.replicate k 48 ++ D)) (fun _ i => z - (intOf i).toNat)
      case atStart => exact ⟨0, _, by omega, rfl, rfl, H2⟩
      case round =>
        obtain ⟨k, s, hk, rfl, rfl, H⟩ := hrel
        have hsl : s.size ≤ 300 := by
          have := congrArg List.length H.out
          rw [List.length_append, List.length_replicate] at this
          have h3 : s.data.toList.length = s.size := rfl
          omega
        by_cases hlt : k < z
        · have H3 : Hid ((⟨#[48]⟩ ++ s : ByteArray).data.toList = List.replicate (k + 1) 48 ++ D) := by
            show _ = _
            rw [ByteArray.data_append, Array.toList_append, H.out, List.replicate_succ]
            rfl
          clear H H2
          go_wp2
          go_round
          case rel => exact ⟨k + 1, _, by omega, by go_num, rfl, H3⟩
          case measure => simp [intOf]; omega
        · obtain rfl : k = z := by omega
          have e : Hid (s = R) := str_ext (by rw [HR.out]; rw [H.out])
          clear H2
          go_wp2
          go_ret
          exact ⟨ret_str e.out, rfl⟩

theorem bdec_any (n : Int) (z : Nat) (h0 : -9223372036854775808 ≤ n) (h1 : n ≤ 9223372036854775807) (hz : z ≤ 255) (w : World) :
    Calls Ybwm.prog 22 #[.int .i64 n, .int .i64 (z : Int)] w fun e w' => e = .returned (.string ⟨(edec n z).toArray⟩) ∧ w' = w := by
  by_cases hn : n < 0
  · obtain ⟨m, rfl⟩ : ∃ m : Nat, n = -(m : Int) := ⟨n.natAbs, by omega⟩
    have e : edec (-(m : Int)) z = 45 :: zdec m z := by unfold edec; rw [if_pos hn, Int.natAbs_neg, Int.natAbs_natCast]
    rw [e]
    exact bdec_neg m z (by omega) (by omega) hz w
  · obtain ⟨m, rfl⟩ : ∃ m : Nat, n = (m : Int) := ⟨n.natAbs, by omega⟩
    have e : edec (m : Int) z = zdec m z := by unfold edec; rw [if_neg hn, Int.natAbs_natCast]
    rw [e]
    exact bdec_pos m z (by omega) (by omega) hz w
end Go.Proofs.Ymbrbw

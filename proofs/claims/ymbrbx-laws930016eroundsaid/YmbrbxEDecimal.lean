import Derived.Test.YmbrbxParseInt32
namespace Go.Proofs.Ymbrbx
open Go.ChangeShapes Go.WideShapes Go.ChangeAt Go.RowKit
set_option linter.unusedVariables false
set_option linter.unusedSimpArgs false

/-- Zeros, then the decimal text. -/
def zdec (m z : Nat) : List UInt8 := List.replicate z 48 ++ dec m
def edec (n : Int) (z : Nat) : List UInt8 := if n < 0 then 45 :: zdec n.natAbs z else zdec n.natAbs z

theorem zdec_dig (m z : Nat) : ∀ c ∈ zdec m z, isDig c := by
  intro c hc
  unfold zdec at hc
  rw [List.mem_append] at hc
  rcases hc with hc | hc
  · rw [(List.mem_replicate.1 hc).2]
    unfold isDig
    decide
  · exact dec_dig m c hc
theorem val_zeros (z : Nat) (l : List UInt8) : val (List.replicate z 48 ++ l) = val l := by
  have h : ∀ z : Nat, List.foldl (fun v (c : UInt8) => v * 10 + (c.toNat - 48)) 0 (List.replicate z 48) = 0 := by
    intro z
    induction z with
    | zero => rfl
    | succ z ih =>
      rw [List.replicate_succ, List.foldl_cons]
      exact ih
  unfold val
  rw [List.foldl_append, h]
theorem zdec_val (m z : Nat) : val (zdec m z) = m := by
  unfold zdec
  rw [val_zeros, dec_val]
theorem zdec_len (m z : Nat) : (zdec m z).length = z + (dec m).length := by
  unfold zdec
  rw [List.length_append, List.length_replicate]
theorem zdec_ne (m z : Nat) : zdec m z ≠ [] := by
  intro h
  have := congrArg List.length h
  rw [zdec_len] at this
  have h2 := dec_ne m
  rw [List.length_nil] at this
  omega
theorem parseB_zdec (neg : Bool) (m z : Nat) : parseB neg (zdec m z) = if m ≤ limN neg then ((if neg then -(m : Int) else (m : Int)), true) else (0, false) := by
  by_cases h : m ≤ limN neg
  · rw [if_pos h, parseB_ok neg _ (zdec_ne m z) (zdec_dig m z) (by rw [zdec_val]; exact h), zdec_val]
  · rw [if_neg h]
    exact parseB_big neg _ (by rw [zdec_val]; omega)
/-- What is written is read back if it lies in int32, else refused. -/
theorem parse_edec (n : Int) (z : Nat) : parseI (edec n z) = if -2147483648 ≤ n ∧ n ≤ 2147483647 then (n, true) else (0, false) := by
  unfold edec parseI
  by_cases hn : n < 0
  · rw [if_pos hn, List.head?_cons, if_pos rfl, List.tail_cons, parseB_zdec]
    show (if n.natAbs ≤ 2147483648 then (-(n.natAbs : Int), true) else (0, false)) = _
    by_cases h : n.natAbs ≤ 2147483648
    · rw [if_pos h, if_pos (by omega), show -(n.natAbs : Int) = n from by omega]
    · rw [if_neg h, if_neg (by omega)]
  · rw [if_neg hn]
    have hh : ¬ (zdec n.natAbs z).head? = some 45 := by
      intro h
      have := zdec_dig n.natAbs z 45 (List.mem_of_head? h)
      unfold isDig at this
      exact absurd this (by decide)
    rw [if_neg hh, parseB_zdec]
    show (if n.natAbs ≤ 2147483647 then ((n.natAbs : Int), true) else (0, false)) = _
    by_cases h : n.natAbs ≤ 2147483647
    · rw [if_pos h, if_pos (by omega), show (n.natAbs : Int) = n from by omega]
    · rw [if_neg h, if_neg (by omega)]
theorem dec_len13 (m : Nat) (h : m < 10000000000000) : (dec m).length ≤ 13 := dec_len 12 m (by omega)

set_option maxHeartbeats 4000000 in
theorem edecimal_neg (m z : Nat) (h0 : 0 < m) (h1 : m < 10000000000000) (hz : z ≤ 255) (w : World) :
    Calls Ybxm.prog 17 #[.int .i64 (-(m : Int)), .int .i64 (z : Int)] w fun e w' => e = .returned (.string ⟨(45 :: zdec m z).toArray⟩) ∧ w' = w := by
  have hl := dec_len13 m h1
  obtain ⟨D, hD⟩ : ∃ D, dec m = D := ⟨_, rfl⟩
  have HD : Hid (dec m = D) := hD
  have hDl : D.length ≤ 13 := by rw [← hD]; exact hl
  have HZ : Hid (zdec m z = List.replicate z 48 ++ D) := by show _ = _; unfold zdec; rw [hD]
  have hstep : Hid (D = decP (m / 10) ++ [dg (m % 10)]) := by show _ = _; rw [← hD, dec_step]
  obtain ⟨R, hR⟩ : ∃ R : ByteArray, R = ⟨(45 :: zdec m z).toArray⟩ := ⟨_, rfl⟩
  rw [← hR]
  have HR : Hid (R.data.toList = 45 :: (List.replicate z 48 ++ D)) := by show _ = _; rw [hR, HZ.out]
  clear hD hl hR HZ
  have hcut0 := cut_digit ((m : Int) % 10) (by omega) (by omega) w
  rw [show ((m : Int) % 10).toNat = m % 10 from by omega] at hcut0
  go_enter Ybxm.func17, Ybxm.ntmps17
  go_wp2
  go_loop [5, 6] (fun x t => ∃ (v : Nat) (s : ByteArray), x = .int .i64 v ∧ v < 10000000000000 ∧ t = .string s ∧ Hid (D = decP v ++ s.data.toList)) (fun x _ => (intOf x).toNat)
  case atStart => exact ⟨m / 10, _, by go_num, by omega, rfl, hstep⟩
  case round =>
    obtain ⟨v, s, rfl, hv, rfl, H⟩ := hrel
    have hsl : s.size ≤ 13 := by
      have := congrArg List.length H.out
      rw [List.length_append] at this
      have h3 : s.data.toList.length = s.size := rfl
      omega
    by_cases hpos : 0 < v
    · have hcut := cut_digit ((v : Int) % 10) (by omega) (by omega) w
      rw [show ((v : Int) % 10).toNat = v % 10 from by omega] at hcut
      have H2 : Hid (D = decP (v / 10) ++ (⟨#[dg (v % 10)]⟩ ++ s : ByteArray).data.toList) := by
        have h := H.out
        rw [decP_step v hpos] at h
        show _ = _
        rw [h, List.append_assoc, ByteArray.data_append, Array.toList_append]
      clear H hstep hcut0
      go_wp2
      go_round
      case rel => exact ⟨v / 10, _, by go_num, by omega, rfl, H2⟩
      case measure => simp [intOf]; omega
    · obtain rfl : v = 0 := by omega
      have H2 : Hid (s.data.toList = List.replicate 0 48 ++ D) := by
        have h := H.out
        rw [decP_zero] at h
        show _ = _
        rw [h]
        rfl
      clear H hstep hcut0 hsl
      go_wp2
      go_loop [6, 7] (fun t i => ∃ (k : Nat) (s : ByteArray), k ≤ z ∧ i = .int .i64 k ∧ t = .string s ∧ Hid (s.data.toList = List.replicate k 48 ++ D)) (fun _ i => z - (intOf i).toNat)
      case atStart => exact ⟨0, s, by omega, rfl, rfl, H2⟩
      case round =>
        obtain ⟨k, s, hk, rfl, rfl, H⟩ := hrel
        have hsl : s.size ≤ 300 := by
          have := congrArg List.length H.out
          rw [List.length_append, List.length_replicate] at this
          have h3 : s.data.toList.length = s.size := rfl
          omega
        by_cases hlt : k < z
        · have H3 : Hid ((⟨#[48]⟩ ++ s : ByteArray).data.toList = List.replicate (k + 1) 48 ++ D) := by
            show _ = _
            rw [ByteArray.data_append, Array.toList_append, H.out, List.replicate_succ]
            rfl
          clear H H2
          go_wp2
          go_round
          case rel => exact ⟨k + 1, _, by omega, by go_num, rfl, H3⟩
          case measure => simp [intOf]; omega
        · obtain rfl : k = z := by omega
          have e : Hid ((⟨#[45]⟩ ++ s : ByteArray) = R) := str_ext (by rw [HR.out]; rw [ByteArray.data_append, Array.toList_append, H.out]; rfl)
          clear H2
          go_wp2
          go_ret
          exact ⟨ret_str e.out, rfl⟩

set_option maxHeartbeats 4000000 in
theorem edecimal_pos (m z : Nat) (h0 : 0 ≤ m) (h1 : m < 10000000000000) (hz : z ≤ 255) (w : World) :
    Calls Ybxm.prog 17 #[.int .i64 (m : Int), .int .i64 (z : Int)] w fun e w' => e = .returned (.string ⟨(zdec m z).toArray⟩) ∧ w' = w := by
  have hl := dec_len13 m h1
  obtain ⟨D, hD⟩ : ∃ D, dec m = D := ⟨_, rfl⟩
  have HD : Hid (dec m = D) := hD
  have hDl : D.length ≤ 13 := by rw [← hD]; exact hl
  have HZ : Hid (zdec m z = List.replicate z 48 ++ D) := by show _ = _; unfold zdec; rw [hD]
  have hstep : Hid (D = decP (m / 10) ++ [dg (m % 10)]) := by show _ = _; rw [← hD, dec_step]
  obtain ⟨R, hR⟩ : ∃ R : ByteArray, R = ⟨(zdec m z).toArray⟩ := ⟨_, rfl⟩
  rw [← hR]
  have HR : Hid (R.data.toList = (List.replicate z 48 ++ D)) := by show _ = _; rw [hR, HZ.out]
  clear hD hl hR HZ
  have hcut0 := cut_digit ((m : Int) % 10) (by omega) (by omega) w
  rw [show ((m : Int) % 10).toNat = m % 10 from by omega] at hcut0
  go_enter Ybxm.func17, Ybxm.ntmps17
  go_wp2
  go_loop [5, 6] (fun x t => ∃ (v : Nat) (s : ByteArray), x = .int .i64 v ∧ v < 10000000000000 ∧ t = .string s ∧ Hid (D = decP v ++ s.data.toList)) (fun x _ => (intOf x).toNat)
  case atStart => exact ⟨m / 10, _, by go_num, by omega, rfl, hstep⟩
  case round =>
    obtain ⟨v, s, rfl, hv, rfl, H⟩ := hrel
    have hsl : s.size ≤ 13 := by
      have := congrArg List.length H.out
      rw [List.length_append] at this
      have h3 : s.data.toList.length = s.size := rfl
      omega
    by_cases hpos : 0 < v
    · have hcut := cut_digit ((v : Int) % 10) (by omega) (by omega) w
      rw [show ((v : Int) % 10).toNat = v % 10 from by omega] at hcut
      have H2 : Hid (D = decP (v / 10) ++ (⟨#[dg (v % 10)]⟩ ++ s : ByteArray).data.toList) := by
        have h := H.out
        rw [decP_step v hpos] at h
        show _ = _
        rw [h, List.append_assoc, ByteArray.data_append, Array.toList_append]
      clear H hstep hcut0
      go_wp2
      go_round
      case rel => exact ⟨v / 10, _, by go_num, by omega, rfl, H2⟩
      case measure => simp [intOf]; omega
    · obtain rfl : v = 0 := by omega
      have H2 : Hid (s.data.toList = List.replicate 0 48 ++ D) := by
        have h := H.out
        rw [decP_zero] at h
        show _ = _
        rw [h]
        rfl
      clear H hstep hcut0 hsl
      go_wp2
      go_loop [6, 7] (fun t i => ∃ (k : Nat) (s : ByteArray), k ≤ z ∧ i = .int .i64 k ∧ t = .string s ∧ Hid (s.data.toList = List.replicate k 48 ++ D)) (fun _ i => z - (intOf i).toNat)
      case atStart => exact ⟨0, s, by omega, rfl, rfl, H2⟩
      case round =>
        obtain ⟨k, s, hk, rfl, rfl, H⟩ := hrel
        have hsl : s.size ≤ 300 := by
          have := congrArg List.length H.out
          rw [List.length_append, List.length_replicate] at this
          have h3 : s.data.toList.length = s.size := rfl
          omega
        by_cases hlt : k < z
        · have H3 : Hid ((⟨#[48]⟩ ++ s : ByteArray).data.toList = List.replicate (k + 1) 48 ++ D) := by
            show _ = _
            rw [ByteArray.data_append, Array.toList_append, H.out, List.replicate_succ]
            rfl
          clear H H2
          go_wp2
          go_round
          case rel => exact ⟨k + 1, _, by omega, by go_num, rfl, H3⟩
          case measure => simp [intOf]; omega
        · obtain rfl : k = z := by omega
          have e : Hid (s = R) := str_ext (by rw [HR.out]; rw [H.out])
          clear H2
          go_wp2
          go_ret
          exact ⟨ret_str e.out, rfl⟩

theorem edecimal_any (n : Int) (z : Nat) (h0 : -10000000000000 < n) (h1 : n < 10000000000000) (hz : z ≤ 255) (w : World) :
    Calls Ybxm.prog 17 #[.int .i64 n, .int .i64 (z : Int)] w fun e w' => e = .returned (.string ⟨(edec n z).toArray⟩) ∧ w' = w := by
  by_cases hn : n < 0
  · obtain ⟨m, rfl⟩ : ∃ m : Nat, n = -(m : Int) := ⟨n.natAbs, by omega⟩
    have e : edec (-(m : Int)) z = 45 :: zdec m z := by unfold edec; rw [if_pos hn, Int.natAbs_neg, Int.natAbs_natCast]
    rw [e]
    exact edecimal_neg m z (by omega) (by omega) hz w
  · obtain ⟨m, rfl⟩ : ∃ m : Nat, n = (m : Int) := ⟨n.natAbs, by omega⟩
    have e : edec (m : Int) z = zdec m z := by unfold edec; rw [if_neg hn, Int.natAbs_natCast]
    rw [e]
    exact edecimal_pos m z (by omega) (by omega) hz w
end Go.Proofs.Ymbrbx

import Derived.Test.YmbrbyJLines
namespace Go.Proofs.Ymbrby
open Go.ChangeShapes Go.WideShapes Go.ChangeAt Go.RowKit
set_option linter.unusedVariables false
set_option linter.unusedSimpArgs false

set_option maxHeartbeats 4000000 in
theorem jdec_neg (m : Nat) (h0 : 0 < m) (h1 : m ≤ 2147483648) (base : Nat) (v : Value) (l0 : List UInt8) (w : World) (hown : OwnB base w v l0) (hb : base ≤ w.heap.size) (hl0 : l0.length ≤ 500000) :
    Calls Ybym.prog 18 #[v, .int .i32 (-(m : Int))] w fun e w' => ∃ v', e = .returned v' ∧ OwnB base w' v' (l0 ++ (45 :: dec m)) ∧ Keep5 w w' ∧ Below base w w' := by
  obtain ⟨R, hR⟩ : ∃ R : List UInt8, R = l0 ++ (45 :: dec m) := ⟨_, rfl⟩
  rw [← hR]
  have HR : Hid (R = (l0 ++ [45]) ++ dec m) := by show _ = _; rw [hR]; simp
  clear hR
  go_enter Ybym.func18, Ybym.ntmps18
  go_wp2_with (at_builtin; refine push_byte rfl (.tmp 11) (.tmp 12) rfl base _ l0 45 45 w _ rfl rfl 1 rfl rfl hown rfl (by omega) hb ?_)
  intro v0 w0 hown0 hkeep0 hbel0
  have hsz0 := hbel0.size
  clear hown
  go_wp2
  go_loop [6] (fun p => ∃ j : Nat, j ≤ 9 ∧ p = .int .i64 ((10 ^ j : Nat) : Int) ∧ (j = 0 ∨ 10 ^ j ≤ m)) (fun p => m - (intOf p).toNat)
  case atStart => exact ⟨0, by omega, rfl, .inl rfl⟩
  case round =>
    obtain ⟨j, hj, rfl, hjm⟩ := hrel
    have hp1 := pow_pos' j
    have hp9 := pow_bound j hj
    obtain ⟨q, hq⟩ : ∃ q : Nat, q = 10 ^ j := ⟨_, rfl⟩
    have HQ : Hid (q = 10 ^ j) := hq
    rw [← hq] at hp1 hp9 hjm ⊢
    clear hq
    obtain ⟨d, hd⟩ : ∃ d : Nat, d = m / q := ⟨_, rfl⟩
    have hdq : (m : Int) / (q : Int) = (d : Int) := by rw [hd]; rfl
    have hq0 : ((q : Int) == 0) = false := int_ne (by omega)
    have hdm : d ≤ 2147483648 := by rw [hd]; exact Nat.le_trans (Nat.div_le_self _ _) (by omega)
    by_cases hge : 10 ≤ d
    · have hqm : q * 10 ≤ m := by
        have h2 := Nat.div_mul_le_self m q
        rw [← hd] at h2
        have h3 : 10 * q ≤ d * q := Nat.mul_le_mul_right q hge
        omega
      have HN : Hid ((10 ^ (j + 1) : Nat) = q * 10) := by show _ = _; rw [Nat.pow_succ, HQ.out]
      have hj9 : j + 1 ≤ 9 := by
        rcases Nat.lt_or_ge j 9 with h | h
        · omega
        · obtain rfl : j = 9 := by omega
          have := HQ.out
          omega
      have hge' : (10 : Int) ≤ (d : Int) := by omega
      clear hd HQ
      go_wp2
      go_round
      case rel => exact ⟨j + 1, hj9, by rw [HN.out]; go_num, .inr (by rw [HN.out]; exact hqm)⟩
      case measure => simp [intOf] <;> omega
    · have hlt' : ¬ (10 : Int) ≤ (d : Int) := by omega
      have hm1 : m < 10 ^ (j + 1) := by
        rw [Nat.pow_succ, ← HQ.out]
        have h2 := Nat.lt_mul_div_succ m (show 0 < q by omega)
        rw [← hd] at h2
        have h3 : q * (d + 1) ≤ q * 10 := Nat.mul_le_mul_left q (by omega)
        omega
      have HD : Hid (R = (l0 ++ [45]) ++ topD m j) := by
        show _ = _
        rw [HR.out, dec_top j m hm1 (by rw [← HQ.out]; exact hjm)]
      have HQ' : Hid (q = 10 ^ j) := HQ
      clear hd HR hm1
      go_wp2
      go_loopw [0, 6] (fun v p wr => ∃ (l : List UInt8), OwnB base wr v l ∧ Keep5 w wr ∧ Below base w wr ∧ l.length ≤ 500030 ∧ ((∃ i : Nat, i ≤ 9 ∧ p = .int .i64 ((10 ^ i : Nat) : Int) ∧ Hid (R = l ++ topD m i) ∧ l.length + i ≤ 500020) ∨ (p = .int .i64 0 ∧ Hid (R = l)))) (fun _ p _ => (intOf p).toNat)
      case atStart => exact ⟨_, hown0, hkeep0, hbel0, by (try simp); omega, .inl ⟨j, hj, by rw [HQ'.out], HD, by (try simp); omega⟩⟩
      case round =>
        obtain ⟨l, hown, hkeep, hbel, hll, hcase⟩ := hrel
        clear hown0 hkeep0 hbel0
        have hsz := Nat.le_trans hb hbel.size
        rcases hcase with ⟨i, hi, rfl, HL, hli⟩ | ⟨rfl, HL⟩
        · have hp1 := pow_pos' i
          have hp9 := pow_bound i hi
          obtain ⟨q, hq⟩ : ∃ q : Nat, q = 10 ^ i := ⟨_, rfl⟩
          have HQ : Hid (q = 10 ^ i) := hq
          rw [← hq] at hp1 hp9 ⊢
          clear hq
          obtain ⟨d, hd⟩ : ∃ d : Nat, d = m / q := ⟨_, rfl⟩
          have hdq : (m : Int) / (q : Int) = (d : Int) := by rw [hd]; rfl
          have hq0 : ((q : Int) == 0) = false := int_ne (by omega)
          have hqp : (0 : Int) < (q : Int) := by omega
          have hdm : d ≤ 2147483648 := by rw [hd]; exact Nat.le_trans (Nat.div_le_self _ _) (by omega)
          have hcast : (48 + (d : Int) % 10) = ((dg (d % 10)).toNat : Int) := by
            rw [dg_toNat _ (by omega)]
            omega
          have HCAST : Hid ((48 + (d : Int) % 10) = ((dg (d % 10)).toNat : Int)) := hcast
          have HDD : Hid (d = m / q) := hd
          clear hd hcast
          go_wp2_with (at_builtin; refine push_byte rfl (.tmp 24) (.tmp 31) rfl base _ l (dg (d % 10)) (48 + (d : Int) % 10) wr _ rfl rfl 1 rfl rfl hown HCAST.out (by omega) hsz ?_)
          intro v' w1 hown' hkeep1 hbel1
          have hbel' : Below base w w1 := hbel.trans hbel1
          have hkeep' : Keep5 w w1 := hkeep.trans hkeep1
          clear hown hkeep hbel hkeep1 hbel1
          go_wp2
          go_roundw
          case rel =>
            refine ⟨_, hown', hkeep', hbel', by rw [List.length_append, List.length_singleton]; omega, ?_⟩
            cases i with
            | zero =>
              refine .inr ⟨?_, ?_⟩
              · rw [show q = 1 from HQ.out]; rfl
              · show _ = _
                rw [HL.out, HDD.out, show q = 1 from HQ.out, Nat.div_one]
                rfl
            | succ i =>
              refine .inl ⟨i, by omega, ?_, ?_, by rw [List.length_append, List.length_singleton]; omega⟩
              · rw [show ((q : Int) / 10) = ((10 ^ i : Nat) : Int) from by rw [HQ.out, Nat.pow_succ]; omega]
              · show _ = _
                rw [HL.out, HDD.out, HQ.out, List.append_assoc]
                rfl
          case measure => simp [intOf] <;> omega
        · rw [← HL.out] at hown
          go_wp2
          go_ret
          exact ⟨_, rfl, hown, hkeep, hbel⟩

set_option maxHeartbeats 4000000 in
theorem jdec_pos (m : Nat) (h1 : m ≤ 2147483647) (base : Nat) (v : Value) (l0 : List UInt8) (w : World) (hown : OwnB base w v l0) (hb : base ≤ w.heap.size) (hl0 : l0.length ≤ 500000) :
    Calls Ybym.prog 18 #[v, .int .i32 (m : Int)] w fun e w' => ∃ v', e = .returned v' ∧ OwnB base w' v' (l0 ++ dec m) ∧ Keep5 w w' ∧ Below base w w' := by
  obtain ⟨R, hR⟩ : ∃ R : List UInt8, R = l0 ++ dec m := ⟨_, rfl⟩
  rw [← hR]
  have HR : Hid (R = (l0) ++ dec m) := by show _ = _; rw [hR]
  clear hR
  go_enter Ybym.func18, Ybym.ntmps18
  have hown0 := hown
  have hkeep0 := Keep5.refl w
  have hbel0 := Below.refl base w
  clear hown
  go_wp2
  go_loop [6] (fun p => ∃ j : Nat, j ≤ 9 ∧ p = .int .i64 ((10 ^ j : Nat) : Int) ∧ (j = 0 ∨ 10 ^ j ≤ m)) (fun p => m - (intOf p).toNat)
  case atStart => exact ⟨0, by omega, rfl, .inl rfl⟩
  case round =>
    obtain ⟨j, hj, rfl, hjm⟩ := hrel
    have hp1 := pow_pos' j
    have hp9 := pow_bound j hj
    obtain ⟨q, hq⟩ : ∃ q : Nat, q = 10 ^ j := ⟨_, rfl⟩
    have HQ : Hid (q = 10 ^ j) := hq
    rw [← hq] at hp1 hp9 hjm ⊢
    clear hq
    obtain ⟨d, hd⟩ : ∃ d : Nat, d = m / q := ⟨_, rfl⟩
    have hdq : (m : Int) / (q : Int) = (d : Int) := by rw [hd]; rfl
    have hq0 : ((q : Int) == 0) = false := int_ne (by omega)
    have hdm : d ≤ 2147483648 := by rw [hd]; exact Nat.le_trans (Nat.div_le_self _ _) (by omega)
    by_cases hge : 10 ≤ d
    · have hqm : q * 10 ≤ m := by
        have h2 := Nat.div_mul_le_self m q
        rw [← hd] at h2
        have h3 : 10 * q ≤ d * q := Nat.mul_le_mul_right q hge
        omega
      have HN : Hid ((10 ^ (j + 1) : Nat) = q * 10) := by show _ = _; rw [Nat.pow_succ, HQ.out]
      have hj9 : j + 1 ≤ 9 := by
        rcases Nat.lt_or_ge j 9 with h | h
        · omega
        · obtain rfl : j = 9 := by omega
          have := HQ.out
          omega
      have hge' : (10 : Int) ≤ (d : Int) := by omega
      clear hd HQ
      go_wp2
      go_round
      case rel => exact ⟨j + 1, hj9, by rw [HN.out]; go_num, .inr (by rw [HN.out]; exact hqm)⟩
      case measure => simp [intOf] <;> omega
    · have hlt' : ¬ (10 : Int) ≤ (d : Int) := by omega
      have hm1 : m < 10 ^ (j + 1) := by
        rw [Nat.pow_succ, ← HQ.out]
        have h2 := Nat.lt_mul_div_succ m (show 0 < q by omega)
        rw [← hd] at h2
        have h3 : q * (d + 1) ≤ q * 10 := Nat.mul_le_mul_left q (by omega)
        omega
      have HD : Hid (R = (l0) ++ topD m j) := by
        show _ = _
        rw [HR.out, dec_top j m hm1 (by rw [← HQ.out]; exact hjm)]
      have HQ' : Hid (q = 10 ^ j) := HQ
      clear hd HR hm1
      go_wp2
      go_loopw [0, 6] (fun v p wr => ∃ (l : List UInt8), OwnB base wr v l ∧ Keep5 w wr ∧ Below base w wr ∧ l.length ≤ 500030 ∧ ((∃ i : Nat, i ≤ 9 ∧ p = .int .i64 ((10 ^ i : Nat) : Int) ∧ Hid (R = l ++ topD m i) ∧ l.length + i ≤ 500020) ∨ (p = .int .i64 0 ∧ Hid (R = l)))) (fun _ p _ => (intOf p).toNat)
      case atStart => exact ⟨_, hown0, hkeep0, hbel0, by (try simp); omega, .inl ⟨j, hj, by rw [HQ'.out], HD, by (try simp); omega⟩⟩
      case round =>
        obtain ⟨l, hown, hkeep, hbel, hll, hcase⟩ := hrel
        clear hown0 hkeep0 hbel0
        have hsz := Nat.le_trans hb hbel.size
        rcases hcase with ⟨i, hi, rfl, HL, hli⟩ | ⟨rfl, HL⟩
        · have hp1 := pow_pos' i
          have hp9 := pow_bound i hi
          obtain ⟨q, hq⟩ : ∃ q : Nat, q = 10 ^ i := ⟨_, rfl⟩
          have HQ : Hid (q = 10 ^ i) := hq
          rw [← hq] at hp1 hp9 ⊢
          clear hq
          obtain ⟨d, hd⟩ : ∃ d : Nat, d = m / q := ⟨_, rfl⟩
          have hdq : (m : Int) / (q : Int) = (d : Int) := by rw [hd]; rfl
          have hq0 : ((q : Int) == 0) = false := int_ne (by omega)
          have hqp : (0 : Int) < (q : Int) := by omega
          have hdm : d ≤ 2147483648 := by rw [hd]; exact Nat.le_trans (Nat.div_le_self _ _) (by omega)
          have hcast : (48 + (d : Int) % 10) = ((dg (d % 10)).toNat : Int) := by
            rw [dg_toNat _ (by omega)]
            omega
          have HCAST : Hid ((48 + (d : Int) % 10) = ((dg (d % 10)).toNat : Int)) := hcast
          have HDD : Hid (d = m / q) := hd
          clear hd hcast
          go_wp2_with (at_builtin; refine push_byte rfl (.tmp 24) (.tmp 31) rfl base _ l (dg (d % 10)) (48 + (d : Int) % 10) wr _ rfl rfl 1 rfl rfl hown HCAST.out (by omega) hsz ?_)
          intro v' w1 hown' hkeep1 hbel1
          have hbel' : Below base w w1 := hbel.trans hbel1
          have hkeep' : Keep5 w w1 := hkeep.trans hkeep1
          clear hown hkeep hbel hkeep1 hbel1
          go_wp2
          go_roundw
          case rel =>
            refine ⟨_, hown', hkeep', hbel', by rw [List.length_append, List.length_singleton]; omega, ?_⟩
            cases i with
            | zero =>
              refine .inr ⟨?_, ?_⟩
              · rw [show q = 1 from HQ.out]; rfl
              · show _ = _
                rw [HL.out, HDD.out, show q = 1 from HQ.out, Nat.div_one]
                rfl
            | succ i =>
              refine .inl ⟨i, by omega, ?_, ?_, by rw [List.length_append, List.length_singleton]; omega⟩
              · rw [show ((q : Int) / 10) = ((10 ^ i : Nat) : Int) from by rw [HQ.out, Nat.pow_succ]; omega]
              · show _ = _
                rw [HL.out, HDD.out, HQ.out, List.append_assoc]
                rfl
          case measure => simp [intOf] <;> omega
        · rw [← HL.out] at hown
          go_wp2
          go_ret
          exact ⟨_, rfl, hown, hkeep, hbel⟩

theorem jdec_any (n : Int) (h1 : -2147483648 ≤ n) (h2 : n ≤ 2147483647) (base : Nat) (v : Value) (l0 : List UInt8) (w : World) (hown : OwnB base w v l0) (hb : base ≤ w.heap.size) (hl0 : l0.length ≤ 500000) :
    Calls Ybym.prog 18 #[v, .int .i32 n] w fun e w' => ∃ v', e = .returned v' ∧ OwnB base w' v' (l0 ++ fmtI n) ∧ Keep5 w w' ∧ Below base w w' := by
  by_cases hn : n < 0
  · obtain ⟨m, rfl⟩ : ∃ m : Nat, n = -(m : Int) := ⟨n.natAbs, by omega⟩
    have e : fmtI (-(m : Int)) = 45 :: dec m := by unfold fmtI; rw [if_pos hn, Int.natAbs_neg, Int.natAbs_natCast]
    rw [e]
    exact jdec_neg m (by omega) (by omega) base v l0 w hown hb hl0
  · obtain ⟨m, rfl⟩ : ∃ m : Nat, n = (m : Int) := ⟨n.natAbs, by omega⟩
    have e : fmtI (m : Int) = dec m := by unfold fmtI; rw [if_neg hn, Int.natAbs_natCast]
    rw [e]
    exact jdec_pos m (by omega) base v l0 w hown hb hl0

/-! ### The words of the text -/
def jblankL (k : Int) : List UInt8 := if k % 3 = 0 then [] else if k % 3 = 1 then [32] else [9, 32]
def jbadL (k : Int) : List UInt8 := if k % 5 = 0 then [110, 111, 112] else if k % 5 = 1 then [112, 117, 115, 104] else if k % 5 = 2 then [112, 111, 112, 32, 49] else if k % 5 = 3 then [112, 117, 115, 104, 32, 50, 49, 52, 55, 52, 56, 51, 54, 52, 56] else [106, 110, 122, 32, 43, 49]

set_option maxHeartbeats 4000000 in
theorem jblank_any (k : Int) (h0 : 0 ≤ k) (h1 : k ≤ 255) (w : World) : Calls Ybym.prog 16 #[.int .u8 k] w fun e w' => e = .returned (.string ⟨(jblankL k).toArray⟩) ∧ w' = w := by
  unfold jblankL
  by_cases z0 : k % 3 = 0
  · rw [if_pos z0]
    have q0 : (k % 3 == 0) = true := int_eq z0
    go_enter Ybym.func16, Ybym.ntmps16
    go_wp2
    go_ret
    exact ⟨rfl, rfl⟩
  rw [if_neg z0]
  have q0 : (k % 3 == 0) = false := int_ne z0
  by_cases z1 : k % 3 = 1
  · rw [if_pos z1]
    have q1 : (k % 3 == 1) = true := int_eq z1
    clear z0
    go_enter Ybym.func16, Ybym.ntmps16
    go_wp2
    go_ret
    exact ⟨rfl, rfl⟩
  rw [if_neg z1]
  have q1 : (k % 3 == 1) = false := int_ne z1
  clear z0 z1
  go_enter Ybym.func16, Ybym.ntmps16
  go_wp2
  go_ret
  exact ⟨rfl, rfl⟩

set_option maxHeartbeats 4000000 in
theorem jbad_any (k : Int) (h0 : 0 ≤ k) (h1 : k ≤ 255) (w : World) : Calls Ybym.prog 15 #[.int .u8 k] w fun e w' => e = .returned (.string ⟨(jbadL k).toArray⟩) ∧ w' = w := by
  unfold jbadL
  by_cases z0 : k % 5 = 0
  · rw [if_pos z0]
    have q0 : (k % 5 == 0) = true := int_eq z0
    go_enter Ybym.func15, Ybym.ntmps15
    go_wp2
    go_ret
    exact ⟨rfl, rfl⟩
  rw [if_neg z0]
  have q0 : (k % 5 == 0) = false := int_ne z0
  clear z0
  by_cases z1 : k % 5 = 1
  · rw [if_pos z1]
    have q1 : (k % 5 == 1) = true := int_eq z1
    go_enter Ybym.func15, Ybym.ntmps15
    go_wp2
    go_ret
    exact ⟨rfl, rfl⟩
  rw [if_neg z1]
  have q1 : (k % 5 == 1) = false := int_ne z1
  clear z1
  by_cases z2 : k % 5 = 2
  · rw [if_pos z2]
    have q2 : (k % 5 == 2) = true := int_eq z2
    go_enter Ybym.func15, Ybym.ntmps15
    go_wp2
    go_ret
    exact ⟨rfl, rfl⟩
  rw [if_neg z2]
  have q2 : (k % 5 == 2) = false := int_ne z2
  clear z2
  by_cases z3 : k % 5 = 3
  · rw [if_pos z3]
    have q3 : (k % 5 == 3) = true := int_eq z3
    go_enter Ybym.func15, Ybym.ntmps15
    go_wp2
    go_ret
    exact ⟨rfl, rfl⟩
  rw [if_neg z3]
  have q3 : (k % 5 == 3) = false := int_ne z3
  clear z3
  go_enter Ybym.func15, Ybym.ntmps15
  go_wp2
  go_ret
  exact ⟨rfl, rfl⟩

set_option maxHeartbeats 4000000 in
theorem jname_any (k : Nat) (h : k < 8) (w : World) : Calls Ybym.prog 17 #[.int .u8 k] w fun e w' => e = .returned (.string (opName k)) ∧ w' = w := by
  match k, h with
  | 0, _ =>
    go_enter Ybym.func17, Ybym.ntmps17
    go_wp2
    go_ret
    exact ⟨rfl, rfl⟩
  | 1, _ =>
    go_enter Ybym.func17, Ybym.ntmps17
    go_wp2
    go_ret
    exact ⟨rfl, rfl⟩
  | 2, _ =>
    go_enter Ybym.func17, Ybym.ntmps17
    go_wp2
    go_ret
    exact ⟨rfl, rfl⟩
  | 3, _ =>
    go_enter Ybym.func17, Ybym.ntmps17
    go_wp2
    go_ret
    exact ⟨rfl, rfl⟩
  | 4, _ =>
    go_enter Ybym.func17, Ybym.ntmps17
    go_wp2
    go_ret
    exact ⟨rfl, rfl⟩
  | 5, _ =>
    go_enter Ybym.func17, Ybym.ntmps17
    go_wp2
    go_ret
    exact ⟨rfl, rfl⟩
  | 6, _ =>
    go_enter Ybym.func17, Ybym.ntmps17
    go_wp2
    go_ret
    exact ⟨rfl, rfl⟩
  | 7, _ =>
    go_enter Ybym.func17, Ybym.ntmps17
    go_wp2
    go_ret
    exact ⟨rfl, rfl⟩
end Go.Proofs.Ymbrby

import Derived.Test.YmbrbwCDec
namespace Go.Proofs.Ymbrbw
open Go.ChangeShapes Go.WideShapes Go.ChangeAt Go.RowKit
set_option linter.unusedVariables false
set_option linter.unusedSimpArgs false

set_option maxHeartbeats 4000000 in
theorem cdec_neg (m : Nat) (h0 : 0 < m) (h1 : m ≤ 2147483648) (w : World) :
    Calls Ybwm.prog 34 #[.int .i32 (-(m : Int))] w fun e w' => e = .returned (.string ⟨(45 :: dec m).toArray⟩) ∧ Below w.heap.size w w' := by
  obtain ⟨R, hR⟩ : ∃ R : ByteArray, R = ⟨(45 :: dec m).toArray⟩ := ⟨_, rfl⟩
  rw [← hR]
  have HR : Hid (R.data.toList = [45] ++ dec m) := by show _ = _; rw [hR]; rfl
  clear hR
  go_enter Ybwm.func34, Ybwm.ntmps34
  go_wp2_with (at_builtin; refine wpList_push_byte rfl (.tmp 10) (.tmp 11) rfl w.heap.size _ [] 45 45 w.heap.size 1 rfl rfl ((OwnB.nil _ _).alloc _) (alloc_first _ _ _) rfl (by decide) (alloc_le (Nat.le_refl _) _) ?_)
  intro v0 w0 hown0 hgrow0
  have hbel0 : Below w.heap.size w w0 := ((Below.refl _ _).alloc (Nat.le_refl _) _).grown hgrow0 (by simp) (by intro k hk; simp [Value.ownBlock] at hk)
  clear hgrow0
  go_wp2
  go_loop [5] (fun p => ∃ j : Nat, j ≤ 9 ∧ p = .int .i64 ((10 ^ j : Nat) : Int) ∧ (j = 0 ∨ 10 ^ j ≤ m)) (fun p => m - (intOf p).toNat)
  case atStart => exact ⟨0, by omega, rfl, .inl rfl⟩
  case round =>
    obtain ⟨j, hj, rfl, hjm⟩ := hrel
    have hp1 := pow_pos' j
    have hp9 := pow_bound j hj
    obtain ⟨q, hq⟩ : ∃ q : Nat, q = 10 ^ j := ⟨_, rfl⟩
    have HQ : Hid (q = 10 ^ j) := hq
    rw [← hq] at hp1 hp9 hjm ⊢
    clear hq
    obtain ⟨d, hd⟩ : ∃ d : Nat, d = m / q := ⟨_, rfl⟩
    have hdq : (m : Int) / (q : Int) = (d : Int) := by rw [hd]; rfl
    have hq0 : ((q : Int) == 0) = false := int_ne (by omega)
    have hdm : d ≤ 2147483648 := by rw [hd]; exact Nat.le_trans (Nat.div_le_self _ _) (by omega)
    by_cases hge : 10 ≤ d
    · have hqm : q * 10 ≤ m := by
        have h2 := Nat.div_mul_le_self m q
        rw [← hd] at h2
        have h3 : 10 * q ≤ d * q := Nat.mul_le_mul_right q hge
        omega
      have HN : Hid ((10 ^ (j + 1) : Nat) = q * 10) := by show _ = _; rw [Nat.pow_succ, HQ.out]
      have hj9 : j + 1 ≤ 9 := by
        rcases Nat.lt_or_ge j 9 with h | h
        · omega
        · obtain rfl : j = 9 := by omega
          have := HQ.out
          omega
      have hge' : (10 : Int) ≤ (d : Int) := by omega
      clear hd HQ
      go_wp2
      go_round
      case rel => exact ⟨j + 1, hj9, by rw [HN.out]; go_num, .inr (by rw [HN.out]; exact hqm)⟩
      case measure => simp [intOf] <;> omega
    · have hlt' : ¬ (10 : Int) ≤ (d : Int) := by omega
      have hm1 : m < 10 ^ (j + 1) := by
        rw [Nat.pow_succ, ← HQ.out]
        have h2 := Nat.lt_mul_div_succ m (show 0 < q by omega)
        rw [← hd] at h2
        have h3 : q * (d + 1) ≤ q * 10 := Nat.mul_le_mul_left q (by omega)
        omega
      have HD : Hid (R.data.toList = [45] ++ topD m j) := by
        show _ = _
        rw [HR.out, dec_top j m hm1 (by rw [← HQ.out]; exact hjm)]
      have HQ' : Hid (q = 10 ^ j) := HQ
      clear hd HR hm1
      go_wp2
      go_loopw [3, 5] (fun v p wr => ∃ (l : List UInt8), OwnB w.heap.size wr v l ∧ Below w.heap.size w wr ∧ l.length ≤ 30 ∧ ((∃ i : Nat, i ≤ 9 ∧ p = .int .i64 ((10 ^ i : Nat) : Int) ∧ Hid (R.data.toList = l ++ topD m i) ∧ l.length + i ≤ 20) ∨ (p = .int .i64 0 ∧ Hid (R.data.toList = l)))) (fun _ p _ => (intOf p).toNat)
      case atStart => exact ⟨_, hown0, hbel0, by simp, .inl ⟨j, hj, by rw [HQ'.out], HD, by simp; omega⟩⟩
      case round =>
        obtain ⟨l, hown, hbel, hll, hcase⟩ := hrel
        have hsz := hbel.size
        rcases hcase with ⟨i, hi, rfl, HL, hli⟩ | ⟨rfl, HL⟩
        · have hp1 := pow_pos' i
          have hp9 := pow_bound i hi
          obtain ⟨q, hq⟩ : ∃ q : Nat, q = 10 ^ i := ⟨_, rfl⟩
          have HQ : Hid (q = 10 ^ i) := hq
          rw [← hq] at hp1 hp9 ⊢
          clear hq
          obtain ⟨d, hd⟩ : ∃ d : Nat, d = m / q := ⟨_, rfl⟩
          have hdq : (m : Int) / (q : Int) = (d : Int) := by rw [hd]; rfl
          have hq0 : ((q : Int) == 0) = false := int_ne (by omega)
          have hqp : (0 : Int) < (q : Int) := by omega
          have hdm : d ≤ 2147483648 := by rw [hd]; exact Nat.le_trans (Nat.div_le_self _ _) (by omega)
          have hcast : (48 + (d : Int) % 10) = ((dg (d % 10)).toNat : Int) := by
            rw [dg_toNat _ (by omega)]
            omega
          have HCAST : Hid ((48 + (d : Int) % 10) = ((dg (d % 10)).toNat : Int)) := hcast
          have HDD : Hid (d = m / q) := hd
          clear hd hcast
          go_wp2_with (at_builtin; refine wpList_push_byte rfl (.tmp 25) (.tmp 32) rfl w.heap.size _ l (dg (d % 10)) (48 + (d : Int) % 10) wr.heap.size 1 rfl rfl (hown.alloc _) (alloc_first _ _ _) HCAST.out (by omega) (alloc_le hsz _) ?_)
          intro v' w1 hown' hgrow
          have hbel' : Below w.heap.size w w1 := (hbel.alloc hsz _).grown hgrow (alloc_le hsz _) hown.size
          clear hown hgrow hbel
          go_wp2
          go_roundw
          case rel =>
            refine ⟨_, hown', hbel', by rw [List.length_append, List.length_singleton]; omega, ?_⟩
            cases i with
            | zero =>
              refine .inr ⟨?_, ?_⟩
              · rw [show q = 1 from HQ.out]; rfl
              · show _ = _
                rw [HL.out, HDD.out, show q = 1 from HQ.out, Nat.div_one]
                rfl
            | succ i =>
              refine .inl ⟨i, by omega, ?_, ?_, by rw [List.length_append, List.length_singleton]; omega⟩
              · rw [show ((q : Int) / 10) = ((10 ^ i : Nat) : Int) from by rw [HQ.out, Nat.pow_succ]; omega]
              · show _ = _
                rw [HL.out, HDD.out, HQ.out, List.append_assoc]
                rfl
          case measure => simp [intOf] <;> omega
        · have ht := hown.text
          have e : Hid ((⟨l.toArray⟩ : ByteArray) = R) := str_ext (by rw [HL.out])
          rw [e.out] at ht
          go_wp2
          go_ret
          exact ⟨rfl, hbel⟩

set_option maxHeartbeats 4000000 in
theorem cdec_pos (m : Nat) (h0 : 0 ≤ m) (h1 : m ≤ 2147483648 - 1) (w : World) :
    Calls Ybwm.prog 34 #[.int .i32 (m : Int)] w fun e w' => e = .returned (.string ⟨(dec m).toArray⟩) ∧ Below w.heap.size w w' := by
  obtain ⟨R, hR⟩ : ∃ R : ByteArray, R = ⟨(dec m).toArray⟩ := ⟨_, rfl⟩
  rw [← hR]
  have HR : Hid (R.data.toList = [] ++ dec m) := by show _ = _; rw [hR]; rfl
  clear hR
  go_enter Ybwm.func34, Ybwm.ntmps34
  go_wp2
  go_loop [5] (fun p => ∃ j : Nat, j ≤ 9 ∧ p = .int .i64 ((10 ^ j : Nat) : Int) ∧ (j = 0 ∨ 10 ^ j ≤ m)) (fun p => m - (intOf p).toNat)
  case atStart => exact ⟨0, by omega, rfl, .inl rfl⟩
  case round =>
    obtain ⟨j, hj, rfl, hjm⟩ := hrel
    have hp1 := pow_pos' j
    have hp9 := pow_bound j hj
    obtain ⟨q, hq⟩ : ∃ q : Nat, q = 10 ^ j := ⟨_, rfl⟩
    have HQ : Hid (q = 10 ^ j) := hq
    rw [← hq] at hp1 hp9 hjm ⊢
    clear hq
    obtain ⟨d, hd⟩ : ∃ d : Nat, d = m / q := ⟨_, rfl⟩
    have hdq : (m : Int) / (q : Int) = (d : Int) := by rw [hd]; rfl
    have hq0 : ((q : Int) == 0) = false := int_ne (by omega)
    have hdm : d ≤ 2147483648 := by rw [hd]; exact Nat.le_trans (Nat.div_le_self _ _) (by omega)
    by_cases hge : 10 ≤ d
    · have hqm : q * 10 ≤ m := by
        have h2 := Nat.div_mul_le_self m q
        rw [← hd] at h2
        have h3 : 10 * q ≤ d * q := Nat.mul_le_mul_right q hge
        omega
      have HN : Hid ((10 ^ (j + 1) : Nat) = q * 10) := by show _ = _; rw [Nat.pow_succ, HQ.out]
      have hj9 : j + 1 ≤ 9 := by
        rcases Nat.lt_or_ge j 9 with h | h
        · omega
        · obtain rfl : j = 9 := by omega
          have := HQ.out
          omega
      have hge' : (10 : Int) ≤ (d : Int) := by omega
      clear hd HQ
      go_wp2
      go_round
      case rel => exact ⟨j + 1, hj9, by rw [HN.out]; go_num, .inr (by rw [HN.out]; exact hqm)⟩
      case measure => simp [intOf] <;> omega
    · have hlt' : ¬ (10 : Int) ≤ (d : Int) := by omega
      have hm1 : m < 10 ^ (j + 1) := by
        rw [Nat.pow_succ, ← HQ.out]
        have h2 := Nat.lt_mul_div_succ m (show 0 < q by omega)
        rw [← hd] at h2
        have h3 : q * (d + 1) ≤ q * 10 := Nat.mul_le_mul_left q (by omega)
        omega
      have HD : Hid (R.data.toList = [] ++ topD m j) := by
        show _ = _
        rw [HR.out, dec_top j m hm1 (by rw [← HQ.out]; exact hjm)]
      have HQ' : Hid (q = 10 ^ j) := HQ
      clear hd HR hm1
      go_wp2
      go_loopw [3, 5] (fun v p wr => ∃ (l : List UInt8), OwnB w.heap.size wr v l ∧ Below w.heap.size w wr ∧ l.length ≤ 30 ∧ ((∃ i : Nat, i ≤ 9 ∧ p = .int .i64 ((10 ^ i : Nat) : Int) ∧ Hid (R.data.toList = l ++ topD m i) ∧ l.length + i ≤ 20) ∨ (p = .int .i64 0 ∧ Hid (R.data.toList = l)))) (fun _ p _ => (intOf p).toNat)
      case atStart => exact ⟨_, OwnB.nil _ _, Below.refl _ _, by simp, .inl ⟨j, hj, by rw [HQ'.out], HD, by simp; omega⟩⟩
      case round =>
        obtain ⟨l, hown, hbel, hll, hcase⟩ := hrel
        have hsz := hbel.size
        rcases hcase with ⟨i, hi, rfl, HL, hli⟩ | ⟨rfl, HL⟩
        · have hp1 := pow_pos' i
          have hp9 := pow_bound i hi
          obtain ⟨q, hq⟩ : ∃ q : Nat, q = 10 ^ i := ⟨_, rfl⟩
          have HQ : Hid (q = 10 ^ i) := hq
          rw [← hq] at hp1 hp9 ⊢
          clear hq
          obtain ⟨d, hd⟩ : ∃ d : Nat, d = m / q := ⟨_, rfl⟩
          have hdq : (m : Int) / (q : Int) = (d : Int) := by rw [hd]; rfl
          have hq0 : ((q : Int) == 0) = false := int_ne (by omega)
          have hqp : (0 : Int) < (q : Int) := by omega
          have hdm : d ≤ 2147483648 := by rw [hd]; exact Nat.le_trans (Nat.div_le_self _ _) (by omega)
          have hcast : (48 + (d : Int) % 10) = ((dg (d % 10)).toNat : Int) := by
            rw [dg_toNat _ (by omega)]
            omega
          have HCAST : Hid ((48 + (d : Int) % 10) = ((dg (d % 10)).toNat : Int)) := hcast
          have HDD : Hid (d = m / q) := hd
          clear hd hcast
          go_wp2_with (at_builtin; refine wpList_push_byte rfl (.tmp 25) (.tmp 32) rfl w.heap.size _ l (dg (d % 10)) (48 + (d : Int) % 10) wr.heap.size 1 rfl rfl (hown.alloc _) (alloc_first _ _ _) HCAST.out (by omega) (alloc_le hsz _) ?_)
          intro v' w1 hown' hgrow
          have hbel' : Below w.heap.size w w1 := (hbel.alloc hsz _).grown hgrow (alloc_le hsz _) hown.size
          clear hown hgrow hbel
          go_wp2
          go_roundw
          case rel =>
            refine ⟨_, hown', hbel', by rw [List.length_append, List.length_singleton]; omega, ?_⟩
            cases i with
            | zero =>
              refine .inr ⟨?_, ?_⟩
              · rw [show q = 1 from HQ.out]; rfl
              · show _ = _
                rw [HL.out, HDD.out, show q = 1 from HQ.out, Nat.div_one]
                rfl
            | succ i =>
              refine .inl ⟨i, by omega, ?_, ?_, by rw [List.length_append, List.length_singleton]; omega⟩
              · rw [show ((q : Int) / 10) = ((10 ^ i : Nat) : Int) from by rw [HQ.out, Nat.pow_succ]; omega]
              · show _ = _
                rw [HL.out, HDD.out, HQ.out, List.append_assoc]
                rfl
          case measure => simp [intOf] <;> omega
        · have ht := hown.text
          have e : Hid ((⟨l.toArray⟩ : ByteArray) = R) := str_ext (by rw [HL.out])
          rw [e.out] at ht
          go_wp2
          go_ret
          exact ⟨rfl, hbel⟩

theorem cdec_any (n : Int) (h1 : -2147483648 ≤ n) (h2 : n ≤ 2147483647) (w : World) :
    Calls Ybwm.prog 34 #[.int .i32 n] w fun e w' => e = .returned (.string ⟨(fmtI n).toArray⟩) ∧ Below w.heap.size w w' := by
  by_cases hn : n < 0
  · obtain ⟨m, rfl⟩ : ∃ m : Nat, n = -(m : Int) := ⟨n.natAbs, by omega⟩
    have e : fmtI (-(m : Int)) = 45 :: dec m := by unfold fmtI; rw [if_pos hn, Int.natAbs_neg, Int.natAbs_natCast]
    rw [e]
    exact cdec_neg m (by omega) (by omega) w
  · obtain ⟨m, rfl⟩ : ∃ m : Nat, n = (m : Int) := ⟨n.natAbs, by omega⟩
    have e : fmtI (m : Int) = dec m := by unfold fmtI; rw [if_neg hn, Int.natAbs_natCast]
    rw [e]
    exact cdec_pos m (by omega) (by omega) w
end Go.Proofs.Ymbrbw

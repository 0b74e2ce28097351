import Derived.Test.YmbrbwFormatInt32
import Derived.Test.YmbrbwDecVal
namespace Go.Proofs.Ymbrbw
open Go.ChangeShapes Go.WideShapes Go.ChangeAt Go.RowKit
set_option linter.unusedVariables false
set_option linter.unusedSimpArgs false

/-- The value read so far, and its bound. -/
def vseg (s : ByteArray) (i k : Nat) : Nat := val (seg s i k)
theorem vseg_lt (s : ByteArray) (i k : Nat) (hk : k ≤ s.size) (hs : k - i ≤ 10) (hd : ∀ c ∈ s.data.toList.drop i, isDig c) : vseg s i k < 10000000000 := by
  have h := val_lt (k - i) (seg s i k) (seg_len s i k hk) (fun c hc => hd c (seg_mem s i k hc))
  have h2 : 10 ^ (k - i) ≤ 10 ^ 10 := Nat.pow_le_pow_right (by omega) hs
  unfold vseg
  omega
theorem vseg_none (s : ByteArray) (i : Nat) : vseg s i i = 0 := by unfold vseg; rw [seg_start]; rfl
theorem vseg_step (s : ByteArray) (i k : Nat) (hi : i ≤ k) (h : k < s.size) : vseg s i (k + 1) = vseg s i k * 10 + (s[k].toNat - 48) := by
  unfold vseg
  rw [seg_step s i k hi h, val_snoc]

set_option maxHeartbeats 4000000 in
theorem DReads_neg' (m : Nat) (s : ByteArray) (h0 : 0 < m) (h1 : m ≤ 2147483648)
    (hC : ∀ w, Calls Ybwm.prog 28 #[.int .i32 (-(m : Int))] w fun e w' => e = .returned (.string s) ∧ Below w.heap.size w w')
    (hz1 : 1 < s.size) (hz11 : s.size ≤ 11) (hd : ∀ c ∈ s.data.toList.drop 1, isDig c) (h45 : (s[0].toNat : Int) = 45)
    (hlead : (s[1].toNat : Int) = 48 → s.size = 2) (hval : Hid ((vseg s 1 s.size : Nat) = m)) (w : World) :
    Calls Ybwm.prog 12 #[.int .i32 (-(m : Int))] w fun e w' => e = .returned (.bool true) ∧ Below w.heap.size w w' := by
  have hlead' : ((s[1].toNat : Int) == 48) = false ∨ (((s[1].toNat : Int) == 48) = true ∧ ((s.size : Int) != 2) = false) := by
    by_cases h : (s[1].toNat : Int) = 48
    · exact .inr ⟨int_eq h, by rw [bne, int_eq (by have := hlead h; omega)]; rfl⟩
    · exact .inl (int_ne h)
  have hz2 : ((s.size : Int) == 0) = false := int_ne (by omega)
  have hz3 : ¬ ((s.size : Int) ≤ 1) := by omega
  have hz4 : ¬ ((11 : Int) < (s.size : Int)) := by omega
  clear hlead
  rcases hlead' with q1 | ⟨q1, q2⟩
  all_goals
    go_enter Ybwm.func12, Ybwm.ntmps12
    go_wp2_with (go_at_call 28; refine (hC _).mono ?_; rintro e w' ⟨rfl, hbel⟩)
    go_loop [4, 5] (fun i v => ∃ k : Nat, 1 ≤ k ∧ k ≤ s.size ∧ i = .int .i64 k ∧ v = .int .i64 (vseg s 1 k : Nat)) (fun i _ => s.size - (intOf i).toNat)
    case atStart => exact ⟨1, by omega, by omega, rfl, by rw [vseg_none]; rfl⟩
    case round =>
      obtain ⟨k, hk1, hk2, rfl, rfl⟩ := hrel
      have hvb := vseg_lt s 1 k hk2 (by omega) hd
      by_cases hlt : k < s.size
      · have hdk := hd _ (at_mem s 1 k hk1 hlt)
        have hd1 : 48 ≤ (s[k].toNat : Int) := by unfold isDig at hdk; omega
        have hd2 : (s[k].toNat : Int) ≤ 57 := by unfold isDig at hdk; omega
        have HS : Hid (((vseg s 1 (k + 1) : Nat) : Int) = (vseg s 1 k : Int) * 10 + ((s[k].toNat : Int) - 48)) := by
          show _ = _
          rw [vseg_step s 1 k hk1 hlt]
          omega
        clear hdk
        go_wp2
        go_round
        case rel => exact ⟨k + 1, by omega, by omega, by go_num, by rw [HS.out]⟩
        case measure => simp [intOf]; omega
      · obtain rfl : k = s.size := by omega
        have e : Hid ((-((vseg s 1 s.size : Nat) : Int) == -(m : Int)) = true) := int_eq (by rw [hval.out])
        go_wp2
        go_ret
        exact ⟨ret_bool e.out, hbel⟩

set_option maxHeartbeats 4000000 in
theorem DReads_pos' (m : Nat) (s : ByteArray) (h1 : m ≤ 2147483647)
    (hC : ∀ w, Calls Ybwm.prog 28 #[.int .i32 (m : Int)] w fun e w' => e = .returned (.string s) ∧ Below w.heap.size w w')
    (hz1 : 0 < s.size) (hz11 : s.size ≤ 10) (hd : ∀ c ∈ s.data.toList.drop 0, isDig c)
    (hlead : (s[0].toNat : Int) = 48 → s.size = 1) (hval : Hid ((vseg s 0 s.size : Nat) = m)) (w : World) :
    Calls Ybwm.prog 12 #[.int .i32 (m : Int)] w fun e w' => e = .returned (.bool true) ∧ Below w.heap.size w w' := by
  have hlead' : ((s[0].toNat : Int) == 48) = false ∨ (((s[0].toNat : Int) == 48) = true ∧ ((s.size : Int) != 1) = false) := by
    by_cases h : (s[0].toNat : Int) = 48
    · exact .inr ⟨int_eq h, by rw [bne, int_eq (by have := hlead h; omega)]; rfl⟩
    · exact .inl (int_ne h)
  have hz3 : ¬ ((s.size : Int) ≤ 0) := by omega
  have hne : ¬ s = ByteArray.empty := by intro e; rw [e] at hz1; exact absurd hz1 (by decide)
  have hz4 : ¬ ((10 : Int) < (s.size : Int)) := by omega
  clear hlead
  rcases hlead' with q1 | ⟨q1, q2⟩
  all_goals
    go_enter Ybwm.func12, Ybwm.ntmps12
    go_wp2_with (go_at_call 28; refine (hC _).mono ?_; rintro e w' ⟨rfl, hbel⟩)
    go_loop [4, 5] (fun i v => ∃ k : Nat, 0 ≤ k ∧ k ≤ s.size ∧ i = .int .i64 k ∧ v = .int .i64 (vseg s 0 k : Nat)) (fun i _ => s.size - (intOf i).toNat)
    case atStart => exact ⟨0, by omega, by omega, rfl, by rw [vseg_none]; rfl⟩
    case round =>
      obtain ⟨k, hk1, hk2, rfl, rfl⟩ := hrel
      have hvb := vseg_lt s 0 k hk2 (by omega) hd
      by_cases hlt : k < s.size
      · have hdk := hd _ (at_mem s 0 k hk1 hlt)
        have hd1 : 48 ≤ (s[k].toNat : Int) := by unfold isDig at hdk; omega
        have hd2 : (s[k].toNat : Int) ≤ 57 := by unfold isDig at hdk; omega
        have HS : Hid (((vseg s 0 (k + 1) : Nat) : Int) = (vseg s 0 k : Int) * 10 + ((s[k].toNat : Int) - 48)) := by
          show _ = _
          rw [vseg_step s 0 k hk1 hlt]
          omega
        clear hdk
        go_wp2
        go_round
        case rel => exact ⟨k + 1, by omega, by omega, by go_num, by rw [HS.out]⟩
        case measure => simp [intOf]; omega
      · obtain rfl : k = s.size := by omega
        have e : Hid ((((vseg s 0 s.size : Nat) : Int) == (m : Int)) = true) := int_eq (by rw [hval.out])
        go_wp2
        go_ret
        exact ⟨ret_bool e.out, hbel⟩

theorem at_of (s : ByteArray) (k : Nat) (h : k < s.size) {l : List UInt8} (hl : s.data.toList = l) (h' : k < l.length) : s[k] = l[k] := by
  subst hl; rfl
theorem DReads_walk (n : Int) (w : World) (w0 : (Lit.int .i32 n).wf = true) :
    Calls Ybwm.prog 12 #[.int .i32 n] w fun e w' => e = .returned (.bool true) ∧ Below w.heap.size w w' := by
  have hb := bounds_i32 w0
  by_cases hn : n < 0
  · obtain ⟨m, rfl⟩ : ∃ m : Nat, n = -(m : Int) := ⟨n.natAbs, by omega⟩
    have hl : (dec m).length ≤ 10 := dec_len 9 m (by omega)
    have hl1 := dec_ne m
    have hC := fun w' => formatInt32_neg m (by omega) (by omega) w'
    obtain ⟨s, hs⟩ : ∃ s : ByteArray, s = ⟨(45 :: dec m).toArray⟩ := ⟨_, rfl⟩
    have htx : s.data.toList = 45 :: dec m := by rw [hs]
    rw [← hs] at hC
    have hsz : s.size = (dec m).length + 1 := by
      have : s.data.toList.length = s.size := rfl
      rw [← this, htx]; rfl
    have hdrop : s.data.toList.drop 1 = dec m := by rw [htx]; rfl
    refine DReads_neg' m s (by omega) (by omega) hC (by omega) (by omega) (by rw [hdrop]; exact dec_dig m) ?_ ?_ ?_ w
    · rw [at_of s 0 (by omega) htx (by simp)]; rfl
    · intro h
      by_cases hm : m < 10
      · rw [dec_small m hm] at hsz; simpa using hsz
      · obtain ⟨c, r, e, hc⟩ := dec_head m (by omega)
        rw [at_of s 1 (by omega) htx (by simp [e])] at h
        simp only [e, List.getElem_cons_succ, List.getElem_cons_zero] at h
        omega
    · show val (seg s 1 s.size) = m
      rw [seg_all, hdrop, dec_val]
  · obtain ⟨m, rfl⟩ : ∃ m : Nat, n = (m : Int) := ⟨n.natAbs, by omega⟩
    have hl : (dec m).length ≤ 10 := dec_len 9 m (by omega)
    have hl1 := dec_ne m
    have hC := fun w' => formatInt32_pos m (by omega) w'
    obtain ⟨s, hs⟩ : ∃ s : ByteArray, s = ⟨(dec m).toArray⟩ := ⟨_, rfl⟩
    have htx : s.data.toList = dec m := by rw [hs]
    rw [← hs] at hC
    have hsz : s.size = (dec m).length := by
      have : s.data.toList.length = s.size := rfl
      rw [← this, htx]
    have hdrop : s.data.toList.drop 0 = dec m := by rw [htx]; rfl
    refine DReads_pos' m s (by omega) hC (by omega) (by omega) (by rw [hdrop]; exact dec_dig m) ?_ ?_ w
    · intro h
      by_cases hm : m < 10
      · rw [dec_small m hm] at hsz; simpa using hsz
      · obtain ⟨c, r, e, hc⟩ := dec_head m (by omega)
        rw [at_of s 0 (by omega) htx (by simp [e])] at h
        simp only [e, List.getElem_cons_zero] at h
        omega
    · show val (seg s 0 s.size) = m
      rw [seg_all, hdrop, dec_val]
end Go.Proofs.Ymbrbw

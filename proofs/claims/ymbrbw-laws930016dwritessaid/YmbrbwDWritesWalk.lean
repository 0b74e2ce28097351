import Derived.Test.YmbrbwFormatInt32
import Derived.Test.YmbrbwDecVal
namespace Go.Proofs.Ymbrbw
open Go.ChangeShapes Go.WideShapes Go.ChangeAt Go.RowKit
set_option linter.unusedVariables false
set_option linter.unusedSimpArgs false

set_option maxHeartbeats 8000000 in
theorem DWrites_neg (b off len cap : Nat) (w : World) (hm : len ≤ 1024)
    (hcell : ∀ j, j < len → ∃ x : Int, 0 ≤ x ∧ x ≤ 255 ∧ w.cell? ⟨b, off + j, none⟩ = some (.int .u8 x)) :
    Calls Ybwm.prog 13 #[.bool true, .slice (some ⟨b, off, none⟩) len cap] w fun e w' => e = .returned (.bool true) ∧ Below w.heap.size w w' := by
  have hl : ¬ ((1024 : Int) < (len : Int)) := by omega
  go_enter Ybwm.func13, Ybwm.ntmps13
  go_wp2
  go_loop [6, 7, 18] (fun x7 x8 i => ∃ (k v : Nat) (t : ByteArray), k ≤ len ∧ i = .int .i64 k ∧ x7 = .int .i64 v ∧ v ≤ 2147483648 ∧ x8 = .string t ∧ Hid (t.data.toList = dec v)) (fun _ _ i => len - (intOf i).toNat)
  case atStart => exact ⟨0, 0, _, by omega, rfl, rfl, by omega, rfl, rfl⟩
  case round =>
    obtain ⟨k, v, t, hk, rfl, rfl, hv, rfl, H⟩ := hrel
    have hts : t.size ≤ 10 := by
      have h1 := dec_len 9 v (by omega)
      rw [← H.out] at h1
      exact h1
    by_cases hlt : k < len ∧ ∃ x : Int, 0 ≤ x ∧ x ≤ 255 ∧ w.cell? ⟨b, off + k, none⟩ = some (.int .u8 x) ∧ ¬ ((2147483648 : Int) < (v : Int) * 10 + x % 10)
    · obtain ⟨hlt, x, hx0, hx1, hcx, hw⟩ := hlt
      have hcut := cut_digit (x % 10) (by omega) (by omega) w
      obtain ⟨d, hd⟩ : ∃ d : Nat, (x % 10).toNat = d := ⟨_, rfl⟩
      have hdv : x % 10 = (d : Int) := by omega
      have HD : Hid (x % 10 = (d : Int)) := hdv
      rw [hd] at hcut
      clear hd hdv
      have hd10 : d < 10 := by have := HD.out; omega
      by_cases hv0 : v = 0
      · subst hv0
        go_wp2
        go_round
        case rel => exact ⟨k + 1, d, _, by omega, by go_num, by rw [HD.out], by omega, rfl, by show _ = _; rw [dec_small d hd10]; rfl⟩
        case measure => simp [intOf]; omega
      · have hvz : ((v : Int) == 0) = false := int_ne (by omega)
        have H2 : Hid ((t ++ ⟨#[dg d]⟩).data.toList = dec (v * 10 + d)) := by
          show _ = _
          rw [dec_more v d (by omega) hd10, ByteArray.data_append, Array.toList_append, H.out]
        clear H
        go_wp2
        go_round
        case rel => exact ⟨k + 1, v * 10 + d, _, by omega, by go_num, by rw [HD.out]; go_num, by have := HD.out; omega, rfl, H2⟩
        case measure => simp [intOf]; omega
    · by_cases hvp : 0 < v
      · have hC := fun w' => formatInt32_neg v hvp hv w'
        obtain ⟨r, hr⟩ : ∃ r : ByteArray, r = ⟨(45 :: dec v).toArray⟩ := ⟨_, rfl⟩
        rw [← hr] at hC
        have heq : (r.toList == (⟨#[45]⟩ ++ t).toList) = true := eqb_pos (str_ext (by rw [hr, ByteArray.data_append, Array.toList_append, H.out]; rfl))
        have hb1 : -2147483648 ≤ -(v : Int) := by omega
        have hb2 : -(v : Int) ≤ 2147483647 := by omega
        clear hr H
        by_cases hkl : k < len
        · obtain ⟨x, hx0, hx1, hcx⟩ := hcell k hkl
          have hw : (2147483648 : Int) < (v : Int) * 10 + x % 10 := by
            rcases Int.lt_or_le 2147483648 ((v : Int) * 10 + x % 10) with h | h
            · exact h
            · exact absurd ⟨hkl, x, hx0, hx1, hcx, by omega⟩ hlt
          clear hlt hcell
          go_wp2_with (go_at_call 28; refine (hC _).mono ?_; rintro e w' ⟨rfl, hbel⟩)
          go_ret
          exact ⟨rfl, hbel⟩
        · clear hlt hcell
          go_wp2_with (go_at_call 28; refine (hC _).mono ?_; rintro e w' ⟨rfl, hbel⟩)
          go_ret
          exact ⟨rfl, hbel⟩
      · obtain rfl : v = 0 := by omega
        have hkl : ¬ k < len := by
          intro hkl
          obtain ⟨x, hx0, hx1, hcx⟩ := hcell k hkl
          exact hlt ⟨hkl, x, hx0, hx1, hcx, by omega⟩
        have hC := fun w' => formatInt32_pos 0 (by omega) w'
        obtain ⟨r, hr⟩ : ∃ r : ByteArray, r = ⟨(dec 0).toArray⟩ := ⟨_, rfl⟩
        rw [← hr] at hC
        have heq : (r.toList == t.toList) = true := eqb_pos (str_ext (by rw [hr, H.out]))
        clear hr H hlt hcell
        go_wp2_with (go_at_call 28; refine (hC _).mono ?_; rintro e w' ⟨rfl, hbel⟩)
        go_ret
        exact ⟨rfl, hbel⟩
set_option maxHeartbeats 8000000 in
theorem DWrites_pos (b off len cap : Nat) (w : World) (hm : len ≤ 1024)
    (hcell : ∀ j, j < len → ∃ x : Int, 0 ≤ x ∧ x ≤ 255 ∧ w.cell? ⟨b, off + j, none⟩ = some (.int .u8 x)) :
    Calls Ybwm.prog 13 #[.bool false, .slice (some ⟨b, off, none⟩) len cap] w fun e w' => e = .returned (.bool true) ∧ Below w.heap.size w w' := by
  have hl : ¬ ((1024 : Int) < (len : Int)) := by omega
  go_enter Ybwm.func13, Ybwm.ntmps13
  go_wp2
  go_loop [6, 7, 18] (fun x7 x8 i => ∃ (k v : Nat) (t : ByteArray), k ≤ len ∧ i = .int .i64 k ∧ x7 = .int .i64 v ∧ v ≤ 2147483647 ∧ x8 = .string t ∧ Hid (t.data.toList = dec v)) (fun _ _ i => len - (intOf i).toNat)
  case atStart => exact ⟨0, 0, _, by omega, rfl, rfl, by omega, rfl, rfl⟩
  case round =>
    obtain ⟨k, v, t, hk, rfl, rfl, hv, rfl, H⟩ := hrel
    have hts : t.size ≤ 10 := by
      have h1 := dec_len 9 v (by omega)
      rw [← H.out] at h1
      exact h1
    by_cases hlt : k < len ∧ ∃ x : Int, 0 ≤ x ∧ x ≤ 255 ∧ w.cell? ⟨b, off + k, none⟩ = some (.int .u8 x) ∧ ¬ ((2147483647 : Int) < (v : Int) * 10 + x % 10)
    · obtain ⟨hlt, x, hx0, hx1, hcx, hw⟩ := hlt
      have hcut := cut_digit (x % 10) (by omega) (by omega) w
      obtain ⟨d, hd⟩ : ∃ d : Nat, (x % 10).toNat = d := ⟨_, rfl⟩
      have hdv : x % 10 = (d : Int) := by omega
      have HD : Hid (x % 10 = (d : Int)) := hdv
      rw [hd] at hcut
      clear hd hdv
      have hd10 : d < 10 := by have := HD.out; omega
      by_cases hv0 : v = 0
      · subst hv0
        go_wp2
        go_round
        case rel => exact ⟨k + 1, d, _, by omega, by go_num, by rw [HD.out], by omega, rfl, by show _ = _; rw [dec_small d hd10]; rfl⟩
        case measure => simp [intOf]; omega
      · have hvz : ((v : Int) == 0) = false := int_ne (by omega)
        have H2 : Hid ((t ++ ⟨#[dg d]⟩).data.toList = dec (v * 10 + d)) := by
          show _ = _
          rw [dec_more v d (by omega) hd10, ByteArray.data_append, Array.toList_append, H.out]
        clear H
        go_wp2
        go_round
        case rel => exact ⟨k + 1, v * 10 + d, _, by omega, by go_num, by rw [HD.out]; go_num, by have := HD.out; omega, rfl, H2⟩
        case measure => simp [intOf]; omega
    · have hC := fun w' => formatInt32_pos v hv w'
      obtain ⟨r, hr⟩ : ∃ r : ByteArray, r = ⟨(dec v).toArray⟩ := ⟨_, rfl⟩
      rw [← hr] at hC
      have heq : (r.toList == t.toList) = true := eqb_pos (str_ext (by rw [hr, H.out]))
      clear hr H
      by_cases hkl : k < len
      · obtain ⟨x, hx0, hx1, hcx⟩ := hcell k hkl
        have hw : (2147483647 : Int) < (v : Int) * 10 + x % 10 := by
          rcases Int.lt_or_le 2147483647 ((v : Int) * 10 + x % 10) with h | h
          · exact h
          · exact absurd ⟨hkl, x, hx0, hx1, hcx, by omega⟩ hlt
        clear hlt hcell
        go_wp2_with (go_at_call 28; refine (hC _).mono ?_; rintro e w' ⟨rfl, hbel⟩)
        go_ret
        exact ⟨rfl, hbel⟩
      · clear hlt hcell
        go_wp2_with (go_at_call 28; refine (hC _).mono ?_; rintro e w' ⟨rfl, hbel⟩)
        go_ret
        exact ⟨rfl, hbel⟩

set_option maxHeartbeats 4000000 in
theorem DWrites_nil (neg : Bool) (a : Option Addr) (cap : Nat) (w : World) :
    Calls Ybwm.prog 13 #[.bool neg, .slice a 0 cap] w fun e w' => e = .returned (.bool true) ∧ Below w.heap.size w w' := by
  have hC := fun w' => formatInt32_pos 0 (by omega) w'
  obtain ⟨r, hr⟩ : ∃ r : ByteArray, r = ⟨(dec 0).toArray⟩ := ⟨_, rfl⟩
  rw [← hr] at hC
  have heq : (r.toList == [48]) = true := eqb_lit_pos hr
  clear hr
  cases neg
  all_goals
    go_enter Ybwm.func13, Ybwm.ntmps13
    go_wp2
    refine wp_loop_rounds 1 ?_
    rw [rounds_succ]
    go_wp2_with (go_at_call 28; refine (hC _).mono ?_; rintro e w' ⟨rfl, hbel⟩)
    go_ret
    exact ⟨rfl, hbel⟩

set_option maxHeartbeats 4000000 in
theorem DWrites_walk (neg : Bool) (a1 : Option Addr) (len cap : Nat) (z1 : List Int) (w : World) (w1 : IsRow .u8 w a1 len cap z1) :
    Calls Ybwm.prog 13 #[.bool neg, .slice a1 len cap] w fun e w' => e = .returned (.bool true) ∧ Below w.heap.size w w' := by
  obtain ⟨hm, hv⟩ := w1.view
  by_cases hl : (1024 : Int) < (len : Int)
  · unfold maxLen at hm
    clear hv w1
    go_enter Ybwm.func13, Ybwm.ntmps13
    go_wp2
    go_ret
    exact ⟨rfl, Below.refl _ _⟩
  · rcases hv with rfl | ⟨b, off, rfl, hb, hc⟩
    · exact DWrites_nil neg a1 cap w
    · have hcell : ∀ j, j < len → ∃ x : Int, 0 ≤ x ∧ x ≤ 255 ∧ w.cell? ⟨b, off + j, none⟩ = some (.int .u8 x) := fun j hj =>
        ⟨_, (bounds_u8 (hc j hj).2).1, (bounds_u8 (hc j hj).2).2, (hc j hj).1⟩
      cases neg with
      | true => exact DWrites_neg b off len cap w (by omega) hcell
      | false => exact DWrites_pos b off len cap w (by omega) hcell
end Go.Proofs.Ymbrbw

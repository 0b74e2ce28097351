import Derived.Test.YmbrbwBBuiltPlain
import Derived.Test.YmbrbwBDec
import Derived.Test.YmbrbwBPiecesWalk
import Derived.Test.YmbrbwSlices
namespace Go.Proofs.Ymbrbw
open Go.ChangeShapes Go.WideShapes Go.ChangeAt Go.RowKit
set_option linter.unusedVariables false
set_option linter.unusedSimpArgs false

/-- The text of a pad. -/
def padL (B : Nat → Bool) (k : Nat) : List UInt8 := (List.range k).map fun j => if B j then 9 else 32
theorem padL_succ (B : Nat → Bool) (k : Nat) : padL B (k + 1) = padL B k ++ [if B k then 9 else 32] := by
  unfold padL
  rw [List.range_succ, List.map_append]
  rfl
theorem padL_len (B : Nat → Bool) (k : Nat) : (padL B k).length = k := by unfold padL; rw [List.length_map, List.length_range]
theorem padL_blk (B : Nat → Bool) (k : Nat) : ∀ c ∈ padL B k, blk c = true := by
  intro c hc
  unfold padL at hc
  obtain ⟨j, _, rfl⟩ := List.mem_map.1 hc
  split <;> decide
set_option maxHeartbeats 4000000 in
theorem bpad_any (B : Nat → Bool) (a : Option Addr) (len cap : Nat) (w : World) (hl : len ≤ 256)
    (H : Hid (len = 0 ∨ ∃ b off, a = some ⟨b, off, none⟩ ∧ b < w.heap.size ∧ ∀ j, j < len → w.cell? ⟨b, off + j, none⟩ = some (.bool (B j)))) :
    Calls Ybwm.prog 21 #[.slice a len cap] w fun e w' => e = .returned (.string ⟨(padL B len).toArray⟩) ∧ w' = w := by
  obtain ⟨R, hR⟩ : ∃ R : ByteArray, R = ⟨(padL B len).toArray⟩ := ⟨_, rfl⟩
  rw [← hR]
  have HR : Hid (R.data.toList = padL B len) := by show _ = _; rw [hR]
  clear hR
  go_enter Ybwm.func21, Ybwm.ntmps21
  go_wp2
  go_loop [3, 8] (fun x i => ∃ (k : Nat) (t : ByteArray), k ≤ len ∧ i = .int .i64 k ∧ x = .string t ∧ Hid (t.data.toList = padL B k)) (fun _ i => len - (intOf i).toNat)
  case atStart => exact ⟨0, _, by omega, rfl, rfl, rfl⟩
  case round =>
    obtain ⟨k, t, hk, rfl, rfl, HT⟩ := hrel
    have htz : t.size ≤ 256 := by
      have h1 := congrArg List.length HT.out
      rw [padL_len] at h1
      have h2 : t.data.toList.length = t.size := rfl
      omega
    by_cases hlt : k < len
    · rcases H.out with h | ⟨b, off, rfl, hb, hB⟩
      · omega
      · have hcx := hB k hlt
        clear hB
        cases hv : B k with
        | true =>
          have H2 : Hid ((t ++ ⟨#[9]⟩ : ByteArray).data.toList = padL B (k + 1)) := by
            show _ = _
            rw [ByteArray.data_append, Array.toList_append, HT.out, padL_succ, hv]
            rfl
          rw [hv] at hcx
          clear hv HT
          go_wp2
          go_round
          case rel => exact ⟨k + 1, _, by omega, by go_num, rfl, H2⟩
          case measure => simp [intOf]; omega
        | false =>
          have H2 : Hid ((t ++ ⟨#[32]⟩ : ByteArray).data.toList = padL B (k + 1)) := by
            show _ = _
            rw [ByteArray.data_append, Array.toList_append, HT.out, padL_succ, hv]
            rfl
          rw [hv] at hcx
          clear hv HT
          go_wp2
          go_round
          case rel => exact ⟨k + 1, _, by omega, by go_num, rfl, H2⟩
          case measure => simp [intOf]; omega
    · obtain rfl : k = len := by omega
      have e : Hid (t = R) := str_ext (by rw [HT.out, HR.out])
      go_wp2
      go_ret
      exact ⟨ret_str e.out, rfl⟩

theorem bcode_range (k : Int) (h0 : 0 ≤ k) (h8 : k < 8) : ∃ c : Nat, bcode k = (c : Int) ∧ c < 8 ∧ (k < 2 → c = 0 ∨ c = 7) ∧ (¬ k < 2 → 0 < c ∧ c < 7) := by
  refine ⟨(bcode k).toNat, ?_, ?_, ?_, ?_⟩ <;> unfold bcode <;> (repeat split) <;> omega

theorem edec_len (n : Int) (z : Nat) (h0 : -9223372036854775808 ≤ n) (h1 : n ≤ 9223372036854775807) (hz : z ≤ 3) : (edec n z).length ≤ 30 := by
  have h := dec_len 18 n.natAbs (by omega)
  unfold edec
  split
  · rw [List.length_cons, zdec_len]; omega
  · rw [zdec_len]; omega

set_option maxRecDepth 100000 in
set_option maxHeartbeats 8000000 in
theorem BBuilt_num (a0 n a2 : Int) (a3 : Option Addr) (n3 c3 : Nat) (a4 : Option Addr) (n4 c4 : Nat) (a5 : Option Addr) (n5 c5 : Nat) (a6 : Int) (w : World) (L M T D : ByteArray) (c z : Nat)
    (b0 : 0 ≤ a0 ∧ a0 ≤ 255) (bn : -9223372036854775808 ≤ n ∧ n ≤ 9223372036854775807) (b2 : 0 ≤ a2 ∧ a2 ≤ 255) (b6 : 0 ≤ a6 ∧ a6 ≤ 255) (h3 : n3 ≤ 256) (h4 : n4 ≤ 256) (h5 : n5 ≤ 256)
    (hcb : bcode (a0 % 8) = (c : Int)) (hc07 : c = 0 ∨ c = 7) (i2 : a0 % 8 < 2) (hz : a2 % 4 = (z : Int))
    (hCL : Calls Ybwm.prog 21 #[.slice a3 n3 c3] w fun e w' => e = .returned (.string L) ∧ w' = w) (hLz : L.size ≤ 256) (hLb : ∀ c ∈ L.data.toList, blk c = true)
    (hCM : Calls Ybwm.prog 21 #[.slice a4 n4 c4] w fun e w' => e = .returned (.string M) ∧ w' = w) (hMz : M.size ≤ 256) (hMb : ∀ c ∈ M.data.toList, blk c = true)
    (hCT : Calls Ybwm.prog 21 #[.slice a5 n5 c5] w fun e w' => e = .returned (.string T) ∧ w' = w) (hTz : T.size ≤ 256) (hTb : ∀ c ∈ T.data.toList, blk c = true)
    (hCD : ∀ w, Calls Ybwm.prog 22 #[.int .i64 n, .int .i64 (z : Int)] w fun e w' => e = .returned (.string D) ∧ w' = w) (hDz : D.size ≤ 30) (hDd : D.data.toList = edec n z) :
    Calls Ybwm.prog 8 #[.int .u8 a0, .int .i64 n, .int .u8 a2, .slice a3 n3 c3, .slice a4 n4 c4, .slice a5 n5 c5, .int .u8 a6] w fun e w' => e = .returned (.bool true) ∧ Below w.heap.size w w' := by
  have i0 : 0 ≤ a0 % 8 := by omega
  have i8 : a0 % 8 < 8 := by omega
  have l3 : ¬ ((256 : Int) < (n3 : Int)) := by omega
  have l4 : ¬ ((256 : Int) < (n4 : Int)) := by omega
  have l5 : ¬ ((256 : Int) < (n5 : Int)) := by omega
  have hnz := opName_size (c : Int)
  by_cases hr : -2147483648 ≤ n ∧ n ≤ 2147483647
  · have hr1 : -2147483648 ≤ n := hr.1
    have hr2 : n ≤ 2147483647 := hr.2
    by_cases e1 : a6 % 4 = 1
    · have q1 : (a6 % 4 == 1) = true := int_eq e1
      have hP := fun w' => parseLine_any (L ++ opName ((c : Int)) ++ (⟨#[9]⟩ ++ M ++ D) ++ T ++ ⟨#[32, 120]⟩) w' (by unfold maxLen; simp only [ByteArray.size_append]; have h1 : (⟨#[9]⟩ : ByteArray).size = 1 := rfl; have h2 : (⟨#[32, 120]⟩ : ByteArray).size = 2 := rfl; have h3 : (⟨#[9, 48, 32]⟩ : ByteArray).size = 3 := rfl; omega)
      have e1 : (L ++ opName ((c : Int)) ++ (⟨#[9]⟩ ++ M ++ D) ++ T ++ ⟨#[32, 120]⟩).data.toList = L.data.toList ++ (opName (c : Int)).data.toList ++ ([9] ++ M.data.toList ++ edec n z) ++ T.data.toList ++ [32, 120] := by simp only [ByteArray.data_append, Array.toList_append, hDd, List.append_nil]
      rw [e1, built_num L.data.toList M.data.toList T.data.toList [32, 120] c n z hc07 hLb hMb hTb (.inr (.inl rfl)), if_neg (fun h => by cases h.2)] at hP
      clear e1
      go_enter Ybwm.func8, Ybwm.ntmps8
      go_wp2_with fail
      refine (bname_any _ i0 i8 _).mono ?_
      rintro e w ⟨rfl, rfl⟩
      rw [hcb]
      go_wp2_with fail
      refine hCL.mono ?_
      rintro e w ⟨rfl, rfl⟩
      go_wp2_with fail
      refine hCM.mono ?_
      rintro e w ⟨rfl, rfl⟩
      go_wp2_with fail
      refine (hCD _).mono ?_
      rintro e w ⟨rfl, rfl⟩
      go_wp2_with fail
      refine hCT.mono ?_
      rintro e w ⟨rfl, rfl⟩
      go_wp2_with fail
      refine (hP _).mono ?_
      rintro e wP ⟨rfl, hbP⟩
      have hzP := hbP.size
      go_wp2_with fail
      go_ret
      exact ⟨rfl, by repeat (first | exact hbP | (refine Below.alloc ?_ (by first | omega | (simp; done) | (simp; omega)) _) | (refine Below.setCell ?_ (by first | omega | (simp; done) | (simp; omega)) _))⟩
    by_cases e2 : a6 % 4 = 2
    · have q1 : (a6 % 4 == 1) = false := int_ne e1
      have q2 : (a6 % 4 == 2) = true := int_eq e2
      have hP := fun w' => parseLine_any (L ++ opName ((c : Int)) ++ (⟨#[9]⟩ ++ M ++ D) ++ T ++ ⟨#[9, 48, 32]⟩) w' (by unfold maxLen; simp only [ByteArray.size_append]; have h1 : (⟨#[9]⟩ : ByteArray).size = 1 := rfl; have h2 : (⟨#[32, 120]⟩ : ByteArray).size = 2 := rfl; have h3 : (⟨#[9, 48, 32]⟩ : ByteArray).size = 3 := rfl; omega)
      have e1 : (L ++ opName ((c : Int)) ++ (⟨#[9]⟩ ++ M ++ D) ++ T ++ ⟨#[9, 48, 32]⟩).data.toList = L.data.toList ++ (opName (c : Int)).data.toList ++ ([9] ++ M.data.toList ++ edec n z) ++ T.data.toList ++ [9, 48, 32] := by simp only [ByteArray.data_append, Array.toList_append, hDd, List.append_nil]
      rw [e1, built_num L.data.toList M.data.toList T.data.toList [9, 48, 32] c n z hc07 hLb hMb hTb (.inr (.inr rfl)), if_neg (fun h => by cases h.2)] at hP
      clear e1
      go_enter Ybwm.func8, Ybwm.ntmps8
      go_wp2_with fail
      refine (bname_any _ i0 i8 _).mono ?_
      rintro e w ⟨rfl, rfl⟩
      rw [hcb]
      go_wp2_with fail
      refine hCL.mono ?_
      rintro e w ⟨rfl, rfl⟩
      go_wp2_with fail
      refine hCM.mono ?_
      rintro e w ⟨rfl, rfl⟩
      go_wp2_with fail
      refine (hCD _).mono ?_
      rintro e w ⟨rfl, rfl⟩
      go_wp2_with fail
      refine hCT.mono ?_
      rintro e w ⟨rfl, rfl⟩
      go_wp2_with fail
      refine (hP _).mono ?_
      rintro e wP ⟨rfl, hbP⟩
      have hzP := hbP.size
      go_wp2_with fail
      go_ret
      exact ⟨rfl, by repeat (first | exact hbP | (refine Below.alloc ?_ (by first | omega | (simp; done) | (simp; omega)) _) | (refine Below.setCell ?_ (by first | omega | (simp; done) | (simp; omega)) _))⟩
    · have q1 : (a6 % 4 == 1) = false := int_ne e1
      have q2 : (a6 % 4 == 2) = false := int_ne e2
      have hP := fun w' => parseLine_any (L ++ opName ((c : Int)) ++ (⟨#[9]⟩ ++ M ++ D) ++ T) w' (by unfold maxLen; simp only [ByteArray.size_append]; have h1 : (⟨#[9]⟩ : ByteArray).size = 1 := rfl; have h2 : (⟨#[32, 120]⟩ : ByteArray).size = 2 := rfl; have h3 : (⟨#[9, 48, 32]⟩ : ByteArray).size = 3 := rfl; omega)
      have e1 : (L ++ opName ((c : Int)) ++ (⟨#[9]⟩ ++ M ++ D) ++ T).data.toList = L.data.toList ++ (opName (c : Int)).data.toList ++ ([9] ++ M.data.toList ++ edec n z) ++ T.data.toList ++ [] := by simp only [ByteArray.data_append, Array.toList_append, hDd, List.append_nil]
      rw [e1, built_num L.data.toList M.data.toList T.data.toList [] c n z hc07 hLb hMb hTb (.inl rfl), if_pos ⟨hr, rfl⟩] at hP
      clear e1
      go_enter Ybwm.func8, Ybwm.ntmps8
      go_wp2_with fail
      refine (bname_any _ i0 i8 _).mono ?_
      rintro e w ⟨rfl, rfl⟩
      rw [hcb]
      go_wp2_with fail
      refine hCL.mono ?_
      rintro e w ⟨rfl, rfl⟩
      go_wp2_with fail
      refine hCM.mono ?_
      rintro e w ⟨rfl, rfl⟩
      go_wp2_with fail
      refine (hCD _).mono ?_
      rintro e w ⟨rfl, rfl⟩
      go_wp2_with fail
      refine hCT.mono ?_
      rintro e w ⟨rfl, rfl⟩
      go_wp2_with fail
      refine (hP _).mono ?_
      rintro e wP ⟨rfl, hbP⟩
      have hzP := hbP.size
      go_wp2_with fail
      go_ret
      exact ⟨rfl, by repeat (first | exact hbP | (refine Below.alloc ?_ (by first | omega | (simp; done) | (simp; omega)) _) | (refine Below.setCell ?_ (by first | omega | (simp; done) | (simp; omega)) _))⟩
  · have hr' : n < -2147483648 ∨ (-2147483648 ≤ n ∧ 2147483647 < n) := by omega
    rcases hr' with hr1 | ⟨hr1, hr2⟩
    · have hd : decide (-2147483648 ≤ n) = false := decide_eq_false (by omega)
      by_cases e1 : a6 % 4 = 1
      · have q1 : (a6 % 4 == 1) = true := int_eq e1
        have hP := fun w' => parseLine_any (L ++ opName ((c : Int)) ++ (⟨#[9]⟩ ++ M ++ D) ++ T ++ ⟨#[32, 120]⟩) w' (by unfold maxLen; simp only [ByteArray.size_append]; have h1 : (⟨#[9]⟩ : ByteArray).size = 1 := rfl; have h2 : (⟨#[32, 120]⟩ : ByteArray).size = 2 := rfl; have h3 : (⟨#[9, 48, 32]⟩ : ByteArray).size = 3 := rfl; omega)
        have e1 : (L ++ opName ((c : Int)) ++ (⟨#[9]⟩ ++ M ++ D) ++ T ++ ⟨#[32, 120]⟩).data.toList = L.data.toList ++ (opName (c : Int)).data.toList ++ ([9] ++ M.data.toList ++ edec n z) ++ T.data.toList ++ [32, 120] := by simp only [ByteArray.data_append, Array.toList_append, hDd, List.append_nil]
        rw [e1, built_num L.data.toList M.data.toList T.data.toList [32, 120] c n z hc07 hLb hMb hTb (.inr (.inl rfl)), if_neg (fun h => by cases h.2)] at hP
        clear e1
        go_enter Ybwm.func8, Ybwm.ntmps8
        go_wp2_with fail
        refine (bname_any _ i0 i8 _).mono ?_
        rintro e w ⟨rfl, rfl⟩
        rw [hcb]
        go_wp2_with fail
        refine hCL.mono ?_
        rintro e w ⟨rfl, rfl⟩
        go_wp2_with fail
        refine hCM.mono ?_
        rintro e w ⟨rfl, rfl⟩
        go_wp2_with fail
        refine (hCD _).mono ?_
        rintro e w ⟨rfl, rfl⟩
        go_wp2_with fail
        refine hCT.mono ?_
        rintro e w ⟨rfl, rfl⟩
        go_wp2_with fail
        refine (hP _).mono ?_
        rintro e wP ⟨rfl, hbP⟩
        have hzP := hbP.size
        go_wp2_with fail
        go_ret
        exact ⟨rfl, by repeat (first | exact hbP | (refine Below.alloc ?_ (by first | omega | (simp; done) | (simp; omega)) _) | (refine Below.setCell ?_ (by first | omega | (simp; done) | (simp; omega)) _))⟩
      by_cases e2 : a6 % 4 = 2
      · have q1 : (a6 % 4 == 1) = false := int_ne e1
        have q2 : (a6 % 4 == 2) = true := int_eq e2
        have hP := fun w' => parseLine_any (L ++ opName ((c : Int)) ++ (⟨#[9]⟩ ++ M ++ D) ++ T ++ ⟨#[9, 48, 32]⟩) w' (by unfold maxLen; simp only [ByteArray.size_append]; have h1 : (⟨#[9]⟩ : ByteArray).size = 1 := rfl; have h2 : (⟨#[32, 120]⟩ : ByteArray).size = 2 := rfl; have h3 : (⟨#[9, 48, 32]⟩ : ByteArray).size = 3 := rfl; omega)
        have e1 : (L ++ opName ((c : Int)) ++ (⟨#[9]⟩ ++ M ++ D) ++ T ++ ⟨#[9, 48, 32]⟩).data.toList = L.data.toList ++ (opName (c : Int)).data.toList ++ ([9] ++ M.data.toList ++ edec n z) ++ T.data.toList ++ [9, 48, 32] := by simp only [ByteArray.data_append, Array.toList_append, hDd, List.append_nil]
        rw [e1, built_num L.data.toList M.data.toList T.data.toList [9, 48, 32] c n z hc07 hLb hMb hTb (.inr (.inr rfl)), if_neg (fun h => by cases h.2)] at hP
        clear e1
        go_enter Ybwm.func8, Ybwm.ntmps8
        go_wp2_with fail
        refine (bname_any _ i0 i8 _).mono ?_
        rintro e w ⟨rfl, rfl⟩
        rw [hcb]
        go_wp2_with fail
        refine hCL.mono ?_
        rintro e w ⟨rfl, rfl⟩
        go_wp2_with fail
        refine hCM.mono ?_
        rintro e w ⟨rfl, rfl⟩
        go_wp2_with fail
        refine (hCD _).mono ?_
        rintro e w ⟨rfl, rfl⟩
        go_wp2_with fail
        refine hCT.mono ?_
        rintro e w ⟨rfl, rfl⟩
        go_wp2_with fail
        refine (hP _).mono ?_
        rintro e wP ⟨rfl, hbP⟩
        have hzP := hbP.size
        go_wp2_with fail
        go_ret
        exact ⟨rfl, by repeat (first | exact hbP | (refine Below.alloc ?_ (by first | omega | (simp; done) | (simp; omega)) _) | (refine Below.setCell ?_ (by first | omega | (simp; done) | (simp; omega)) _))⟩
      · have q1 : (a6 % 4 == 1) = false := int_ne e1
        have q2 : (a6 % 4 == 2) = false := int_ne e2
        have hP := fun w' => parseLine_any (L ++ opName ((c : Int)) ++ (⟨#[9]⟩ ++ M ++ D) ++ T) w' (by unfold maxLen; simp only [ByteArray.size_append]; have h1 : (⟨#[9]⟩ : ByteArray).size = 1 := rfl; have h2 : (⟨#[32, 120]⟩ : ByteArray).size = 2 := rfl; have h3 : (⟨#[9, 48, 32]⟩ : ByteArray).size = 3 := rfl; omega)
        have e1 : (L ++ opName ((c : Int)) ++ (⟨#[9]⟩ ++ M ++ D) ++ T).data.toList = L.data.toList ++ (opName (c : Int)).data.toList ++ ([9] ++ M.data.toList ++ edec n z) ++ T.data.toList ++ [] := by simp only [ByteArray.data_append, Array.toList_append, hDd, List.append_nil]
        rw [e1, built_num L.data.toList M.data.toList T.data.toList [] c n z hc07 hLb hMb hTb (.inl rfl), if_neg (fun h => hr h.1)] at hP
        clear e1
        go_enter Ybwm.func8, Ybwm.ntmps8
        go_wp2_with fail
        refine (bname_any _ i0 i8 _).mono ?_
        rintro e w ⟨rfl, rfl⟩
        rw [hcb]
        go_wp2_with fail
        refine hCL.mono ?_
        rintro e w ⟨rfl, rfl⟩
        go_wp2_with fail
        refine hCM.mono ?_
        rintro e w ⟨rfl, rfl⟩
        go_wp2_with fail
        refine (hCD _).mono ?_
        rintro e w ⟨rfl, rfl⟩
        go_wp2_with fail
        refine hCT.mono ?_
        rintro e w ⟨rfl, rfl⟩
        go_wp2_with fail
        refine (hP _).mono ?_
        rintro e wP ⟨rfl, hbP⟩
        have hzP := hbP.size
        go_wp2_with fail
        go_ret
        exact ⟨rfl, by repeat (first | exact hbP | (refine Below.alloc ?_ (by first | omega | (simp; done) | (simp; omega)) _) | (refine Below.setCell ?_ (by first | omega | (simp; done) | (simp; omega)) _))⟩
    · have hd : decide (n ≤ 2147483647) = false := decide_eq_false (by omega)
      by_cases e1 : a6 % 4 = 1
      · have q1 : (a6 % 4 == 1) = true := int_eq e1
        have hP := fun w' => parseLine_any (L ++ opName ((c : Int)) ++ (⟨#[9]⟩ ++ M ++ D) ++ T ++ ⟨#[32, 120]⟩) w' (by unfold maxLen; simp only [ByteArray.size_append]; have h1 : (⟨#[9]⟩ : ByteArray).size = 1 := rfl; have h2 : (⟨#[32, 120]⟩ : ByteArray).size = 2 := rfl; have h3 : (⟨#[9, 48, 32]⟩ : ByteArray).size = 3 := rfl; omega)
        have e1 : (L ++ opName ((c : Int)) ++ (⟨#[9]⟩ ++ M ++ D) ++ T ++ ⟨#[32, 120]⟩).data.toList = L.data.toList ++ (opName (c : Int)).data.toList ++ ([9] ++ M.data.toList ++ edec n z) ++ T.data.toList ++ [32, 120] := by simp only [ByteArray.data_append, Array.toList_append, hDd, List.append_nil]
        rw [e1, built_num L.data.toList M.data.toList T.data.toList [32, 120] c n z hc07 hLb hMb hTb (.inr (.inl rfl)), if_neg (fun h => by cases h.2)] at hP
        clear e1
        go_enter Ybwm.func8, Ybwm.ntmps8
        go_wp2_with fail
        refine (bname_any _ i0 i8 _).mono ?_
        rintro e w ⟨rfl, rfl⟩
        rw [hcb]
        go_wp2_with fail
        refine hCL.mono ?_
        rintro e w ⟨rfl, rfl⟩
        go_wp2_with fail
        refine hCM.mono ?_
        rintro e w ⟨rfl, rfl⟩
        go_wp2_with fail
        refine (hCD _).mono ?_
        rintro e w ⟨rfl, rfl⟩
        go_wp2_with fail
        refine hCT.mono ?_
        rintro e w ⟨rfl, rfl⟩
        go_wp2_with fail
        refine (hP _).mono ?_
        rintro e wP ⟨rfl, hbP⟩
        have hzP := hbP.size
        go_wp2_with fail
        go_ret
        exact ⟨rfl, by repeat (first | exact hbP | (refine Below.alloc ?_ (by first | omega | (simp; done) | (simp; omega)) _) | (refine Below.setCell ?_ (by first | omega | (simp; done) | (simp; omega)) _))⟩
      by_cases e2 : a6 % 4 = 2
      · have q1 : (a6 % 4 == 1) = false := int_ne e1
        have q2 : (a6 % 4 == 2) = true := int_eq e2
        have hP := fun w' => parseLine_any (L ++ opName ((c : Int)) ++ (⟨#[9]⟩ ++ M ++ D) ++ T ++ ⟨#[9, 48, 32]⟩) w' (by unfold maxLen; simp only [ByteArray.size_append]; have h1 : (⟨#[9]⟩ : ByteArray).size = 1 := rfl; have h2 : (⟨#[32, 120]⟩ : ByteArray).size = 2 := rfl; have h3 : (⟨#[9, 48, 32]⟩ : ByteArray).size = 3 := rfl; omega)
        have e1 : (L ++ opName ((c : Int)) ++ (⟨#[9]⟩ ++ M ++ D) ++ T ++ ⟨#[9, 48, 32]⟩).data.toList = L.data.toList ++ (opName (c : Int)).data.toList ++ ([9] ++ M.data.toList ++ edec n z) ++ T.data.toList ++ [9, 48, 32] := by simp only [ByteArray.data_append, Array.toList_append, hDd, List.append_nil]
        rw [e1, built_num L.data.toList M.data.toList T.data.toList [9, 48, 32] c n z hc07 hLb hMb hTb (.inr (.inr rfl)), if_neg (fun h => by cases h.2)] at hP
        clear e1
        go_enter Ybwm.func8, Ybwm.ntmps8
        go_wp2_with fail
        refine (bname_any _ i0 i8 _).mono ?_
        rintro e w ⟨rfl, rfl⟩
        rw [hcb]
        go_wp2_with fail
        refine hCL.mono ?_
        rintro e w ⟨rfl, rfl⟩
        go_wp2_with fail
        refine hCM.mono ?_
        rintro e w ⟨rfl, rfl⟩
        go_wp2_with fail
        refine (hCD _).mono ?_
        rintro e w ⟨rfl, rfl⟩
        go_wp2_with fail
        refine hCT.mono ?_
        rintro e w ⟨rfl, rfl⟩
        go_wp2_with fail
        refine (hP _).mono ?_
        rintro e wP ⟨rfl, hbP⟩
        have hzP := hbP.size
        go_wp2_with fail
        go_ret
        exact ⟨rfl, by repeat (first | exact hbP | (refine Below.alloc ?_ (by first | omega | (simp; done) | (simp; omega)) _) | (refine Below.setCell ?_ (by first | omega | (simp; done) | (simp; omega)) _))⟩
      · have q1 : (a6 % 4 == 1) = false := int_ne e1
        have q2 : (a6 % 4 == 2) = false := int_ne e2
        have hP := fun w' => parseLine_any (L ++ opName ((c : Int)) ++ (⟨#[9]⟩ ++ M ++ D) ++ T) w' (by unfold maxLen; simp only [ByteArray.size_append]; have h1 : (⟨#[9]⟩ : ByteArray).size = 1 := rfl; have h2 : (⟨#[32, 120]⟩ : ByteArray).size = 2 := rfl; have h3 : (⟨#[9, 48, 32]⟩ : ByteArray).size = 3 := rfl; omega)
        have e1 : (L ++ opName ((c : Int)) ++ (⟨#[9]⟩ ++ M ++ D) ++ T).data.toList = L.data.toList ++ (opName (c : Int)).data.toList ++ ([9] ++ M.data.toList ++ edec n z) ++ T.data.toList ++ [] := by simp only [ByteArray.data_append, Array.toList_append, hDd, List.append_nil]
        rw [e1, built_num L.data.toList M.data.toList T.data.toList [] c n z hc07 hLb hMb hTb (.inl rfl), if_neg (fun h => hr h.1)] at hP
        clear e1
        go_enter Ybwm.func8, Ybwm.ntmps8
        go_wp2_with fail
        refine (bname_any _ i0 i8 _).mono ?_
        rintro e w ⟨rfl, rfl⟩
        rw [hcb]
        go_wp2_with fail
        refine hCL.mono ?_
        rintro e w ⟨rfl, rfl⟩
        go_wp2_with fail
        refine hCM.mono ?_
        rintro e w ⟨rfl, rfl⟩
        go_wp2_with fail
        refine (hCD _).mono ?_
        rintro e w ⟨rfl, rfl⟩
        go_wp2_with fail
        refine hCT.mono ?_
        rintro e w ⟨rfl, rfl⟩
        go_wp2_with fail
        refine (hP _).mono ?_
        rintro e wP ⟨rfl, hbP⟩
        have hzP := hbP.size
        go_wp2_with fail
        go_ret
        exact ⟨rfl, by repeat (first | exact hbP | (refine Below.alloc ?_ (by first | omega | (simp; done) | (simp; omega)) _) | (refine Below.setCell ?_ (by first | omega | (simp; done) | (simp; omega)) _))⟩

set_option maxRecDepth 100000 in
set_option maxHeartbeats 8000000 in
theorem BBuilt_plain (a0 n a2 : Int) (a3 : Option Addr) (n3 c3 : Nat) (a4 : Option Addr) (n4 c4 : Nat) (a5 : Option Addr) (n5 c5 : Nat) (a6 : Int) (w : World) (L T : ByteArray) (c : Nat)
    (b0 : 0 ≤ a0 ∧ a0 ≤ 255) (b6 : 0 ≤ a6 ∧ a6 ≤ 255) (h3 : n3 ≤ 256) (h4 : n4 ≤ 256) (h5 : n5 ≤ 256)
    (hcb : bcode (a0 % 8) = (c : Int)) (hcp : 0 < c ∧ c < 7) (i2 : ¬ a0 % 8 < 2)
    (hCL : Calls Ybwm.prog 21 #[.slice a3 n3 c3] w fun e w' => e = .returned (.string L) ∧ w' = w) (hLz : L.size ≤ 256) (hLb : ∀ c ∈ L.data.toList, blk c = true)
    (hCT : Calls Ybwm.prog 21 #[.slice a5 n5 c5] w fun e w' => e = .returned (.string T) ∧ w' = w) (hTz : T.size ≤ 256) (hTb : ∀ c ∈ T.data.toList, blk c = true) :
    Calls Ybwm.prog 8 #[.int .u8 a0, .int .i64 n, .int .u8 a2, .slice a3 n3 c3, .slice a4 n4 c4, .slice a5 n5 c5, .int .u8 a6] w fun e w' => e = .returned (.bool true) ∧ Below w.heap.size w w' := by
  have i0 : 0 ≤ a0 % 8 := by omega
  have i8 : a0 % 8 < 8 := by omega
  have l3 : ¬ ((256 : Int) < (n3 : Int)) := by omega
  have l4 : ¬ ((256 : Int) < (n4 : Int)) := by omega
  have l5 : ¬ ((256 : Int) < (n5 : Int)) := by omega
  have hnz := opName_size (c : Int)
  by_cases e1 : a6 % 4 = 1
  · have q1 : (a6 % 4 == 1) = true := int_eq e1
    have hP := fun w' => parseLine_any (L ++ opName ((c : Int)) ++ T ++ ⟨#[32, 120]⟩) w' (by unfold maxLen; simp only [ByteArray.size_append]; have h1 : (⟨#[9]⟩ : ByteArray).size = 1 := rfl; have h2 : (⟨#[32, 120]⟩ : ByteArray).size = 2 := rfl; have h3 : (⟨#[9, 48, 32]⟩ : ByteArray).size = 3 := rfl; omega)
    have e1 : (L ++ opName ((c : Int)) ++ T ++ ⟨#[32, 120]⟩).data.toList = L.data.toList ++ (opName (c : Int)).data.toList ++ T.data.toList ++ [32, 120] := by simp only [ByteArray.data_append, Array.toList_append, List.append_nil]
    rw [e1, built_plain L.data.toList T.data.toList [32, 120] c hcp.1 hcp.2 hLb hTb (.inr (.inl rfl)), if_neg (fun h => by cases h)] at hP
    clear e1
    go_enter Ybwm.func8, Ybwm.ntmps8
    go_wp2_with fail
    refine (bname_any _ i0 i8 _).mono ?_
    rintro e w ⟨rfl, rfl⟩
    rw [hcb]
    go_wp2_with fail
    refine hCL.mono ?_
    rintro e w ⟨rfl, rfl⟩
    go_wp2_with fail
    refine hCT.mono ?_
    rintro e w ⟨rfl, rfl⟩
    go_wp2_with fail
    refine (hP _).mono ?_
    rintro e wP ⟨rfl, hbP⟩
    have hzP := hbP.size
    go_wp2_with fail
    go_ret
    exact ⟨rfl, by repeat (first | exact hbP | (refine Below.alloc ?_ (by first | omega | (simp; done) | (simp; omega)) _) | (refine Below.setCell ?_ (by first | omega | (simp; done) | (simp; omega)) _))⟩
  by_cases e2 : a6 % 4 = 2
  · have q1 : (a6 % 4 == 1) = false := int_ne e1
    have q2 : (a6 % 4 == 2) = true := int_eq e2
    have hP := fun w' => parseLine_any (L ++ opName ((c : Int)) ++ T ++ ⟨#[9, 48, 32]⟩) w' (by unfold maxLen; simp only [ByteArray.size_append]; have h1 : (⟨#[9]⟩ : ByteArray).size = 1 := rfl; have h2 : (⟨#[32, 120]⟩ : ByteArray).size = 2 := rfl; have h3 : (⟨#[9, 48, 32]⟩ : ByteArray).size = 3 := rfl; omega)
    have e1 : (L ++ opName ((c : Int)) ++ T ++ ⟨#[9, 48, 32]⟩).data.toList = L.data.toList ++ (opName (c : Int)).data.toList ++ T.data.toList ++ [9, 48, 32] := by simp only [ByteArray.data_append, Array.toList_append, List.append_nil]
    rw [e1, built_plain L.data.toList T.data.toList [9, 48, 32] c hcp.1 hcp.2 hLb hTb (.inr (.inr rfl)), if_neg (fun h => by cases h)] at hP
    clear e1
    go_enter Ybwm.func8, Ybwm.ntmps8
    go_wp2_with fail
    refine (bname_any _ i0 i8 _).mono ?_
    rintro e w ⟨rfl, rfl⟩
    rw [hcb]
    go_wp2_with fail
    refine hCL.mono ?_
    rintro e w ⟨rfl, rfl⟩
    go_wp2_with fail
    refine hCT.mono ?_
    rintro e w ⟨rfl, rfl⟩
    go_wp2_with fail
    refine (hP _).mono ?_
    rintro e wP ⟨rfl, hbP⟩
    have hzP := hbP.size
    go_wp2_with fail
    go_ret
    exact ⟨rfl, by repeat (first | exact hbP | (refine Below.alloc ?_ (by first | omega | (simp; done) | (simp; omega)) _) | (refine Below.setCell ?_ (by first | omega | (simp; done) | (simp; omega)) _))⟩
  · have q1 : (a6 % 4 == 1) = false := int_ne e1
    have q2 : (a6 % 4 == 2) = false := int_ne e2
    have hP := fun w' => parseLine_any (L ++ opName ((c : Int)) ++ T) w' (by unfold maxLen; simp only [ByteArray.size_append]; have h1 : (⟨#[9]⟩ : ByteArray).size = 1 := rfl; have h2 : (⟨#[32, 120]⟩ : ByteArray).size = 2 := rfl; have h3 : (⟨#[9, 48, 32]⟩ : ByteArray).size = 3 := rfl; omega)
    have e1 : (L ++ opName ((c : Int)) ++ T).data.toList = L.data.toList ++ (opName (c : Int)).data.toList ++ T.data.toList ++ [] := by simp only [ByteArray.data_append, Array.toList_append, List.append_nil]
    rw [e1, built_plain L.data.toList T.data.toList [] c hcp.1 hcp.2 hLb hTb (.inl rfl), if_pos rfl] at hP
    clear e1
    go_enter Ybwm.func8, Ybwm.ntmps8
    go_wp2_with fail
    refine (bname_any _ i0 i8 _).mono ?_
    rintro e w ⟨rfl, rfl⟩
    rw [hcb]
    go_wp2_with fail
    refine hCL.mono ?_
    rintro e w ⟨rfl, rfl⟩
    go_wp2_with fail
    refine hCT.mono ?_
    rintro e w ⟨rfl, rfl⟩
    go_wp2_with fail
    refine (hP _).mono ?_
    rintro e wP ⟨rfl, hbP⟩
    have hzP := hbP.size
    go_wp2_with fail
    go_ret
    exact ⟨rfl, by repeat (first | exact hbP | (refine Below.alloc ?_ (by first | omega | (simp; done) | (simp; omega)) _) | (refine Below.setCell ?_ (by first | omega | (simp; done) | (simp; omega)) _))⟩

theorem bools_fn {w : World} {a : Option Addr} {len : Nat} (h : BoolsAt w a len) : ∃ B : Nat → Bool, len = 0 ∨ ∃ b off, a = some ⟨b, off, none⟩ ∧ b < w.heap.size ∧ ∀ j, j < len → w.cell? ⟨b, off + j, none⟩ = some (.bool (B j)) := by
  rcases h.2 with h | ⟨b, off, h1, h2, B, hB⟩
  · exact ⟨fun _ => false, .inl h⟩
  · exact ⟨B, .inr ⟨b, off, h1, h2, hB⟩⟩

set_option maxRecDepth 100000 in
set_option maxHeartbeats 4000000 in
theorem BBuilt_walk (a0 n a2 : Int) (a3 : Option Addr) (n3 c3 : Nat) (a4 : Option Addr) (n4 c4 : Nat) (a5 : Option Addr) (n5 c5 : Nat) (a6 : Int) (w : World)
    (w0 : (Lit.int .u8 a0).wf = true) (w1 : (Lit.int .i64 n).wf = true) (w2 : (Lit.int .u8 a2).wf = true) (w3 : BoolsAt w a3 n3) (w4 : BoolsAt w a4 n4) (w5 : BoolsAt w a5 n5) (w6 : (Lit.int .u8 a6).wf = true) :
    Calls Ybwm.prog 8 #[.int .u8 a0, .int .i64 n, .int .u8 a2, .slice a3 n3 c3, .slice a4 n4 c4, .slice a5 n5 c5, .int .u8 a6] w fun e w' => e = .returned (.bool true) ∧ Below w.heap.size w w' := by
  have b0 := bounds_u8 w0
  have bn := bounds_i64 w1
  have b2 := bounds_u8 w2
  have b6 := bounds_u8 w6
  have m3 := w3.1
  have m4 := w4.1
  have m5 := w5.1
  unfold maxLen at m3 m4 m5
  obtain ⟨B3, v3⟩ := bools_fn w3
  obtain ⟨B4, v4⟩ := bools_fn w4
  obtain ⟨B5, v5⟩ := bools_fn w5
  by_cases l3 : (256 : Int) < (n3 : Int)
  · clear w3 w4 w5 v3 v4 v5
    go_enter Ybwm.func8, Ybwm.ntmps8
    go_wp2
    go_ret
    exact ⟨rfl, Below.refl _ _⟩
  by_cases l4 : (256 : Int) < (n4 : Int)
  · clear w3 w4 w5 v3 v4 v5
    go_enter Ybwm.func8, Ybwm.ntmps8
    go_wp2
    go_ret
    exact ⟨rfl, Below.refl _ _⟩
  by_cases l5 : (256 : Int) < (n5 : Int)
  · clear w3 w4 w5 v3 v4 v5
    go_enter Ybwm.func8, Ybwm.ntmps8
    go_wp2
    go_ret
    exact ⟨rfl, Below.refl _ _⟩
  have hz : ∀ (B : Nat → Bool) (k : Nat), (⟨(padL B k).toArray⟩ : ByteArray).size = k := fun B k => by show (padL B k).toArray.size = k; rw [List.size_toArray, padL_len]
  have hCL := bpad_any B3 a3 n3 c3 w (by omega) v3
  have hCM := bpad_any B4 a4 n4 c4 w (by omega) v4
  have hCT := bpad_any B5 a5 n5 c5 w (by omega) v5
  obtain ⟨c, hcb, hc8, hc07, hcp⟩ := bcode_range (a0 % 8) (by omega) (by omega)
  by_cases i2 : a0 % 8 < 2
  · obtain ⟨z, hzz⟩ : ∃ z : Nat, a2 % 4 = (z : Int) := ⟨(a2 % 4).toNat, by omega⟩
    have hlen := edec_len n z bn.1 bn.2 (by omega)
    exact BBuilt_num a0 n a2 a3 n3 c3 a4 n4 c4 a5 n5 c5 a6 w _ _ _ ⟨(edec n z).toArray⟩ c z b0 bn b2 b6 (by omega) (by omega) (by omega) hcb (hc07 i2) i2 hzz hCL (by rw [hz]; omega) (padL_blk B3 n3) hCM (by rw [hz]; omega) (padL_blk B4 n4) hCT (by rw [hz]; omega) (padL_blk B5 n5)
      (fun w => bdec_any n z bn.1 bn.2 (by omega) w) (by show (edec n z).toArray.size ≤ 30; rw [List.size_toArray]; exact hlen) rfl
  · exact BBuilt_plain a0 n a2 a3 n3 c3 a4 n4 c4 a5 n5 c5 a6 w _ _ c b0 b6 (by omega) (by omega) (by omega) hcb (hcp i2) i2 hCL (by rw [hz]; omega) (padL_blk B3 n3) hCT (by rw [hz]; omega) (padL_blk B5 n5)
end Go.Proofs.Ymbrbw

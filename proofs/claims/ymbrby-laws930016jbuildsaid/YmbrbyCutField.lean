import Derived.Test.YmbrbyDecVal
import Derived.Deep.QuietTactic
import Derived.BigQuiet
namespace Go.Proofs.Ymbrby
open Go.ChangeShapes Go.WideShapes Go.ChangeAt Go.RowKit
set_option linter.unusedVariables false
set_option linter.unusedSimpArgs false

/-! ### What cutField answers, as plain Lean -/
def blk (c : UInt8) : Bool := decide (c.toNat = 32 ∨ c.toNat = 9)
def nbk (c : UInt8) : Bool := !blk c
def cutF (l : List UInt8) : List UInt8 × List UInt8 := ((l.dropWhile blk).takeWhile nbk, (l.dropWhile blk).dropWhile nbk)

theorem drop_at (s : ByteArray) (k : Nat) (h : k < s.size) : s.data.toList.drop k = s[k] :: s.data.toList.drop (k + 1) := by
  rw [List.drop_eq_getElem_cons (by exact h)]
  rfl
theorem drop_all (s : ByteArray) : s.data.toList.drop s.size = [] := List.drop_eq_nil_of_le (Nat.le_refl _)
theorem cut_seg (s : ByteArray) (i j : Nat) (hj : j ≤ s.size) : (s.extract i j).data.toList = seg s i j := by
  unfold seg
  rw [Go.Lib.extract_data, List.drop_take]
theorem cut_rest (s : ByteArray) (j : Nat) : (s.extract j s.size).data.toList = s.data.toList.drop j := by
  rw [Go.Lib.extract_data, List.take_of_length_le]
  rw [List.length_drop]
  exact Nat.le_refl _

set_option maxHeartbeats 4000000 in
theorem cutField_any (s : ByteArray) (w : World) (hs : s.size ≤ maxLen) :
    Calls Ybym.prog 25 #[.string s] w fun e w' => e = .returned (.tuple #[.string ⟨(cutF s.data.toList).1.toArray⟩, .string ⟨(cutF s.data.toList).2.toArray⟩]) ∧ ∃ n, w' = w.drewN n := by
  unfold maxLen at hs
  obtain ⟨F, hF⟩ : ∃ F : ByteArray, F = ⟨(cutF s.data.toList).1.toArray⟩ := ⟨_, rfl⟩
  obtain ⟨R, hR⟩ : ∃ R : ByteArray, R = ⟨(cutF s.data.toList).2.toArray⟩ := ⟨_, rfl⟩
  rw [← hF, ← hR]
  have HF : Hid (F.data.toList = (s.data.toList.dropWhile blk).takeWhile nbk) := by show _ = _; rw [hF]; rfl
  have HR : Hid (R.data.toList = (s.data.toList.dropWhile blk).dropWhile nbk) := by show _ = _; rw [hR]; rfl
  clear hF hR
  go_enter Ybym.func25, Ybym.ntmps25
  go_wp2
  go_loop [4] (fun i => ∃ k : Nat, k ≤ s.size ∧ i = .int .i64 k ∧ Hid (s.data.toList.dropWhile blk = (s.data.toList.drop k).dropWhile blk)) (fun i => s.size - (intOf i).toNat)
  case atStart => exact ⟨0, by omega, rfl, rfl⟩
  case round =>
    obtain ⟨i, hi, rfl, HI⟩ := hrel
    by_cases hb : ∃ h : i < s.size, blk s[i] = true
    · obtain ⟨hlt, hb⟩ := hb
      have HI' : Hid (s.data.toList.dropWhile blk = (s.data.toList.drop (i + 1)).dropWhile blk) := by
        show _ = _
        rw [HI.out, drop_at s i hlt, List.dropWhile_cons_of_pos hb]
      clear HI HF HR
      have hb' := of_decide_eq_true hb
      clear hb
      by_cases h32 : (s[i].toNat : Int) = 32
      · have q1 : ((s[i].toNat : Int) == 32) = true := int_eq h32
        clear h32 hb'
        go_wp2
        go_round
        case rel => exact ⟨i + 1, by omega, by go_num, HI'⟩
        case measure => simp [intOf]; omega
      · have q1 : ((s[i].toNat : Int) == 32) = false := int_ne h32
        have q2 : ((s[i].toNat : Int) == 9) = true := int_eq (by omega)
        clear h32 hb'
        go_wp2
        go_round
        case rel => exact ⟨i + 1, by omega, by go_num, HI'⟩
        case measure => simp [intOf]; omega
    · -- the field begins at i
      have HD : Hid (s.data.toList.dropWhile blk = s.data.toList.drop i) := by
        show _ = _
        rw [HI.out]
        by_cases hlt : i < s.size
        · rw [drop_at s i hlt, List.dropWhile_cons_of_neg (fun h => hb ⟨hlt, h⟩)]
        · obtain rfl : i = s.size := by omega
          rw [drop_all]
          rfl
      have HF' : Hid (F.data.toList = seg s i i ++ (s.data.toList.drop i).takeWhile nbk) := by
        show _ = _
        rw [HF.out, HD.out, seg_start]
        rfl
      have HR' : Hid (R.data.toList = (s.data.toList.drop i).dropWhile nbk) := by show _ = _; rw [HR.out, HD.out]
      have hex : ¬ i < s.size ∨ ∃ h : i < s.size, ((s[i].toNat : Int) == 32) = false ∧ ((s[i].toNat : Int) == 9) = false := by
        by_cases hlt : i < s.size
        · have hn : ¬ (s[i].toNat = 32 ∨ s[i].toNat = 9) := fun h => hb ⟨hlt, decide_eq_true h⟩
          exact .inr ⟨hlt, int_ne (by omega), int_ne (by omega)⟩
        · exact .inl hlt
      clear HI HF HR HD hb
      rcases hex with hlt | ⟨hlt, q1, q2⟩
      all_goals
        go_wp2
        go_loop [5] (fun x => ∃ j : Nat, i ≤ j ∧ j ≤ s.size ∧ x = .int .i64 j ∧ Hid (F.data.toList = seg s i j ++ (s.data.toList.drop j).takeWhile nbk) ∧ Hid (R.data.toList = (s.data.toList.drop j).dropWhile nbk)) (fun x => s.size - (intOf x).toNat)
        case atStart => exact ⟨i, by omega, by omega, rfl, HF', HR'⟩
        case round =>
          obtain ⟨j, hj1, hj2, rfl, HF, HR⟩ := hrel
          clear HF' HR'
          by_cases hb : ∃ h : j < s.size, blk s[j] = false
          · obtain ⟨hjt, hb⟩ := hb
            have hn : nbk s[j] = true := by unfold nbk; rw [hb]; rfl
            have HF2 : Hid (F.data.toList = seg s i (j + 1) ++ (s.data.toList.drop (j + 1)).takeWhile nbk) := by
              show _ = _
              rw [HF.out, drop_at s j hjt, List.takeWhile_cons_of_pos hn, seg_step s i j hj1 hjt, List.append_assoc]
              rfl
            have HR2 : Hid (R.data.toList = (s.data.toList.drop (j + 1)).dropWhile nbk) := by
              show _ = _
              rw [HR.out, drop_at s j hjt, List.dropWhile_cons_of_pos hn]
            have hn' := of_decide_eq_false hb
            have r1 : ((s[j].toNat : Int) != 32) = true := by rw [bne, int_ne (by omega)]; rfl
            have r2 : ((s[j].toNat : Int) != 9) = true := by rw [bne, int_ne (by omega)]; rfl
            clear HF HR hb hn hn'
            go_wp2
            all_goals
              go_round
              case rel => exact ⟨j + 1, by omega, by omega, by go_num, HF2, HR2⟩
              case measure => simp [intOf] <;> omega
          · have HF2 : Hid (F = s.extract i j) := by
              refine str_ext ?_
              rw [cut_seg s i j hj2, HF.out]
              by_cases hjt : j < s.size
              · have hn : ¬ nbk s[j] = true := by
                  unfold nbk
                  intro h
                  exact hb ⟨hjt, by simpa using h⟩
                rw [drop_at s j hjt, List.takeWhile_cons_of_neg hn, List.append_nil]
              · obtain rfl : j = s.size := by omega
                rw [drop_all]
                simp
            have HR2 : Hid (R = s.extract j s.size) := by
              refine str_ext ?_
              rw [cut_rest s j, HR.out]
              by_cases hjt : j < s.size
              · have hn : ¬ nbk s[j] = true := by
                  unfold nbk
                  intro h
                  exact hb ⟨hjt, by simpa using h⟩
                rw [drop_at s j hjt, List.dropWhile_cons_of_neg hn]
              · obtain rfl : j = s.size := by omega
                rw [drop_all]
                rfl
            have hex : ¬ j < s.size ∨ ∃ h : j < s.size, (((s[j].toNat : Int) != 32) = false) ∨ (((s[j].toNat : Int) != 32) = true ∧ ((s[j].toNat : Int) != 9) = false) := by
              by_cases hjt : j < s.size
              · have hn : blk s[j] = true := by
                  cases h : blk s[j] with
                  | true => rfl
                  | false => exact absurd ⟨hjt, h⟩ hb
                have hn' := of_decide_eq_true hn
                refine .inr ⟨hjt, ?_⟩
                by_cases h32 : (s[j].toNat : Int) = 32
                · exact .inl (by rw [bne, int_eq h32]; rfl)
                · exact .inr ⟨by rw [bne, int_ne h32]; rfl, by rw [bne, int_eq (by omega)]; rfl⟩
              · exact .inl hjt
            clear HF HR hb
            rcases hex with hjt | ⟨hjt, r1 | ⟨r1, r2⟩⟩
            all_goals
              go_wp2
              all_goals
                go_quiet (fail)
                go_wp2
                go_ret2
                exact ⟨by rw [HF2.out, HR2.out]; rfl, _, rfl⟩
end Go.Proofs.Ymbrby

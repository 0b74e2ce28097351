import Derived.Test.YmbrbwProgs
import Derived.Test.YmbrbwCDecW
namespace Go.Proofs.Ymbrbw
open Go.ChangeShapes Go.WideShapes Go.ChangeAt Go.RowKit
set_option linter.unusedVariables false
set_option linter.unusedSimpArgs false

set_option maxHeartbeats 4000000 in
theorem cline_any (op arg : Int) (hok : okI (op, arg)) (w : World) :
    Calls Ybwm.prog 26 #[.agg #[.int .u8 op, .int .i32 arg]] w fun e w' => e = .returned (.string ⟨(lineOf (op, arg)).toArray⟩) ∧ Below w.heap.size w w' := by
  obtain ⟨⟨o0, o1⟩, ⟨g0, g1⟩⟩ := hok
  dsimp only at o0 o1 g0 g1
  have hBA : ∀ o : Obj, Below w.heap.size w (w.alloc o) := fun o => (Below.refl _ _).alloc (Nat.le_refl _) _
  by_cases h07 : op = 0 ∨ op = 7
  · have hCF := fun w' => cdec_any arg g0 g1 w'
    obtain ⟨F, hF⟩ : ∃ F : ByteArray, F = ⟨(fmtI arg).toArray⟩ := ⟨_, rfl⟩
    rw [← hF] at hCF
    have hFz : F.size ≤ 11 := by
      have := fmtI_len arg g0 g1
      rw [hF]
      show (fmtI arg).toArray.size ≤ 11
      rw [List.size_toArray]
      exact this
    have HL : Hid (lineOf (op, arg) = (opName op).data.toList ++ (32 :: F.data.toList) ++ [10]) := by
      show _ = _
      unfold lineOf
      rw [if_pos h07, hF]
    clear hF
    rcases h07 with h | h
    · subst h
      have e : Hid ((⟨#[112, 117, 115, 104, 32]⟩ ++ F ++ ⟨#[10]⟩ : ByteArray) = ⟨(lineOf (0, arg)).toArray⟩) := str_ext (by rw [HL.out]; simp only [ByteArray.data_append, Array.toList_append]; rfl)
      go_enter Ybwm.func26, Ybwm.ntmps26
      go_wp2_with (go_at_call 34; refine (hCF _).mono ?_; rintro e w' ⟨rfl, hb⟩)
      go_ret
      exact ⟨ret_str e.out, (hBA _).trans (hb.mono (by simp))⟩
    · subst h
      have e : Hid ((⟨#[106, 110, 122, 32]⟩ ++ F ++ ⟨#[10]⟩ : ByteArray) = ⟨(lineOf (7, arg)).toArray⟩) := str_ext (by rw [HL.out]; simp only [ByteArray.data_append, Array.toList_append]; rfl)
      go_enter Ybwm.func26, Ybwm.ntmps26
      go_wp2_with (go_at_call 34; refine (hCF _).mono ?_; rintro e w' ⟨rfl, hb⟩)
      go_ret
      exact ⟨ret_str e.out, (hBA _).trans (hb.mono (by simp))⟩
  · have q0 : (op == 0) = false := int_ne (fun h => h07 (.inl h))
    have q7 : (op == 7) = false := int_ne (fun h => h07 (.inr h))
    by_cases ha : arg = 0
    · subst ha
      by_cases h8 : op < 8
      · have e : lineOf (op, 0) = (opName op).data.toList ++ [10] := by
          unfold lineOf
          rw [if_neg h07, if_pos ⟨h8, rfl⟩]
        rw [e]
        obtain h | h | h | h | h | h : op = 1 ∨ op = 2 ∨ op = 3 ∨ op = 4 ∨ op = 5 ∨ op = 6 := by omega
        all_goals
          subst h
          go_enter Ybwm.func26, Ybwm.ntmps26
          go_wp2
          go_ret
          exact ⟨rfl, hBA _⟩
      · have e : lineOf (op, 0) = [] := by
          unfold lineOf
          rw [if_neg h07, if_neg (fun h => h8 h.1)]
        rw [e]
        clear h07 e
        go_enter Ybwm.func26, Ybwm.ntmps26
        go_wp2
        go_ret
        exact ⟨rfl, hBA _⟩
    · have e : lineOf (op, arg) = [] := by
        unfold lineOf
        rw [if_neg h07, if_neg (fun h => ha h.2)]
      rw [e]
      have qa : (arg != 0) = true := by rw [bne, int_ne ha]; rfl
      clear h07 e ha
      go_enter Ybwm.func26, Ybwm.ntmps26
      go_wp2
      go_ret
      exact ⟨rfl, hBA _⟩
end Go.Proofs.Ymbrbw

import Derived.Test.YmbrbyParseLine
import Derived.Test.YmbrbyWellFormed
namespace Go.Proofs.Ymbrby
open Go.ChangeShapes Go.WideShapes Go.ChangeAt Go.RowKit
set_option linter.unusedVariables false
set_option linter.unusedSimpArgs false

/-! ### The plain law: a mnemonic and a digit; a mnemonic alone -/
theorem parseL_digit : ∀ o : Nat, o < 8 → ∀ k : Nat, k < 9 → parseL ((opName o).data.toList ++ [32] ++ [dg (k + 1)]) = if o = 0 ∨ o = 7 then ((o : Int), ((k + 1 : Nat) : Int), 1) else (0, 0, 2) := by decide +kernel
theorem parseL_bare : ∀ o : Nat, o < 8 → ¬ (o = 0 ∨ o = 7) → parseL (opName o).data.toList = ((o : Int), 0, 1) := by decide +kernel
theorem nine_cut : ∀ d, d < 9 → ((⟨#[49, 50, 51, 52, 53, 54, 55, 56, 57]⟩ : ByteArray).extract d (d + 1)).data.toList = [dg (d + 1)] := by decide
theorem cut_nine (k : Nat) (h1 : k < 9) (w : World) :
    (Instr.slice 9 (.string ⟨#[49, 50, 51, 52, 53, 54, 55, 56, 57]⟩) (some (.int .i64 (k : Int))) (some (.int .i64 ((k : Int) + 1))) none).run Ybym.prog w = .ok (.string ⟨#[dg (k + 1)]⟩) w := by
  rw [run_slice_string w 9 _ .i64 .i64 (k : Int) ((k : Int) + 1) Ybym.underlying9 (by omega) (by omega) (by show (k : Int) + 1 ≤ 9; omega)]
  rw [show ((k : Int) + 1).toNat = k + 1 from by omega, Int.toNat_natCast]
  rw [show (⟨#[49, 50, 51, 52, 53, 54, 55, 56, 57]⟩ : ByteArray).extract k (k + 1) = ⟨#[dg (k + 1)]⟩ from str_ext (nine_cut _ (by omega))]

set_option maxRecDepth 100000 in
set_option maxHeartbeats 4000000 in
theorem IParsed_walk (a0 a1 : Int) (w : World) (w0 : (Lit.int .u8 a0).wf = true) (w1 : (Lit.int .u8 a1).wf = true) :
    Calls Ybym.prog 3 #[.int .u8 a0, .int .u8 a1] w fun e w' => e = .returned (.bool true) ∧ Below w.heap.size w w' := by
  have b0 := bounds_u8 w0
  have b1 := bounds_u8 w1
  obtain ⟨o, ho⟩ : ∃ o : Nat, a0 % 8 = (o : Int) := ⟨(a0 % 8).toNat, by omega⟩
  obtain ⟨k, hk⟩ : ∃ k : Nat, a1 % 9 = (k : Int) := ⟨(a1 % 9).toNat, by omega⟩
  have ho8 : o < 8 := by omega
  have hk9 : k < 9 := by omega
  have hcut := fun W => cut_nine k hk9 W
  have hsz : (opName (o : Int)).size ≤ 4 := opName_size _
  have d8 : decide ((o : Int) < 8) = true := decide_eq_true (by omega)
  have hL1 := fun w' => parseLine_any (opName o ++ ⟨#[32]⟩ ++ ⟨#[dg (k + 1)]⟩) w' (by unfold maxLen; simp only [ByteArray.size_append]; have h1 : (⟨#[32]⟩ : ByteArray).size = 1 := rfl; have h2 : (⟨#[dg (k + 1)]⟩ : ByteArray).size = 1 := rfl; omega)
  rw [show (opName o ++ ⟨#[32]⟩ ++ ⟨#[dg (k + 1)]⟩).data.toList = (opName o).data.toList ++ [32] ++ [dg (k + 1)] from by simp only [ByteArray.data_append, Array.toList_append], parseL_digit o ho8 k hk9] at hL1
  have hL2 := fun w' => parseLine_any (opName o) w' (by unfold maxLen; omega)
  by_cases h07 : o = 0 ∨ o = 7
  · rw [if_pos h07] at hL1
    have hw : wfI (o : Int) ((k : Int) + 1) = true := decide_eq_true (by omega)
    have HN : Hid (((k + 1 : Nat) : Int) = (k : Int) + 1) := by show _ = _; omega
    simp only [HN.out] at hL1
    clear hL2 h07
    go_enter Ybym.func3, Ybym.ntmps3
    go_wp2_with fail
    refine (opName_any _ (by omega) _).mono ?_
    rintro e w ⟨rfl, rfl⟩
    go_wp2_with fail
    refine (hL1 _).mono ?_
    rintro e w3 ⟨rfl, hb⟩
    obtain ⟨hc, hf⟩ := bcell hb
    have hz := hb.size
    simp at hz
    have hz' : w.heap.size < w3.heap.size := by omega
    have hz2 : ¬ w.heap.size = w3.heap.size := by omega
    have hbel := ((Below.refl w.heap.size w).alloc (Nat.le_refl _) (.cells #[.int .u8 (o : Int), .int .i32 ((k : Int) + 1)] 25)).trans (hb.mono (by simp))
    go_wp2_with fail
    refine (wellFormed_any _ _ (by omega) _).mono ?_
    rintro e w4 ⟨rfl, rfl⟩
    go_wp2_with fail
    go_ret
    exact ⟨rfl, by repeat (first | exact hbel | (refine Below.alloc ?_ (by first | omega | (simp; done) | (simp; omega)) _) | (refine Below.setCell ?_ (by first | omega | (simp; done) | (simp; omega)) _))⟩
  · rw [if_neg h07] at hL1
    rw [parseL_bare o ho8 h07] at hL2
    have hw : wfI (o : Int) ((k : Int) + 1) = false := decide_eq_false (by omega)
    have hw2 : wfI (o : Int) 0 = true := decide_eq_true (by omega)
    clear h07
    go_enter Ybym.func3, Ybym.ntmps3
    go_wp2_with fail
    refine (opName_any _ (by omega) _).mono ?_
    rintro e w ⟨rfl, rfl⟩
    go_wp2_with fail
    refine (hL1 _).mono ?_
    rintro e w3 ⟨rfl, hb⟩
    obtain ⟨hc, hf⟩ := bcell hb
    have hz := hb.size
    simp at hz
    have hz' : w.heap.size < w3.heap.size := by omega
    have hz2 : ¬ w.heap.size = w3.heap.size := by omega
    have hbel := ((Below.refl w.heap.size w).alloc (Nat.le_refl _) (.cells #[.int .u8 (o : Int), .int .i32 ((k : Int) + 1)] 25)).trans (hb.mono (by simp))
    go_wp2_with fail
    refine (wellFormed_any _ _ (by omega) _).mono ?_
    rintro e w4 ⟨rfl, rfl⟩
    go_wp2_with fail
    refine (hL2 _).mono ?_
    rintro e w5 ⟨rfl, hb5⟩
    have hz5 := hb5.size
    simp at hz5
    have hbel5 : Below w.heap.size w w5 := by
      refine Below.trans ?_ (hb5.mono (by simp; omega))
      repeat (first | exact hbel | (refine Below.alloc ?_ (by first | omega | (simp; done) | (simp; omega)) _) | (refine Below.setCell ?_ (by first | omega | (simp; done) | (simp; omega)) _))
    clear hb5 hb hc hf hbel
    go_wp2_with fail
    refine (wellFormed_any _ _ (by omega) _).mono ?_
    rintro e w6 ⟨rfl, rfl⟩
    go_wp2_with fail
    go_ret
    exact ⟨rfl, by repeat (first | exact hbel5 | (refine Below.alloc ?_ (by first | omega | (simp; done) | (simp; omega)) _) | (refine Below.setCell ?_ (by first | omega | (simp; done) | (simp; omega)) _))⟩
end Go.Proofs.Ymbrby

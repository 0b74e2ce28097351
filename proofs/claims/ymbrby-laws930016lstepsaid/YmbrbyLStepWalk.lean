import Derived.Test.YmbrbyLStepA
import Derived.Test.YmbrbyLStepB
import Derived.Test.YmbrbyLStepC
import Derived.Test.YmbrbyLStepD
namespace Go.Proofs.Ymbrby
open Go.ChangeShapes Go.WideShapes Go.ChangeAt Go.RowKit
set_option linter.unusedVariables false
set_option linter.unusedSimpArgs false

theorem LStep_walk (op : Int) (a1 : Option Addr) (n cap : Nat) (w : World) (w0 : (Lit.int .u8 op).wf = true) (w1 : BoolsAt w a1 n) :
    Calls Ybym.prog 11 #[.int .u8 op, .slice a1 n cap] w fun e w' => e = .returned (.bool true) ∧ Below w.heap.size w w' := by
  have h0 := bounds_u8 w0
  obtain ⟨hm, hv⟩ := w1
  unfold maxLen at hm
  by_cases hl : (1024 : Int) < (n : Int)
  · clear hv
    go_enter Ybym.func11, Ybym.ntmps11
    go_wp2
    go_ret
    exact ⟨rfl, Below.refl _ _⟩
  have hn : n ≤ 1024 := by omega
  obtain ⟨B, hV⟩ : ∃ B, VB w a1 n B := by
    rcases hv with h | ⟨b, off, h1, h2, B, h3⟩
    · exact ⟨fun _ => false, .inl h⟩
    · exact ⟨B, .inr ⟨b, off, h1, h2, h3⟩⟩
  have hr := bits_rng B n
  have hbl := bits_len B n
  by_cases h8 : op < 8
  · by_cases hu : (n : Int) < effPops op
    · have hc := eff_cases op h0.1
      refine LStep_low op B a1 n (effPops op) (effPush op) cap w h0 hn hV h8 (by omega) (by omega) hu (fun W => ?_) (lout_under op _ n hbl hn ⟨h0.1, h8⟩ hu)
      have := effect_any op h0.1 W
      rwa [show decide (op < 8) = true from decide_eq_true h8] at this
    obtain h | h | h | h | h | h | h | h : op = 0 ∨ op = 1 ∨ op = 2 ∨ op = 3 ∨ op = 4 ∨ op = 5 ∨ op = 6 ∨ op = 7 := by omega
    · subst h
      obtain ⟨pc', st', hL⟩ := lout_push (bits B n) n hbl.symm (by omega) hr
      exact LStep_c01 0 B a1 n pc' st' cap w h0 hn hV (by omega) (fun W => effect_any 0 (by decide) W) hL
    · subst h
      have hu' : ¬ (n : Int) < 1 := hu
      obtain ⟨kn, rfl⟩ : ∃ kn, n = kn + 1 := ⟨n - 1, by omega⟩
      obtain ⟨pc', st', hL⟩ := lout_pop (bits B (kn + 1)) kn hbl.symm (by omega) hr
      exact LStep_c10 1 B a1 kn pc' st' cap w h0 hn hV (by omega) (fun W => effect_any 1 (by decide) W) hL
    · subst h
      have hu' : ¬ (n : Int) < 1 := hu
      obtain ⟨kn, rfl⟩ : ∃ kn, n = kn + 1 := ⟨n - 1, by omega⟩
      obtain ⟨pc', st', hL⟩ := lout_dup (bits B (kn + 1)) kn hbl.symm (by omega) hr
      exact LStep_c12 2 B a1 kn pc' st' cap w h0 hn hV (by omega) (fun W => effect_any 2 (by decide) W) hL
    · subst h
      have hu' : ¬ (n : Int) < 2 := hu
      obtain ⟨kn, rfl⟩ : ∃ kn, n = kn + 2 := ⟨n - 2, by omega⟩
      obtain ⟨pc', st', hL⟩ := lout_swap (bits B (kn + 2)) kn hbl.symm (by omega) hr
      exact LStep_c22 3 B a1 kn pc' st' cap w h0 hn hV (by omega) (fun W => effect_any 3 (by decide) W) hL
    · subst h
      have hu' : ¬ (n : Int) < 2 := hu
      obtain ⟨kn, rfl⟩ : ∃ kn, n = kn + 2 := ⟨n - 2, by omega⟩
      obtain ⟨pc', st', hL⟩ := lout_add (bits B (kn + 2)) kn hbl.symm (by omega) hr
      exact LStep_c21 4 B a1 kn pc' st' cap w h0 hn hV (by omega) (fun W => effect_any 4 (by decide) W) hL
    · subst h
      have hu' : ¬ (n : Int) < 2 := hu
      obtain ⟨kn, rfl⟩ : ∃ kn, n = kn + 2 := ⟨n - 2, by omega⟩
      obtain ⟨pc', st', hL⟩ := lout_sub (bits B (kn + 2)) kn hbl.symm (by omega) hr
      exact LStep_c21 5 B a1 kn pc' st' cap w h0 hn hV (by omega) (fun W => effect_any 5 (by decide) W) hL
    · subst h
      have hu' : ¬ (n : Int) < 2 := hu
      obtain ⟨kn, rfl⟩ : ∃ kn, n = kn + 2 := ⟨n - 2, by omega⟩
      obtain ⟨pc', st', hL⟩ := lout_mul (bits B (kn + 2)) kn hbl.symm (by omega) hr
      exact LStep_c21 6 B a1 kn pc' st' cap w h0 hn hV (by omega) (fun W => effect_any 6 (by decide) W) hL
    · subst h
      have hu' : ¬ (n : Int) < 1 := hu
      obtain ⟨kn, rfl⟩ : ∃ kn, n = kn + 1 := ⟨n - 1, by omega⟩
      obtain ⟨pc', st', hL⟩ := lout_jnz (bits B (kn + 1)) kn hbl.symm (by omega) hr
      exact LStep_c10 7 B a1 kn pc' st' cap w h0 hn hV (by omega) (fun W => effect_any 7 (by decide) W) hL
  · have hc := eff_cases op h0.1
    refine LStep_bad op B a1 n cap w h0 hn hV h8 (fun W => ?_) (lout_badop op _ n hbl (by omega))
    have := effect_any op h0.1 W
    rw [show decide (op < 8) = false from decide_eq_false h8, show effPops op = 0 from by omega, show effPush op = 0 from by omega] at this
    exact this
end Go.Proofs.Ymbrby

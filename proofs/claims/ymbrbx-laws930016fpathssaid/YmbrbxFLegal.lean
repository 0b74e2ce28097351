import Derived.Test.YmbrbxInts
import Derived.WalkSmall
import Derived.BigQuiet
import Derived.Deep.QuietTactic
namespace Go.Proofs.Ymbrbx
open Go.ChangeShapes Go.WideShapes Go.ChangeAt Go.RowKit
set_option linter.unusedVariables false
set_option linter.unusedSimpArgs false

/-! ### The heights in memory -/
def HtIn (w : World) (g : Nat) (P : List (Int × Int)) : Prop := g < w.heap.size ∧ ∀ j, j ≤ P.length → w.cell? ⟨g, j, none⟩ = some (.int .i64 (hgt P j))
theorem HtIn.below {w w' : World} {g : Nat} {P : List (Int × Int)} (h : HtIn w g P) (hb : Below w.heap.size w w') : HtIn w' g P :=
  ⟨Nat.lt_of_lt_of_le h.1 hb.size, fun j hj => by rw [hb.cell (p := ⟨g, j, none⟩) h.1]; exact h.2 j hj⟩
theorem OwnI.heights {base g n : Nat} {w : World} {L : List Int} {P : List (Int × Int)} (h : OwnI base w (.slice (some ⟨g, 0, none⟩) (n + 1) (n + 1)) L) (hn : n = P.length) (hh : Hts P L) : HtIn w g P :=
  ⟨h.block.2, fun j hj => h.at (by rw [hh.1, hn]) j _ (hh.2 j hj)⟩
def legI (P : List (Int × Int)) (i : Nat) (op arg : Int) : Bool :=
  decide (op < 8 ∧ effPops op ≤ hgt P i ∧ (op = 0 ∨ (op = 7 ∧ 0 ≤ arg ∧ arg ≤ P.length ∧ hgt P arg.toNat = hgt P (i + 1)) ∨ (op ≠ 0 ∧ op ≠ 7 ∧ arg = 0)))

set_option maxRecDepth 100000 in
set_option maxHeartbeats 16000000 in
theorem flegal_any (P : List (Int × Int)) (n : Nat) (a : Option Addr) (cap g i : Nat) (w : World) (HN : Hid (n = P.length)) (hn : n ≤ 1024) (hi : i < n) (hiP : i < P.length) (HOK : Hid (∀ q ∈ P, okI q)) (HP : Hid (ProgIn w a P)) (HT : Hid (HtIn w g P)) :
    Calls Ybxm.prog 20 #[.slice a n cap, .slice (some ⟨g, 0, none⟩) (n + 1) (n + 1), .int .i64 i] w fun e w' => e = .returned (.bool (legI P i P[i].1 P[i].2)) ∧ Below w.heap.size w w' := by
  rcases HP.out with h0 | ⟨b, off, rfl, hb, hc⟩
  · omega
  obtain ⟨c0, c1⟩ := hc i hiP
  have hokk := HOK.out P[i] (List.getElem_mem hiP)
  obtain ⟨op, hop⟩ : ∃ op, op = P[i].1 := ⟨_, rfl⟩
  obtain ⟨arg, harg⟩ : ∃ arg, arg = P[i].2 := ⟨_, rfl⟩
  unfold okI at hokk
  rw [← hop] at c0 hokk ⊢
  rw [← harg] at c1 hokk ⊢
  clear hc hop harg
  obtain ⟨⟨o0, o1⟩, ⟨g0, g1⟩⟩ := hokk
  have hbn : ¬ b = w.heap.size := by omega
  have hgl : g < w.heap.size := HT.out.1
  have hgn : ¬ g = w.heap.size := by omega
  have t0 := HT.out.2 i (by omega)
  have t1 := HT.out.2 (i + 1) (by omega)
  have hFN := fun W => fneed_any op o0 W
  have hib : (i : Int) < (n : Int) + 1 := by omega
  have hib2 : (i : Int) + 1 < (n : Int) + 1 := by omega
  have hb1 := hgt_bounds P HOK.out i (by omega)
  have hb2 := hgt_bounds P HOK.out (i + 1) (by omega)
  have hbe : Below w.heap.size w (w.alloc (.cells #[.int .u8 op, .int .i32 arg] 38)) := (Below.refl _ _).alloc (Nat.le_refl _) _
  by_cases h7 : (7 : Int) < op
  · rw [show legI P i op arg = false from decide_eq_false (by omega)]
    have hd : decide ((7 : Int) < op) = true := decide_eq_true h7
    go_enter Ybxm.func20, Ybxm.ntmps20
    go_wp2_with fail
    go_quiet (fail)
    go_wp2_with fail
    go_ret
    exact ⟨rfl, below_drewN hbe _⟩
  have hd : decide ((7 : Int) < op) = false := decide_eq_false h7
  obtain ⟨H0, hH0⟩ : ∃ H, H = hgt P i := ⟨_, rfl⟩
  obtain ⟨H1, hH1⟩ : ∃ H, H = hgt P (i + 1) := ⟨_, rfl⟩
  obtain ⟨nd, hnd⟩ : ∃ nd, nd = effPops op := ⟨_, rfl⟩
  rw [← hH0] at t0 hb1
  rw [← hH1] at t1 hb2
  rw [← hnd] at hFN
  by_cases hlow : H0 < nd
  · rw [show legI P i op arg = false from decide_eq_false (by omega)]
    clear hH0 hH1 hnd
    go_enter Ybxm.func20, Ybxm.ntmps20
    go_wp2_with fail
    go_quiet ((go_at_call 22; exact Calls.quiet_of_same (hFN _)))
    go_wp2_with fail
    go_ret
    exact ⟨rfl, below_drewN hbe _⟩
  by_cases z0 : op = 0
  · rw [show legI P i op arg = true from decide_eq_true (by omega)]
    clear hH0 hH1 hnd
    subst z0
    go_enter Ybxm.func20, Ybxm.ntmps20
    go_wp2_with fail
    go_quiet ((go_at_call 22; exact Calls.quiet_of_same (hFN _)))
    go_wp2_with fail
    go_ret
    exact ⟨rfl, below_drewN hbe _⟩
  have n0 : (op == 0) = false := int_ne z0
  by_cases z7 : op = 7
  · by_cases ha : arg < 0
    · rw [show legI P i op arg = false from decide_eq_false (by omega)]
      have hda : decide ((0 : Int) ≤ arg) = false := decide_eq_false (by omega)
      clear hH0 hH1 hnd n0
      subst z7
      go_enter Ybxm.func20, Ybxm.ntmps20
      go_wp2_with fail
      go_quiet ((go_at_call 22; exact Calls.quiet_of_same (hFN _)))
      go_wp2_with fail
      go_quiet (fail)
      go_wp2_with fail
      go_ret
      exact ⟨rfl, below_drewN (below_drewN hbe _) _⟩
    have hda : decide ((0 : Int) ≤ arg) = true := decide_eq_true (by omega)
    by_cases hN : (n : Int) < arg
    · rw [show legI P i op arg = false from decide_eq_false (by have := HN.out; omega)]
      have hdn : decide (arg ≤ (n : Int)) = false := decide_eq_false (by omega)
      clear hH0 hH1 hnd n0
      subst z7
      go_enter Ybxm.func20, Ybxm.ntmps20
      go_wp2_with fail
      go_quiet ((go_at_call 22; exact Calls.quiet_of_same (hFN _)))
      go_wp2_with fail
      go_quiet (fail)
      go_wp2_with fail
      go_ret
      exact ⟨rfl, below_drewN (below_drewN hbe _) _⟩
    have hdn : decide (arg ≤ (n : Int)) = true := decide_eq_true (by omega)
    obtain ⟨t, rfl⟩ : ∃ t : Nat, arg = (t : Int) := ⟨arg.toNat, by omega⟩
    have t2 := HT.out.2 t (by have := HN.out; omega)
    have htb : (t : Int) < (n : Int) + 1 := by omega
    have htn : t ≤ n := by omega
    have htn2 : decide (t ≤ n) = true := decide_eq_true htn
    have htn3 : (t : Int) ≤ (n : Int) := by omega
    have hleg : legI P i op (t : Int) = decide (hgt P t = H1) := by
      unfold legI
      rw [Int.toNat_natCast, ← hH1]
      have := HN.out
      by_cases hq : hgt P t = H1
      · rw [decide_eq_true hq]; exact decide_eq_true (by omega)
      · rw [decide_eq_false hq]; exact decide_eq_false (by omega)
    rw [hleg]
    obtain ⟨H2, hH2⟩ : ∃ H, H = hgt P t := ⟨_, rfl⟩
    rw [← hH2] at t2 ⊢
    clear hH0 hH1 hnd n0 hleg hH2 ha hN
    subst z7
    go_enter Ybxm.func20, Ybxm.ntmps20
    go_wp2_with fail
    go_quiet ((go_at_call 22; exact Calls.quiet_of_same (hFN _)))
    go_wp2_with fail
    go_quiet (fail)
    go_wp2_with fail
    go_ret
    refine ⟨?_, below_drewN (below_drewN hbe _) _⟩
    rfl
  · have n7 : (op == 7) = false := int_ne z7
    have hleg : legI P i op arg = decide (arg = 0) := by
      unfold legI
      by_cases hq : arg = 0
      · rw [decide_eq_true hq]; exact decide_eq_true (by omega)
      · rw [decide_eq_false hq]; exact decide_eq_false (by omega)
    rw [hleg]
    clear hH0 hH1 hnd hleg z0 z7
    go_enter Ybxm.func20, Ybxm.ntmps20
    go_wp2_with fail
    go_quiet ((go_at_call 22; exact Calls.quiet_of_same (hFN _)))
    go_wp2_with fail
    go_ret
    refine ⟨?_, below_drewN hbe _⟩
    rfl
end Go.Proofs.Ymbrbx

import Derived.Test.YmbrbyMach
namespace Go.Proofs.Ymbrby
open Go.ChangeShapes Go.WideShapes Go.ChangeAt Go.RowKit
set_option linter.unusedVariables false
set_option linter.unusedSimpArgs false

/-! ### The ends of a step that leave the machine as it was -/
set_option maxRecDepth 100000 in
set_option maxHeartbeats 32000000 in
theorem step_halted (a : Option Addr) (n cap : Nat) (base g : Nat) (v : Value) (st : List Int) (w : World) (hn : n ≤ 1000000) (HM : Hid (MB w g n v)) (HO : Hid (OwnT base w v st)) :
    Calls Ybym.prog 24 #[.pointer (some ⟨g, 0, none⟩), .slice a n cap] w (Did base g w v 1 n st) := by
  have m0 := HM.out.c0
  go_enter Ybym.func24, Ybym.ntmps24
  go_wp2_with fail
  go_ret
  exact ⟨rfl, Sel.refl _ _ _, _, HM.out, HO.out⟩
set_option maxRecDepth 100000 in
set_option maxHeartbeats 32000000 in
theorem step_badpc (a : Option Addr) (n cap : Nat) (pc : Int) (base g : Nat) (v : Value) (st : List Int) (w : World) (hn : n ≤ 1000000) (hpc : pc < 0 ∨ (n : Int) < pc) (HM : Hid (MB w g pc v)) (HO : Hid (OwnT base w v st)) :
    Calls Ybym.prog 24 #[.pointer (some ⟨g, 0, none⟩), .slice a n cap] w (Did base g w v 4 pc st) := by
  have m0 := HM.out.c0
  have hne : ¬ pc = (n : Int) := by omega
  have hne2 : (pc == (n : Int)) = false := int_ne hne
  rcases hpc with h | h
  · have d1 : decide (pc < 0) = true := decide_eq_true h
    go_enter Ybym.func24, Ybym.ntmps24
    go_wp2_with fail
    go_ret
    exact ⟨rfl, Sel.refl _ _ _, _, HM.out, HO.out⟩
  · have h0 : ¬ pc < 0 := by omega
    have d1 : decide (pc < 0) = false := decide_eq_false h0
    have d2 : decide ((n : Int) < pc) = true := decide_eq_true h
    go_enter Ybym.func24, Ybym.ntmps24
    go_wp2_with fail
    go_ret
    exact ⟨rfl, Sel.refl _ _ _, _, HM.out, HO.out⟩
set_option maxRecDepth 100000 in
set_option maxHeartbeats 32000000 in
theorem step_badop (b off k n cap : Nat) (op arg : Int) (base g : Nat) (v : Value) (st : List Int) (w : World) (hk : k < n) (hn : n ≤ 1000000) (k0 : w.cell? ⟨b, off + k * 2, none⟩ = some (.int .u8 op)) (k1 : w.cell? ⟨b, off + k * 2 + 1, none⟩ = some (.int .i32 arg)) (hb : b < w.heap.size)
    (ho : 8 ≤ op) (HM : Hid (MB w g k v)) (HO : Hid (OwnT base w v st)) :
    Calls Ybym.prog 24 #[.pointer (some ⟨g, 0, none⟩), .slice (some ⟨b, off, none⟩) n cap] w (Did base g w v 3 k st) := by
  have m0 := HM.out.c0
  have hbn : ¬ b = w.heap.size := by omega
  have hkn : ¬ (k : Int) = (n : Int) := by omega
  have hkn2 : ((k : Int) == (n : Int)) = false := int_ne hkn
  have hEF : ∀ W, Calls Ybym.prog 23 #[.int .u8 op] W fun e w' => e = .returned (.tuple #[.int .i64 (effPops op), .int .i64 (effPush op), .bool false]) ∧ w' = W := by
    intro W
    have := effect_any op (by omega) W
    rwa [show decide (op < 8) = false from decide_eq_false (by omega)] at this
  go_enter Ybym.func24, Ybym.ntmps24
  go_wp2_with fail
  refine (hEF _).mono ?_
  rintro e wq ⟨rfl, rfl⟩
  go_wp2_with fail
  go_ret
  exact ⟨rfl, (Sel.refl _ _ _).alloc _, _, HM.out.alloc _, HO.out.alloc _⟩
set_option maxRecDepth 100000 in
set_option maxHeartbeats 32000000 in
theorem step_under (b off k n cap : Nat) (op arg : Int) (base g : Nat) (v : Value) (st : List Int) (w : World) (hk : k < n) (hn : n ≤ 1000000) (k0 : w.cell? ⟨b, off + k * 2, none⟩ = some (.int .u8 op)) (k1 : w.cell? ⟨b, off + k * 2 + 1, none⟩ = some (.int .i32 arg)) (hb : b < w.heap.size)
    (ho : 0 ≤ op ∧ op < 8) (hu : (st.length : Int) < effPops op) (hst : st.length ≤ 100000) (HM : Hid (MB w g k v)) (HO : Hid (OwnT base w v st)) :
    Calls Ybym.prog 24 #[.pointer (some ⟨g, 0, none⟩), .slice (some ⟨b, off, none⟩) n cap] w (Did base g w v 2 k st) := by
  obtain ⟨sa, sc, rfl⟩ := HO.out.form
  have m0 := HM.out.c0
  have m1 := HM.out.c1
  have hgl := HM.out.lt
  have hgn : ¬ g = w.heap.size := by omega
  have hbn : ¬ b = w.heap.size := by omega
  have hkn : ¬ (k : Int) = (n : Int) := by omega
  have hkn2 : ((k : Int) == (n : Int)) = false := int_ne hkn
  have hEF : ∀ W, Calls Ybym.prog 23 #[.int .u8 op] W fun e w' => e = .returned (.tuple #[.int .i64 (effPops op), .int .i64 (effPush op), .bool true]) ∧ w' = W := by
    intro W
    have := effect_any op (by omega) W
    rwa [show decide (op < 8) = true from decide_eq_true (by omega)] at this
  obtain ⟨p, hp⟩ : ∃ p, effPops op = p := ⟨_, rfl⟩
  rw [hp] at hu hEF
  have hpb : p ≤ 2 := by have := eff_cases op (by omega); omega
  obtain ⟨m, hm⟩ : ∃ m, st.length = m := ⟨_, rfl⟩
  rw [hm] at HM HO m1 hst hu ⊢
  clear hm hp
  go_enter Ybym.func24, Ybym.ntmps24
  go_wp2_with fail
  refine (hEF _).mono ?_
  rintro e wq ⟨rfl, rfl⟩
  go_wp2_with fail
  go_ret
  exact ⟨rfl, (Sel.refl _ _ _).alloc _, _, HM.out.alloc _, HO.out.alloc _⟩
end Go.Proofs.Ymbrby

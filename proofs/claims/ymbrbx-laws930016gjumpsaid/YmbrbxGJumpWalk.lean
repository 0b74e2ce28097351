import Derived.Test.YmbrbxGState
import Derived.Test.YmbrbxGHeld
namespace Go.Proofs.Ymbrbx
open Go.ChangeShapes Go.WideShapes Go.ChangeAt Go.RowKit
set_option linter.unusedVariables false
set_option linter.unusedSimpArgs false

set_option maxRecDepth 100000 in
set_option maxHeartbeats 16000000 in
theorem GJump_core (S : List Int) (a : Option Addr) (n cap : Nat) (x t : Int) (w : World) (hn : n ≤ 1024) (HN : Hid (n = S.length)) (HS : Hid (I32In w a S)) (HR : Hid (∀ x ∈ S, -2147483648 ≤ x ∧ x ≤ 2147483647)) (hx : -2147483648 ≤ x ∧ x ≤ 2147483647) (ht : -2147483648 ≤ t ∧ t ≤ 2147483647) :
    Calls Ybxm.prog 9 #[.slice a n cap, .int .i32 x, .int .i32 t] w fun e w' => e = .returned (.bool true) ∧ Below w.heap.size w w' := by
  have hl : ¬ ((1024 : Int) < (n : Int)) := by omega
  have hbelA : Below w.heap.size w (w.alloc (.cells #[.int .u8 0, .int .i32 x, .int .u8 7, .int .i32 t] 38)) := (Below.refl _ _).alloc (Nat.le_refl _) _
  have HPA : Hid (OwnP w.heap.size (w.alloc (.cells #[.int .u8 0, .int .i32 x, .int .u8 7, .int .i32 t] 38)) (.slice (some ⟨w.heap.size, 0, none⟩) 2 2) [(0, x), (7, t)]) :=
    World.ownsRow_lit w #[.int .u8 0, .int .i32 x, .int .u8 7, .int .i32 t] 2 (Nat.le_refl _) (by unfold maxLen; omega) rfl
  go_enter Ybxm.func9, Ybxm.ntmps9
  go_wp2_with fail
  generalize hW1 : w.alloc (.cells #[.int .u8 0, .int .i32 x, .int .u8 7, .int .i32 t] 38) = W1 at *
  have hs1 := hbelA.size
  refine (gcopy_any S n a cap W1 HN hn (HS.out.below hbelA (Nat.le_refl _)) HR).mono ?_
  rintro e w2 ⟨rfl, hO2, hb2⟩
  have hG0 : GS none w w.heap.size w.heap.size 2 [(0, x), (7, t)] w2.heap.size (w2.alloc (.cells #[.int .i64 0, .slice (some ⟨W1.heap.size, 0, none⟩) n n] 49)) 0 S :=
    ⟨(hbelA.trans (hb2.mono hs1)).alloc (Nat.le_trans hs1 hb2.size) _, alloc_le (Nat.le_trans hs1 hb2.size) _, Nat.le_trans hs1 hb2.size, (HPA.out.kept hb2).alloc _, rfl, ⟨_, MB.new w2 0 _, (hO2.lower hs1).alloc _⟩, fun _ _ _ h => by cases h⟩
  clear hW1 hO2 hb2 HPA hbelA hs1
  go_wp2_with fail
  generalize hW3 : w2.alloc (.cells #[.int .i64 0, .slice (some ⟨W1.heap.size, 0, none⟩) n n] 49) = W3 at *
  generalize hg : w2.heap.size = g at *
  clear hW3 hg
  have hS1 : GStep none w w.heap.size w.heap.size 2 [(0, x), (7, t)] g W3 0 1 (S ++ [x]) := hG0.push (k := 0) (by omega) rfl (by have := HN.out; omega)
  refine hS1.mono ?_
  rintro e w4 ⟨rfl, hG1⟩
  obtain ⟨v1, hM1, hO1⟩ := hG1.mach
  have m0 := hM1.c0
  clear hS1 hG0 hM1 hO1
  go_wp2_with fail
  by_cases hz : x = 0
  · subst hz
    have hS2 : GStep none w w.heap.size w.heap.size 2 [(0, 0), (7, t)] g w4 0 2 S := hG1.jnz0 (k := 1) (by omega) rfl (by have := HN.out; omega) (by omega) rfl
    refine hS2.mono ?_
    rintro e w5 ⟨rfl, hG2⟩
    have hA := hG2.withArr 0 0
    clear hS2 hG1 m0
    obtain ⟨v2, hM2, hO2⟩ := hG2.mach
    obtain ⟨sa2, sc2, rfl⟩ := hO2.form2 HN.out
    have hg2 := hM2.lt
    have hgn2 : ¬ g = w5.heap.size := by omega
    have p2 := hM2.c0
    have r2 := hM2.c1
    have HT2 : Hid (I32In (w5.alloc (.cells #[.int .i32 0, .int .i32 0] 44)) sa2 S) := (hO2.alloc _).read HN.out.symm
    have HI2 : Hid (I32In (w5.alloc (.cells #[.int .i32 0, .int .i32 0] 44)) a S) := HS.out.below hA.bel (Nat.le_refl _)
    clear hM2 hO2 hG2
    go_wp2_with fail
    refine (gheld_any S S 0 0 sa2 a n sc2 n cap n 0 _ HN HN hn (Nat.le_refl _) (by omega) rfl (fun j _ => rfl) (fun j hj => by omega) HT2 HI2).mono ?_
    rintro e wh2 ⟨rfl, hbh2⟩
    have hG3 := hA.kept hbh2
    have hbel3 := hG3.bel
    clear hbh2 hA HT2 HI2
    obtain ⟨d0, d1, dq⟩ := hG3.cells
    have hS4 : GStep _ w w.heap.size w.heap.size 2 _ g wh2 1 2 S := hG3.halted (by omega)
    go_wp2_with fail
    refine hS4.mono ?_
    rintro e w6 ⟨rfl, hG4⟩
    obtain ⟨b0, b1, bq⟩ := hG4.cells
    obtain ⟨v4, hM4, hO4⟩ := hG4.mach
    obtain ⟨sa4, sc4, rfl⟩ := hO4.form2 HN.out
    have hg4 := hM4.lt
    have hgn4 : ¬ g = w6.heap.size := by omega
    have p4 := hM4.c0
    have r4 := hM4.c1
    have HT4 : Hid (I32In w6 sa4 S) := hO4.read HN.out.symm
    have HI4 : Hid (I32In w6 a S) := HS.out.below hG4.bel (Nat.le_refl _)
    have hbel4 := hG4.bel
    clear hS4 hG3 hM4 hO4 hG4
    go_wp2_with fail
    refine (gheld_any S S 0 0 sa4 a n sc4 n cap n 0 _ HN HN hn (Nat.le_refl _) (by omega) rfl (fun j _ => rfl) (fun j hj => by omega) HT4 HI4).mono ?_
    rintro e wh4 ⟨rfl, hbh4⟩
    go_wp2_with fail
    go_ret
    exact ⟨rfl, hbel4.trans (hbh4.mono (by have := hbel4.size; omega))⟩
  have qz : (x == 0) = false := int_ne hz
  have hS2 : GStep none w w.heap.size w.heap.size 2 [(0, x), (7, t)] g w4 0 t S := hG1.jnz1 (k := 1) (by omega) rfl (by have := HN.out; omega) hx hz ht
  by_cases h0 : t = 0
  · subst h0
    refine hS2.mono ?_
    rintro e w5 ⟨rfl, hG2⟩
    have hA := hG2.withArr 0 0
    clear hS2 hG1 m0
    obtain ⟨v2, hM2, hO2⟩ := hG2.mach
    obtain ⟨sa2, sc2, rfl⟩ := hO2.form2 HN.out
    have hg2 := hM2.lt
    have hgn2 : ¬ g = w5.heap.size := by omega
    have p2 := hM2.c0
    have r2 := hM2.c1
    have HT2 : Hid (I32In (w5.alloc (.cells #[.int .i32 0, .int .i32 0] 44)) sa2 S) := (hO2.alloc _).read HN.out.symm
    have HI2 : Hid (I32In (w5.alloc (.cells #[.int .i32 0, .int .i32 0] 44)) a S) := HS.out.below hA.bel (Nat.le_refl _)
    clear hM2 hO2 hG2
    go_wp2_with fail
    refine (gheld_any S S 0 0 sa2 a n sc2 n cap n 0 _ HN HN hn (Nat.le_refl _) (by omega) rfl (fun j _ => rfl) (fun j hj => by omega) HT2 HI2).mono ?_
    rintro e wh2 ⟨rfl, hbh2⟩
    have hG3 := hA.kept hbh2
    have hbel3 := hG3.bel
    clear hbh2 hA HT2 HI2
    go_wp2_with fail
    go_ret
    exact ⟨rfl, hbel3⟩
  have q0 : (t == 0) = false := int_ne h0
  by_cases h1 : t = 1
  · subst h1
    clear h0 q0
    refine hS2.mono ?_
    rintro e w5 ⟨rfl, hG2⟩
    have hA := hG2.withArr 0 0
    clear hS2 hG1 m0
    obtain ⟨v2, hM2, hO2⟩ := hG2.mach
    obtain ⟨sa2, sc2, rfl⟩ := hO2.form2 HN.out
    have hg2 := hM2.lt
    have hgn2 : ¬ g = w5.heap.size := by omega
    have p2 := hM2.c0
    have r2 := hM2.c1
    have HT2 : Hid (I32In (w5.alloc (.cells #[.int .i32 0, .int .i32 0] 44)) sa2 S) := (hO2.alloc _).read HN.out.symm
    have HI2 : Hid (I32In (w5.alloc (.cells #[.int .i32 0, .int .i32 0] 44)) a S) := HS.out.below hA.bel (Nat.le_refl _)
    clear hM2 hO2 hG2
    go_wp2_with fail
    refine (gheld_any S S 0 0 sa2 a n sc2 n cap n 0 _ HN HN hn (Nat.le_refl _) (by omega) rfl (fun j _ => rfl) (fun j hj => by omega) HT2 HI2).mono ?_
    rintro e wh2 ⟨rfl, hbh2⟩
    have hG3 := hA.kept hbh2
    have hbel3 := hG3.bel
    clear hbh2 hA HT2 HI2
    go_wp2_with fail
    go_ret
    exact ⟨rfl, hbel3⟩
  have q1 : (t == 1) = false := int_ne h1
  by_cases h2 : t = 2
  · subst h2
    clear h0 h1 q0 q1
    refine hS2.mono ?_
    rintro e w5 ⟨rfl, hG2⟩
    have hA := hG2.withArr 0 0
    clear hS2 hG1 m0
    obtain ⟨v2, hM2, hO2⟩ := hG2.mach
    obtain ⟨sa2, sc2, rfl⟩ := hO2.form2 HN.out
    have hg2 := hM2.lt
    have hgn2 : ¬ g = w5.heap.size := by omega
    have p2 := hM2.c0
    have r2 := hM2.c1
    have HT2 : Hid (I32In (w5.alloc (.cells #[.int .i32 0, .int .i32 0] 44)) sa2 S) := (hO2.alloc _).read HN.out.symm
    have HI2 : Hid (I32In (w5.alloc (.cells #[.int .i32 0, .int .i32 0] 44)) a S) := HS.out.below hA.bel (Nat.le_refl _)
    clear hM2 hO2 hG2
    go_wp2_with fail
    refine (gheld_any S S 0 0 sa2 a n sc2 n cap n 0 _ HN HN hn (Nat.le_refl _) (by omega) rfl (fun j _ => rfl) (fun j hj => by omega) HT2 HI2).mono ?_
    rintro e wh2 ⟨rfl, hbh2⟩
    have hG3 := hA.kept hbh2
    have hbel3 := hG3.bel
    clear hbh2 hA HT2 HI2
    obtain ⟨d0, d1, dq⟩ := hG3.cells
    have hS4 : GStep _ w w.heap.size w.heap.size 2 _ g wh2 1 2 S := hG3.halted (by omega)
    go_wp2_with fail
    refine hS4.mono ?_
    rintro e w6 ⟨rfl, hG4⟩
    obtain ⟨b0, b1, bq⟩ := hG4.cells
    obtain ⟨v4, hM4, hO4⟩ := hG4.mach
    obtain ⟨sa4, sc4, rfl⟩ := hO4.form2 HN.out
    have hg4 := hM4.lt
    have hgn4 : ¬ g = w6.heap.size := by omega
    have p4 := hM4.c0
    have r4 := hM4.c1
    have HT4 : Hid (I32In w6 sa4 S) := hO4.read HN.out.symm
    have HI4 : Hid (I32In w6 a S) := HS.out.below hG4.bel (Nat.le_refl _)
    have hbel4 := hG4.bel
    clear hS4 hG3 hM4 hO4 hG4
    go_wp2_with fail
    refine (gheld_any S S 0 0 sa4 a n sc4 n cap n 0 _ HN HN hn (Nat.le_refl _) (by omega) rfl (fun j _ => rfl) (fun j hj => by omega) HT4 HI4).mono ?_
    rintro e wh4 ⟨rfl, hbh4⟩
    go_wp2_with fail
    go_ret
    exact ⟨rfl, hbel4.trans (hbh4.mono (by have := hbel4.size; omega))⟩
  have q2 : (t == 2) = false := int_ne h2
  refine hS2.mono ?_
  rintro e w5 ⟨rfl, hG2⟩
  have hA := hG2.withArr 0 0
  clear hS2 hG1 m0
  obtain ⟨v2, hM2, hO2⟩ := hG2.mach
  obtain ⟨sa2, sc2, rfl⟩ := hO2.form2 HN.out
  have hg2 := hM2.lt
  have hgn2 : ¬ g = w5.heap.size := by omega
  have p2 := hM2.c0
  have r2 := hM2.c1
  have HT2 : Hid (I32In (w5.alloc (.cells #[.int .i32 0, .int .i32 0] 44)) sa2 S) := (hO2.alloc _).read HN.out.symm
  have HI2 : Hid (I32In (w5.alloc (.cells #[.int .i32 0, .int .i32 0] 44)) a S) := HS.out.below hA.bel (Nat.le_refl _)
  clear hM2 hO2 hG2
  go_wp2_with fail
  refine (gheld_any S S 0 0 sa2 a n sc2 n cap n 0 _ HN HN hn (Nat.le_refl _) (by omega) rfl (fun j _ => rfl) (fun j hj => by omega) HT2 HI2).mono ?_
  rintro e wh2 ⟨rfl, hbh2⟩
  have hG3 := hA.kept hbh2
  have hbel3 := hG3.bel
  clear hbh2 hA HT2 HI2
  obtain ⟨d0, d1, dq⟩ := hG3.cells
  have hS4 : GStep _ w w.heap.size w.heap.size 2 _ g wh2 4 t S := hG3.badpc (by omega) (by omega)
  go_wp2_with fail
  refine hS4.mono ?_
  rintro e w6 ⟨rfl, hG4⟩
  obtain ⟨b0, b1, bq⟩ := hG4.cells
  obtain ⟨v4, hM4, hO4⟩ := hG4.mach
  obtain ⟨sa4, sc4, rfl⟩ := hO4.form2 HN.out
  have hg4 := hM4.lt
  have hgn4 : ¬ g = w6.heap.size := by omega
  have p4 := hM4.c0
  have r4 := hM4.c1
  have HT4 : Hid (I32In w6 sa4 S) := hO4.read HN.out.symm
  have HI4 : Hid (I32In w6 a S) := HS.out.below hG4.bel (Nat.le_refl _)
  have hbel4 := hG4.bel
  clear hS4 hG3 hM4 hO4 hG4
  go_wp2_with fail
  refine (gheld_any S S 0 0 sa4 a n sc4 n cap n 0 _ HN HN hn (Nat.le_refl _) (by omega) rfl (fun j _ => rfl) (fun j hj => by omega) HT4 HI4).mono ?_
  rintro e wh4 ⟨rfl, hbh4⟩
  go_wp2_with fail
  go_ret
  exact ⟨rfl, hbel4.trans (hbh4.mono (by have := hbel4.size; omega))⟩

theorem GJump_walk (a0 : Option Addr) (n cap : Nat) (z : List Int) (x t : Int) (w : World) (w0 : IsRow .i32 w a0 n cap z) (w1 : (Lit.int .i32 x).wf = true) (w2 : (Lit.int .i32 t).wf = true) :
    Calls Ybxm.prog 9 #[.slice a0 n cap, .int .i32 x, .int .i32 t] w fun e w' => e = .returned (.bool true) ∧ Below w.heap.size w w' := by
  obtain ⟨S, hSl, hI, hr⟩ := row_i32 w0
  have hm := w0.view.1
  unfold maxLen at hm
  by_cases hl : (1024 : Int) < (n : Int)
  · clear hI w0 hr hSl
    go_enter Ybxm.func9, Ybxm.ntmps9
    go_wp2
    go_ret
    exact ⟨rfl, Below.refl _ _⟩
  · exact GJump_core S a0 n cap x t w (by omega) hSl hI hr (bounds_i32 w1) (bounds_i32 w2)
end Go.Proofs.Ymbrbx

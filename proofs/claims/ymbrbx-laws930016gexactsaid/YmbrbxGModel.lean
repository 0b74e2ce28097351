import Derived.Test.YmbrbxGHeld
namespace Go.Proofs.Ymbrbx
open Go.ChangeShapes Go.WideShapes Go.ChangeAt Go.RowKit
set_option linter.unusedVariables false
set_option linter.unusedSimpArgs false

set_option maxRecDepth 100000 in
set_option maxHeartbeats 16000000 in
theorem gm_push (b off k n cap : Nat) (arg : Int) (w : World) (a2 : Option Addr) (m cap2 : Nat) (hk : k < n) (hn : n ≤ 1000000) (hm : m ≤ 100000) (ha : -2147483648 ≤ arg ∧ arg ≤ 2147483647) (k0 : w.cell? ⟨b, off + k * 2, none⟩ = some (.int .u8 (0))) (k1 : w.cell? ⟨b, off + k * 2 + 1, none⟩ = some (.int .i32 arg)) (hb : b < w.heap.size) :
    Calls Ybxm.prog 24 #[.slice (some ⟨b, off, none⟩) n cap, .int .i64 k, .slice a2 m cap2] w fun e w' => e = .returned (.tuple #[.int .i64 (0), .int .i64 ((k : Int) + 1), .int .i64 ((m : Int)), .agg #[.int .i32 (arg), .int .i32 (0)], .int .i64 (1)]) ∧ Below w.heap.size w w' := by
  have hbn : ¬ b = w.heap.size := by omega
  have hkn : ¬ (n : Int) ≤ (k : Int) := by omega
  have hk0 : ¬ (k : Int) < 0 := by omega
  go_enter Ybxm.func24, Ybxm.ntmps24
  go_wp2_with fail
  go_region
  all_goals
    go_wp2_with fail
    refine bodyPost_ret (v := .tuple #[.int .i64 (0), .int .i64 ((k : Int) + 1), .int .i64 ((m : Int)), .agg #[.int .i32 (arg), .int .i32 (0)], .int .i64 (1)]) (by simp [results, Ybxm.results24, go_sem]) rfl ⟨rfl, ((Below.refl _ _).alloc (Nat.le_refl _) _).drew⟩

set_option maxRecDepth 100000 in
set_option maxHeartbeats 16000000 in
theorem gm_pop (b off k n cap : Nat) (arg : Int) (w : World) (m cap2 : Nat) (hk : k < n) (hn : n ≤ 1000000) (hm : m ≤ 100000) (ha : -2147483648 ≤ arg ∧ arg ≤ 2147483647) (k0 : w.cell? ⟨b, off + k * 2, none⟩ = some (.int .u8 (1))) (k1 : w.cell? ⟨b, off + k * 2 + 1, none⟩ = some (.int .i32 arg)) (hb : b < w.heap.size) (x : Int) (hx : -2147483648 ≤ x ∧ x ≤ 2147483647) (b2 off2 : Nat) (hb2 : b2 < w.heap.size) (cx : w.cell? ⟨b2, off2 + m, none⟩ = some (.int .i32 x)) :
    Calls Ybxm.prog 24 #[.slice (some ⟨b, off, none⟩) n cap, .int .i64 k, .slice (some ⟨b2, off2, none⟩) (m + 1) cap2] w fun e w' => e = .returned (.tuple #[.int .i64 (0), .int .i64 ((k : Int) + 1), .int .i64 ((m : Int)), .agg #[.int .i32 (0), .int .i32 (0)], .int .i64 (0)]) ∧ Below w.heap.size w w' := by
  have hbn : ¬ b = w.heap.size := by omega
  have hkn : ¬ (n : Int) ≤ (k : Int) := by omega
  have hk0 : ¬ (k : Int) < 0 := by omega
  have hbn2 : ¬ b2 = w.heap.size := by omega
  go_enter Ybxm.func24, Ybxm.ntmps24
  go_wp2_with fail
  go_region
  all_goals
    go_wp2_with fail
    refine bodyPost_ret (v := .tuple #[.int .i64 (0), .int .i64 ((k : Int) + 1), .int .i64 ((m : Int)), .agg #[.int .i32 (0), .int .i32 (0)], .int .i64 (0)]) (by simp [results, Ybxm.results24, go_sem]) rfl ⟨rfl, ((Below.refl _ _).alloc (Nat.le_refl _) _).drew⟩

set_option maxRecDepth 100000 in
set_option maxHeartbeats 16000000 in
theorem gm_dup (b off k n cap : Nat) (arg : Int) (w : World) (m cap2 : Nat) (hk : k < n) (hn : n ≤ 1000000) (hm : m ≤ 100000) (ha : -2147483648 ≤ arg ∧ arg ≤ 2147483647) (k0 : w.cell? ⟨b, off + k * 2, none⟩ = some (.int .u8 (2))) (k1 : w.cell? ⟨b, off + k * 2 + 1, none⟩ = some (.int .i32 arg)) (hb : b < w.heap.size) (x : Int) (hx : -2147483648 ≤ x ∧ x ≤ 2147483647) (b2 off2 : Nat) (hb2 : b2 < w.heap.size) (cx : w.cell? ⟨b2, off2 + m, none⟩ = some (.int .i32 x)) :
    Calls Ybxm.prog 24 #[.slice (some ⟨b, off, none⟩) n cap, .int .i64 k, .slice (some ⟨b2, off2, none⟩) (m + 1) cap2] w fun e w' => e = .returned (.tuple #[.int .i64 (0), .int .i64 ((k : Int) + 1), .int .i64 ((m : Int)), .agg #[.int .i32 (x), .int .i32 (x)], .int .i64 (2)]) ∧ Below w.heap.size w w' := by
  have hbn : ¬ b = w.heap.size := by omega
  have hkn : ¬ (n : Int) ≤ (k : Int) := by omega
  have hk0 : ¬ (k : Int) < 0 := by omega
  have hbn2 : ¬ b2 = w.heap.size := by omega
  go_enter Ybxm.func24, Ybxm.ntmps24
  go_wp2_with fail
  go_region
  all_goals
    go_wp2_with fail
    refine bodyPost_ret (v := .tuple #[.int .i64 (0), .int .i64 ((k : Int) + 1), .int .i64 ((m : Int)), .agg #[.int .i32 (x), .int .i32 (x)], .int .i64 (2)]) (by simp [results, Ybxm.results24, go_sem]) rfl ⟨rfl, ((Below.refl _ _).alloc (Nat.le_refl _) _).drew⟩

set_option maxRecDepth 100000 in
set_option maxHeartbeats 16000000 in
theorem gm_swap (b off k n cap : Nat) (arg : Int) (w : World) (m cap2 : Nat) (hk : k < n) (hn : n ≤ 1000000) (hm : m ≤ 100000) (ha : -2147483648 ≤ arg ∧ arg ≤ 2147483647) (k0 : w.cell? ⟨b, off + k * 2, none⟩ = some (.int .u8 (3))) (k1 : w.cell? ⟨b, off + k * 2 + 1, none⟩ = some (.int .i32 arg)) (hb : b < w.heap.size) (y x : Int) (hx : -2147483648 ≤ x ∧ x ≤ 2147483647) (hy : -2147483648 ≤ y ∧ y ≤ 2147483647) (b2 off2 : Nat) (hb2 : b2 < w.heap.size) (cy : w.cell? ⟨b2, off2 + m, none⟩ = some (.int .i32 y)) (cx : w.cell? ⟨b2, off2 + (m + 1), none⟩ = some (.int .i32 x)) :
    Calls Ybxm.prog 24 #[.slice (some ⟨b, off, none⟩) n cap, .int .i64 k, .slice (some ⟨b2, off2, none⟩) (m + 2) cap2] w fun e w' => e = .returned (.tuple #[.int .i64 (0), .int .i64 ((k : Int) + 1), .int .i64 ((m : Int)), .agg #[.int .i32 (x), .int .i32 (y)], .int .i64 (2)]) ∧ Below w.heap.size w w' := by
  have hbn : ¬ b = w.heap.size := by omega
  have hkn : ¬ (n : Int) ≤ (k : Int) := by omega
  have hk0 : ¬ (k : Int) < 0 := by omega
  have hbn2 : ¬ b2 = w.heap.size := by omega
  go_enter Ybxm.func24, Ybxm.ntmps24
  go_wp2_with fail
  go_region
  all_goals
    go_wp2_with fail
    refine bodyPost_ret (v := .tuple #[.int .i64 (0), .int .i64 ((k : Int) + 1), .int .i64 ((m : Int)), .agg #[.int .i32 (x), .int .i32 (y)], .int .i64 (2)]) (by simp [results, Ybxm.results24, go_sem]) rfl ⟨rfl, ((Below.refl _ _).alloc (Nat.le_refl _) _).drew⟩

set_option maxRecDepth 100000 in
set_option maxHeartbeats 16000000 in
theorem gm_add (b off k n cap : Nat) (arg : Int) (w : World) (m cap2 : Nat) (hk : k < n) (hn : n ≤ 1000000) (hm : m ≤ 100000) (ha : -2147483648 ≤ arg ∧ arg ≤ 2147483647) (k0 : w.cell? ⟨b, off + k * 2, none⟩ = some (.int .u8 (4))) (k1 : w.cell? ⟨b, off + k * 2 + 1, none⟩ = some (.int .i32 arg)) (hb : b < w.heap.size) (y x : Int) (hx : -2147483648 ≤ x ∧ x ≤ 2147483647) (hy : -2147483648 ≤ y ∧ y ≤ 2147483647) (b2 off2 : Nat) (hb2 : b2 < w.heap.size) (cy : w.cell? ⟨b2, off2 + m, none⟩ = some (.int .i32 y)) (cx : w.cell? ⟨b2, off2 + (m + 1), none⟩ = some (.int .i32 x)) :
    Calls Ybxm.prog 24 #[.slice (some ⟨b, off, none⟩) n cap, .int .i64 k, .slice (some ⟨b2, off2, none⟩) (m + 2) cap2] w fun e w' => e = .returned (.tuple #[.int .i64 (0), .int .i64 ((k : Int) + 1), .int .i64 ((m : Int)), .agg #[.int .i32 (RowKit.wrap32 (y + x)), .int .i32 (0)], .int .i64 (1)]) ∧ Below w.heap.size w w' := by
  have hbn : ¬ b = w.heap.size := by omega
  have hkn : ¬ (n : Int) ≤ (k : Int) := by omega
  have hk0 : ¬ (k : Int) < 0 := by omega
  have hbn2 : ¬ b2 = w.heap.size := by omega
  go_enter Ybxm.func24, Ybxm.ntmps24
  go_wp2_with fail
  go_region
  all_goals
    go_wp2_with fail
    refine bodyPost_ret (v := .tuple #[.int .i64 (0), .int .i64 ((k : Int) + 1), .int .i64 ((m : Int)), .agg #[.int .i32 (RowKit.wrap32 (y + x)), .int .i32 (0)], .int .i64 (1)]) (by simp [results, Ybxm.results24, go_sem]) rfl ⟨rfl, ((Below.refl _ _).alloc (Nat.le_refl _) _).drew⟩

set_option maxRecDepth 100000 in
set_option maxHeartbeats 16000000 in
theorem gm_sub (b off k n cap : Nat) (arg : Int) (w : World) (m cap2 : Nat) (hk : k < n) (hn : n ≤ 1000000) (hm : m ≤ 100000) (ha : -2147483648 ≤ arg ∧ arg ≤ 2147483647) (k0 : w.cell? ⟨b, off + k * 2, none⟩ = some (.int .u8 (5))) (k1 : w.cell? ⟨b, off + k * 2 + 1, none⟩ = some (.int .i32 arg)) (hb : b < w.heap.size) (y x : Int) (hx : -2147483648 ≤ x ∧ x ≤ 2147483647) (hy : -2147483648 ≤ y ∧ y ≤ 2147483647) (b2 off2 : Nat) (hb2 : b2 < w.heap.size) (cy : w.cell? ⟨b2, off2 + m, none⟩ = some (.int .i32 y)) (cx : w.cell? ⟨b2, off2 + (m + 1), none⟩ = some (.int .i32 x)) :
    Calls Ybxm.prog 24 #[.slice (some ⟨b, off, none⟩) n cap, .int .i64 k, .slice (some ⟨b2, off2, none⟩) (m + 2) cap2] w fun e w' => e = .returned (.tuple #[.int .i64 (0), .int .i64 ((k : Int) + 1), .int .i64 ((m : Int)), .agg #[.int .i32 (RowKit.wrap32 (y - x)), .int .i32 (0)], .int .i64 (1)]) ∧ Below w.heap.size w w' := by
  have hbn : ¬ b = w.heap.size := by omega
  have hkn : ¬ (n : Int) ≤ (k : Int) := by omega
  have hk0 : ¬ (k : Int) < 0 := by omega
  have hbn2 : ¬ b2 = w.heap.size := by omega
  go_enter Ybxm.func24, Ybxm.ntmps24
  go_wp2_with fail
  go_region
  all_goals
    go_wp2_with fail
    refine bodyPost_ret (v := .tuple #[.int .i64 (0), .int .i64 ((k : Int) + 1), .int .i64 ((m : Int)), .agg #[.int .i32 (RowKit.wrap32 (y - x)), .int .i32 (0)], .int .i64 (1)]) (by simp [results, Ybxm.results24, go_sem]) rfl ⟨rfl, ((Below.refl _ _).alloc (Nat.le_refl _) _).drew⟩

set_option maxRecDepth 100000 in
set_option maxHeartbeats 16000000 in
theorem gm_mul (b off k n cap : Nat) (arg : Int) (w : World) (m cap2 : Nat) (hk : k < n) (hn : n ≤ 1000000) (hm : m ≤ 100000) (ha : -2147483648 ≤ arg ∧ arg ≤ 2147483647) (k0 : w.cell? ⟨b, off + k * 2, none⟩ = some (.int .u8 (6))) (k1 : w.cell? ⟨b, off + k * 2 + 1, none⟩ = some (.int .i32 arg)) (hb : b < w.heap.size) (y x : Int) (hx : -2147483648 ≤ x ∧ x ≤ 2147483647) (hy : -2147483648 ≤ y ∧ y ≤ 2147483647) (b2 off2 : Nat) (hb2 : b2 < w.heap.size) (cy : w.cell? ⟨b2, off2 + m, none⟩ = some (.int .i32 y)) (cx : w.cell? ⟨b2, off2 + (m + 1), none⟩ = some (.int .i32 x)) :
    Calls Ybxm.prog 24 #[.slice (some ⟨b, off, none⟩) n cap, .int .i64 k, .slice (some ⟨b2, off2, none⟩) (m + 2) cap2] w fun e w' => e = .returned (.tuple #[.int .i64 (0), .int .i64 ((k : Int) + 1), .int .i64 ((m : Int)), .agg #[.int .i32 (RowKit.wrap32 (y * x)), .int .i32 (0)], .int .i64 (1)]) ∧ Below w.heap.size w w' := by
  have hbn : ¬ b = w.heap.size := by omega
  have hkn : ¬ (n : Int) ≤ (k : Int) := by omega
  have hk0 : ¬ (k : Int) < 0 := by omega
  have hbn2 : ¬ b2 = w.heap.size := by omega
  go_enter Ybxm.func24, Ybxm.ntmps24
  go_wp2_with fail
  go_region
  all_goals
    go_wp2_with fail
    refine bodyPost_ret (v := .tuple #[.int .i64 (0), .int .i64 ((k : Int) + 1), .int .i64 ((m : Int)), .agg #[.int .i32 (RowKit.wrap32 (y * x)), .int .i32 (0)], .int .i64 (1)]) (by simp [results, Ybxm.results24, go_sem]) rfl ⟨rfl, ((Below.refl _ _).alloc (Nat.le_refl _) _).drew⟩

set_option maxRecDepth 100000 in
set_option maxHeartbeats 16000000 in
theorem gm_jnz0 (b off k n cap : Nat) (arg : Int) (w : World) (m cap2 : Nat) (hk : k < n) (hn : n ≤ 1000000) (hm : m ≤ 100000) (ha : -2147483648 ≤ arg ∧ arg ≤ 2147483647) (k0 : w.cell? ⟨b, off + k * 2, none⟩ = some (.int .u8 (7))) (k1 : w.cell? ⟨b, off + k * 2 + 1, none⟩ = some (.int .i32 arg)) (hb : b < w.heap.size) (x : Int) (hx : -2147483648 ≤ x ∧ x ≤ 2147483647) (b2 off2 : Nat) (hb2 : b2 < w.heap.size) (cx : w.cell? ⟨b2, off2 + m, none⟩ = some (.int .i32 x)) (hz : x = 0) :
    Calls Ybxm.prog 24 #[.slice (some ⟨b, off, none⟩) n cap, .int .i64 k, .slice (some ⟨b2, off2, none⟩) (m + 1) cap2] w fun e w' => e = .returned (.tuple #[.int .i64 (0), .int .i64 ((k : Int) + 1), .int .i64 ((m : Int)), .agg #[.int .i32 (0), .int .i32 (0)], .int .i64 (0)]) ∧ Below w.heap.size w w' := by
  have hbn : ¬ b = w.heap.size := by omega
  have hkn : ¬ (n : Int) ≤ (k : Int) := by omega
  have hk0 : ¬ (k : Int) < 0 := by omega
  have hbn2 : ¬ b2 = w.heap.size := by omega
  subst hz
  go_enter Ybxm.func24, Ybxm.ntmps24
  go_wp2_with fail
  go_region
  all_goals
    go_wp2_with fail
    refine bodyPost_ret (v := .tuple #[.int .i64 (0), .int .i64 ((k : Int) + 1), .int .i64 ((m : Int)), .agg #[.int .i32 (0), .int .i32 (0)], .int .i64 (0)]) (by simp [results, Ybxm.results24, go_sem]) rfl ⟨rfl, ((Below.refl _ _).alloc (Nat.le_refl _) _).drew⟩

set_option maxRecDepth 100000 in
set_option maxHeartbeats 16000000 in
theorem gm_jnz1 (b off k n cap : Nat) (arg : Int) (w : World) (m cap2 : Nat) (hk : k < n) (hn : n ≤ 1000000) (hm : m ≤ 100000) (ha : -2147483648 ≤ arg ∧ arg ≤ 2147483647) (k0 : w.cell? ⟨b, off + k * 2, none⟩ = some (.int .u8 (7))) (k1 : w.cell? ⟨b, off + k * 2 + 1, none⟩ = some (.int .i32 arg)) (hb : b < w.heap.size) (x : Int) (hx : -2147483648 ≤ x ∧ x ≤ 2147483647) (b2 off2 : Nat) (hb2 : b2 < w.heap.size) (cx : w.cell? ⟨b2, off2 + m, none⟩ = some (.int .i32 x)) (hz : x ≠ 0) :
    Calls Ybxm.prog 24 #[.slice (some ⟨b, off, none⟩) n cap, .int .i64 k, .slice (some ⟨b2, off2, none⟩) (m + 1) cap2] w fun e w' => e = .returned (.tuple #[.int .i64 (0), .int .i64 (arg), .int .i64 ((m : Int)), .agg #[.int .i32 (0), .int .i32 (0)], .int .i64 (0)]) ∧ Below w.heap.size w w' := by
  have hbn : ¬ b = w.heap.size := by omega
  have hkn : ¬ (n : Int) ≤ (k : Int) := by omega
  have hk0 : ¬ (k : Int) < 0 := by omega
  have hbn2 : ¬ b2 = w.heap.size := by omega
  have qz : (x == 0) = false := int_ne hz
  have qz2 : (x != 0) = true := by unfold bne; rw [qz]; rfl
  go_enter Ybxm.func24, Ybxm.ntmps24
  go_wp2_with fail
  go_region
  all_goals
    go_wp2_with fail
    refine bodyPost_ret (v := .tuple #[.int .i64 (0), .int .i64 (arg), .int .i64 ((m : Int)), .agg #[.int .i32 (0), .int .i32 (0)], .int .i64 (0)]) (by simp [results, Ybxm.results24, go_sem]) rfl ⟨rfl, ((Below.refl _ _).alloc (Nat.le_refl _) _).drew⟩

set_option maxRecDepth 100000 in
set_option maxHeartbeats 16000000 in
theorem gm_badop (b off k n cap : Nat) (arg : Int) (w : World) (a2 : Option Addr) (m cap2 : Nat) (hk : k < n) (hn : n ≤ 1000000) (hm : m ≤ 100000) (ha : -2147483648 ≤ arg ∧ arg ≤ 2147483647) (k1 : w.cell? ⟨b, off + k * 2 + 1, none⟩ = some (.int .i32 arg)) (hb : b < w.heap.size) (op : Int) (k0 : w.cell? ⟨b, off + k * 2, none⟩ = some (.int .u8 op)) (ho : 8 ≤ op) :
    Calls Ybxm.prog 24 #[.slice (some ⟨b, off, none⟩) n cap, .int .i64 k, .slice a2 m cap2] w fun e w' => e = .returned (.tuple #[.int .i64 (3), .int .i64 ((k : Int)), .int .i64 ((m : Int)), .agg #[.int .i32 (0), .int .i32 (0)], .int .i64 (0)]) ∧ Below w.heap.size w w' := by
  have hbn : ¬ b = w.heap.size := by omega
  have hkn : ¬ (n : Int) ≤ (k : Int) := by omega
  have hk0 : ¬ (k : Int) < 0 := by omega
  have hd : decide ((7 : Int) < op) = true := decide_eq_true (by omega)
  have hd2 : (7 : Int) < op := by omega
  go_enter Ybxm.func24, Ybxm.ntmps24
  go_wp2_with fail
  go_region
  all_goals
    go_wp2_with fail
    refine bodyPost_ret (v := .tuple #[.int .i64 (3), .int .i64 ((k : Int)), .int .i64 ((m : Int)), .agg #[.int .i32 (0), .int .i32 (0)], .int .i64 (0)]) (by simp [results, Ybxm.results24, go_sem]) rfl ⟨rfl, ((Below.refl _ _).alloc (Nat.le_refl _) _).drew⟩

set_option maxRecDepth 100000 in
set_option maxHeartbeats 16000000 in
theorem gm_under1_1 (b off k n cap : Nat) (arg : Int) (w : World) (a2 : Option Addr) (m cap2 : Nat) (hk : k < n) (hn : n ≤ 1000000) (hm : m ≤ 100000) (ha : -2147483648 ≤ arg ∧ arg ≤ 2147483647) (k0 : w.cell? ⟨b, off + k * 2, none⟩ = some (.int .u8 (1))) (k1 : w.cell? ⟨b, off + k * 2 + 1, none⟩ = some (.int .i32 arg)) (hb : b < w.heap.size) (hu : m < 1) :
    Calls Ybxm.prog 24 #[.slice (some ⟨b, off, none⟩) n cap, .int .i64 k, .slice a2 m cap2] w fun e w' => e = .returned (.tuple #[.int .i64 (2), .int .i64 ((k : Int)), .int .i64 ((m : Int)), .agg #[.int .i32 (0), .int .i32 (0)], .int .i64 (0)]) ∧ Below w.heap.size w w' := by
  have hbn : ¬ b = w.heap.size := by omega
  have hkn : ¬ (n : Int) ≤ (k : Int) := by omega
  have hk0 : ¬ (k : Int) < 0 := by omega
  have hu2 : (m : Int) < 1 := by omega
  go_enter Ybxm.func24, Ybxm.ntmps24
  go_wp2_with fail
  go_region
  all_goals
    go_wp2_with fail
    refine bodyPost_ret (v := .tuple #[.int .i64 (2), .int .i64 ((k : Int)), .int .i64 ((m : Int)), .agg #[.int .i32 (0), .int .i32 (0)], .int .i64 (0)]) (by simp [results, Ybxm.results24, go_sem]) rfl ⟨rfl, ((Below.refl _ _).alloc (Nat.le_refl _) _).drew⟩

set_option maxRecDepth 100000 in
set_option maxHeartbeats 16000000 in
theorem gm_under1_2 (b off k n cap : Nat) (arg : Int) (w : World) (a2 : Option Addr) (m cap2 : Nat) (hk : k < n) (hn : n ≤ 1000000) (hm : m ≤ 100000) (ha : -2147483648 ≤ arg ∧ arg ≤ 2147483647) (k0 : w.cell? ⟨b, off + k * 2, none⟩ = some (.int .u8 (2))) (k1 : w.cell? ⟨b, off + k * 2 + 1, none⟩ = some (.int .i32 arg)) (hb : b < w.heap.size) (hu : m < 1) :
    Calls Ybxm.prog 24 #[.slice (some ⟨b, off, none⟩) n cap, .int .i64 k, .slice a2 m cap2] w fun e w' => e = .returned (.tuple #[.int .i64 (2), .int .i64 ((k : Int)), .int .i64 ((m : Int)), .agg #[.int .i32 (0), .int .i32 (0)], .int .i64 (0)]) ∧ Below w.heap.size w w' := by
  have hbn : ¬ b = w.heap.size := by omega
  have hkn : ¬ (n : Int) ≤ (k : Int) := by omega
  have hk0 : ¬ (k : Int) < 0 := by omega
  have hu2 : (m : Int) < 1 := by omega
  go_enter Ybxm.func24, Ybxm.ntmps24
  go_wp2_with fail
  go_region
  all_goals
    go_wp2_with fail
    refine bodyPost_ret (v := .tuple #[.int .i64 (2), .int .i64 ((k : Int)), .int .i64 ((m : Int)), .agg #[.int .i32 (0), .int .i32 (0)], .int .i64 (0)]) (by simp [results, Ybxm.results24, go_sem]) rfl ⟨rfl, ((Below.refl _ _).alloc (Nat.le_refl _) _).drew⟩

set_option maxRecDepth 100000 in
set_option maxHeartbeats 16000000 in
theorem gm_under1_7 (b off k n cap : Nat) (arg : Int) (w : World) (a2 : Option Addr) (m cap2 : Nat) (hk : k < n) (hn : n ≤ 1000000) (hm : m ≤ 100000) (ha : -2147483648 ≤ arg ∧ arg ≤ 2147483647) (k0 : w.cell? ⟨b, off + k * 2, none⟩ = some (.int .u8 (7))) (k1 : w.cell? ⟨b, off + k * 2 + 1, none⟩ = some (.int .i32 arg)) (hb : b < w.heap.size) (hu : m < 1) :
    Calls Ybxm.prog 24 #[.slice (some ⟨b, off, none⟩) n cap, .int .i64 k, .slice a2 m cap2] w fun e w' => e = .returned (.tuple #[.int .i64 (2), .int .i64 ((k : Int)), .int .i64 ((m : Int)), .agg #[.int .i32 (0), .int .i32 (0)], .int .i64 (0)]) ∧ Below w.heap.size w w' := by
  have hbn : ¬ b = w.heap.size := by omega
  have hkn : ¬ (n : Int) ≤ (k : Int) := by omega
  have hk0 : ¬ (k : Int) < 0 := by omega
  have hu2 : (m : Int) < 1 := by omega
  go_enter Ybxm.func24, Ybxm.ntmps24
  go_wp2_with fail
  go_region
  all_goals
    go_wp2_with fail
    refine bodyPost_ret (v := .tuple #[.int .i64 (2), .int .i64 ((k : Int)), .int .i64 ((m : Int)), .agg #[.int .i32 (0), .int .i32 (0)], .int .i64 (0)]) (by simp [results, Ybxm.results24, go_sem]) rfl ⟨rfl, ((Below.refl _ _).alloc (Nat.le_refl _) _).drew⟩

set_option maxRecDepth 100000 in
set_option maxHeartbeats 16000000 in
theorem gm_under2_3 (b off k n cap : Nat) (arg : Int) (w : World) (a2 : Option Addr) (m cap2 : Nat) (hk : k < n) (hn : n ≤ 1000000) (hm : m ≤ 100000) (ha : -2147483648 ≤ arg ∧ arg ≤ 2147483647) (k0 : w.cell? ⟨b, off + k * 2, none⟩ = some (.int .u8 (3))) (k1 : w.cell? ⟨b, off + k * 2 + 1, none⟩ = some (.int .i32 arg)) (hb : b < w.heap.size) (hu : m < 2) :
    Calls Ybxm.prog 24 #[.slice (some ⟨b, off, none⟩) n cap, .int .i64 k, .slice a2 m cap2] w fun e w' => e = .returned (.tuple #[.int .i64 (2), .int .i64 ((k : Int)), .int .i64 ((m : Int)), .agg #[.int .i32 (0), .int .i32 (0)], .int .i64 (0)]) ∧ Below w.heap.size w w' := by
  have hbn : ¬ b = w.heap.size := by omega
  have hkn : ¬ (n : Int) ≤ (k : Int) := by omega
  have hk0 : ¬ (k : Int) < 0 := by omega
  have hu2 : (m : Int) < 2 := by omega
  go_enter Ybxm.func24, Ybxm.ntmps24
  go_wp2_with fail
  go_region
  all_goals
    go_wp2_with fail
    refine bodyPost_ret (v := .tuple #[.int .i64 (2), .int .i64 ((k : Int)), .int .i64 ((m : Int)), .agg #[.int .i32 (0), .int .i32 (0)], .int .i64 (0)]) (by simp [results, Ybxm.results24, go_sem]) rfl ⟨rfl, ((Below.refl _ _).alloc (Nat.le_refl _) _).drew⟩

set_option maxRecDepth 100000 in
set_option maxHeartbeats 16000000 in
theorem gm_under2_4 (b off k n cap : Nat) (arg : Int) (w : World) (a2 : Option Addr) (m cap2 : Nat) (hk : k < n) (hn : n ≤ 1000000) (hm : m ≤ 100000) (ha : -2147483648 ≤ arg ∧ arg ≤ 2147483647) (k0 : w.cell? ⟨b, off + k * 2, none⟩ = some (.int .u8 (4))) (k1 : w.cell? ⟨b, off + k * 2 + 1, none⟩ = some (.int .i32 arg)) (hb : b < w.heap.size) (hu : m < 2) :
    Calls Ybxm.prog 24 #[.slice (some ⟨b, off, none⟩) n cap, .int .i64 k, .slice a2 m cap2] w fun e w' => e = .returned (.tuple #[.int .i64 (2), .int .i64 ((k : Int)), .int .i64 ((m : Int)), .agg #[.int .i32 (0), .int .i32 (0)], .int .i64 (0)]) ∧ Below w.heap.size w w' := by
  have hbn : ¬ b = w.heap.size := by omega
  have hkn : ¬ (n : Int) ≤ (k : Int) := by omega
  have hk0 : ¬ (k : Int) < 0 := by omega
  have hu2 : (m : Int) < 2 := by omega
  go_enter Ybxm.func24, Ybxm.ntmps24
  go_wp2_with fail
  go_region
  all_goals
    go_wp2_with fail
    refine bodyPost_ret (v := .tuple #[.int .i64 (2), .int .i64 ((k : Int)), .int .i64 ((m : Int)), .agg #[.int .i32 (0), .int .i32 (0)], .int .i64 (0)]) (by simp [results, Ybxm.results24, go_sem]) rfl ⟨rfl, ((Below.refl _ _).alloc (Nat.le_refl _) _).drew⟩

set_option maxRecDepth 100000 in
set_option maxHeartbeats 16000000 in
theorem gm_under2_5 (b off k n cap : Nat) (arg : Int) (w : World) (a2 : Option Addr) (m cap2 : Nat) (hk : k < n) (hn : n ≤ 1000000) (hm : m ≤ 100000) (ha : -2147483648 ≤ arg ∧ arg ≤ 2147483647) (k0 : w.cell? ⟨b, off + k * 2, none⟩ = some (.int .u8 (5))) (k1 : w.cell? ⟨b, off + k * 2 + 1, none⟩ = some (.int .i32 arg)) (hb : b < w.heap.size) (hu : m < 2) :
    Calls Ybxm.prog 24 #[.slice (some ⟨b, off, none⟩) n cap, .int .i64 k, .slice a2 m cap2] w fun e w' => e = .returned (.tuple #[.int .i64 (2), .int .i64 ((k : Int)), .int .i64 ((m : Int)), .agg #[.int .i32 (0), .int .i32 (0)], .int .i64 (0)]) ∧ Below w.heap.size w w' := by
  have hbn : ¬ b = w.heap.size := by omega
  have hkn : ¬ (n : Int) ≤ (k : Int) := by omega
  have hk0 : ¬ (k : Int) < 0 := by omega
  have hu2 : (m : Int) < 2 := by omega
  go_enter Ybxm.func24, Ybxm.ntmps24
  go_wp2_with fail
  go_region
  all_goals
    go_wp2_with fail
    refine bodyPost_ret (v := .tuple #[.int .i64 (2), .int .i64 ((k : Int)), .int .i64 ((m : Int)), .agg #[.int .i32 (0), .int .i32 (0)], .int .i64 (0)]) (by simp [results, Ybxm.results24, go_sem]) rfl ⟨rfl, ((Below.refl _ _).alloc (Nat.le_refl _) _).drew⟩

set_option maxRecDepth 100000 in
set_option maxHeartbeats 16000000 in
theorem gm_under2_6 (b off k n cap : Nat) (arg : Int) (w : World) (a2 : Option Addr) (m cap2 : Nat) (hk : k < n) (hn : n ≤ 1000000) (hm : m ≤ 100000) (ha : -2147483648 ≤ arg ∧ arg ≤ 2147483647) (k0 : w.cell? ⟨b, off + k * 2, none⟩ = some (.int .u8 (6))) (k1 : w.cell? ⟨b, off + k * 2 + 1, none⟩ = some (.int .i32 arg)) (hb : b < w.heap.size) (hu : m < 2) :
    Calls Ybxm.prog 24 #[.slice (some ⟨b, off, none⟩) n cap, .int .i64 k, .slice a2 m cap2] w fun e w' => e = .returned (.tuple #[.int .i64 (2), .int .i64 ((k : Int)), .int .i64 ((m : Int)), .agg #[.int .i32 (0), .int .i32 (0)], .int .i64 (0)]) ∧ Below w.heap.size w w' := by
  have hbn : ¬ b = w.heap.size := by omega
  have hkn : ¬ (n : Int) ≤ (k : Int) := by omega
  have hk0 : ¬ (k : Int) < 0 := by omega
  have hu2 : (m : Int) < 2 := by omega
  go_enter Ybxm.func24, Ybxm.ntmps24
  go_wp2_with fail
  go_region
  all_goals
    go_wp2_with fail
    refine bodyPost_ret (v := .tuple #[.int .i64 (2), .int .i64 ((k : Int)), .int .i64 ((m : Int)), .agg #[.int .i32 (0), .int .i32 (0)], .int .i64 (0)]) (by simp [results, Ybxm.results24, go_sem]) rfl ⟨rfl, ((Below.refl _ _).alloc (Nat.le_refl _) _).drew⟩

set_option maxRecDepth 100000 in
set_option maxHeartbeats 16000000 in
theorem gm_halted (a a2 : Option Addr) (n cap m cap2 : Nat) (w : World) (hn : n ≤ 1000000) (hm : m ≤ 100000) :
    Calls Ybxm.prog 24 #[.slice a n cap, .int .i64 ((n : Int)), .slice a2 m cap2] w fun e w' => e = .returned (.tuple #[.int .i64 (1), .int .i64 ((n : Int)), .int .i64 ((m : Int)), .agg #[.int .i32 (0), .int .i32 (0)], .int .i64 (0)]) ∧ Below w.heap.size w w' := by
  have h0 : ¬ (n : Int) < 0 := by omega
  have d0 : decide ((n : Int) < 0) = false := decide_eq_false h0
  go_enter Ybxm.func24, Ybxm.ntmps24
  go_wp2_with fail
  go_region
  all_goals
    go_wp2_with fail
    refine bodyPost_ret (v := .tuple #[.int .i64 (1), .int .i64 ((n : Int)), .int .i64 ((m : Int)), .agg #[.int .i32 (0), .int .i32 (0)], .int .i64 (0)]) (by simp [results, Ybxm.results24, go_sem]) rfl ⟨rfl, ((Below.refl _ _).alloc (Nat.le_refl _) _).drew⟩

set_option maxRecDepth 100000 in
set_option maxHeartbeats 16000000 in
theorem gm_badpc (a a2 : Option Addr) (n cap m cap2 : Nat) (pc : Int) (w : World) (hn : n ≤ 1000000) (hm : m ≤ 100000) (hpc : pc < 0 ∨ (n : Int) < pc) :
    Calls Ybxm.prog 24 #[.slice a n cap, .int .i64 (pc), .slice a2 m cap2] w fun e w' => e = .returned (.tuple #[.int .i64 (4), .int .i64 (pc), .int .i64 ((m : Int)), .agg #[.int .i32 (0), .int .i32 (0)], .int .i64 (0)]) ∧ Below w.heap.size w w' := by
  have hne : ¬ pc = (n : Int) := by omega
  have hne2 : (pc == (n : Int)) = false := int_ne hne
  rcases hpc with h | h
  · have d1 : decide (pc < 0) = true := decide_eq_true h
    go_enter Ybxm.func24, Ybxm.ntmps24
    go_wp2_with fail
    go_region
    all_goals
      go_wp2_with fail
      refine bodyPost_ret (v := .tuple #[.int .i64 (4), .int .i64 (pc), .int .i64 ((m : Int)), .agg #[.int .i32 (0), .int .i32 (0)], .int .i64 (0)]) (by simp [results, Ybxm.results24, go_sem]) rfl ⟨rfl, ((Below.refl _ _).alloc (Nat.le_refl _) _).drew⟩
  · have h0 : ¬ pc < 0 := by omega
    have d1 : decide (pc < 0) = false := decide_eq_false h0
    have h2 : (n : Int) ≤ pc := by omega
    have d2 : decide ((n : Int) ≤ pc) = true := decide_eq_true h2
    go_enter Ybxm.func24, Ybxm.ntmps24
    go_wp2_with fail
    go_region
    all_goals
      go_wp2_with fail
      refine bodyPost_ret (v := .tuple #[.int .i64 (4), .int .i64 (pc), .int .i64 ((m : Int)), .agg #[.int .i32 (0), .int .i32 (0)], .int .i64 (0)]) (by simp [results, Ybxm.results24, go_sem]) rfl ⟨rfl, ((Below.refl _ _).alloc (Nat.le_refl _) _).drew⟩
end Go.Proofs.Ymbrbx

import Derived.Test.YmbrbxGArithA
namespace Go.Proofs.Ymbrbx
open Go.ChangeShapes Go.WideShapes Go.ChangeAt Go.RowKit
set_option linter.unusedVariables false
set_option linter.unusedSimpArgs false

set_option maxRecDepth 100000 in
set_option maxHeartbeats 16000000 in
theorem GArith_add (S : List Int) (a : Option Addr) (n cap : Nat) (x y m : Int) (w : World) (hn : n ≤ 1024) (HN : Hid (n = S.length)) (HS : Hid (I32In w a S)) (HR : Hid (∀ x ∈ S, -2147483648 ≤ x ∧ x ≤ 2147483647)) (hx : -2147483648 ≤ x ∧ x ≤ 2147483647) (hy : -2147483648 ≤ y ∧ y ≤ 2147483647) (hm : 0 ≤ m ∧ m ≤ 255) (hk : m % 4 = 1) :
    Calls Ybxm.prog 8 #[.slice a n cap, .int .i32 x, .int .i32 y, .int .u8 m] w fun e w' => e = .returned (.bool true) ∧ Below w.heap.size w w' := by
  have hl : ¬ ((1024 : Int) < (n : Int)) := by omega
  have hbelR : Below w.heap.size w (w.alloc (.cells #[.int .i32 (RowKit.wrap32 (x + y)), .int .i32 (0)] 44)) := (Below.refl _ _).alloc (Nat.le_refl _) _
  have HRB : Hid ((w.alloc (.cells #[.int .i32 (RowKit.wrap32 (x + y)), .int .i32 (0)] 44)).heap[w.heap.size]? = some (.cells #[.int .i32 (RowKit.wrap32 (x + y)), .int .i32 (0)] 44 (0, 0))) := heap_alloc_new w _
  have hRs : (w.alloc (.cells #[.int .i32 (RowKit.wrap32 (x + y)), .int .i32 (0)] 44)).heap.size = w.heap.size + 1 := Array.size_push _
  have hbelA : Below w.heap.size w ((w.alloc (.cells #[.int .i32 (RowKit.wrap32 (x + y)), .int .i32 (0)] 44)).alloc (.cells #[.int .u8 0, .int .i32 x, .int .u8 0, .int .i32 y, .int .u8 4, .int .i32 x] 38)) := hbelR.alloc (by omega) _
  have HPA : Hid (OwnP w.heap.size ((w.alloc (.cells #[.int .i32 (RowKit.wrap32 (x + y)), .int .i32 (0)] 44)).alloc (.cells #[.int .u8 0, .int .i32 x, .int .u8 0, .int .i32 y, .int .u8 4, .int .i32 x] 38)) (.slice (some ⟨w.heap.size + 1, 0, none⟩) 3 3) [(0, x), (0, y), (4, x)]) := by
    have h := World.ownsRow_lit (base := w.heap.size) (e := 38) (size := 2) (w.alloc (.cells #[.int .i32 (RowKit.wrap32 (x + y)), .int .i32 (0)] 44)) #[.int .u8 0, .int .i32 x, .int .u8 0, .int .i32 y, .int .u8 4, .int .i32 x] 3 (by omega) (by unfold maxLen; omega) rfl
    rw [hRs] at h
    exact h
  have HQA : Hid (((w.alloc (.cells #[.int .i32 (RowKit.wrap32 (x + y)), .int .i32 (0)] 44)).alloc (.cells #[.int .u8 0, .int .i32 x, .int .u8 0, .int .i32 y, .int .u8 4, .int .i32 x] 38)).heap[w.heap.size]? = some (.cells #[.int .i32 (RowKit.wrap32 (x + y)), .int .i32 (0)] 44 (0, 0))) := (Below.heap_alloc _ _ _ (by omega)).trans HRB.out
  have hs1 : w.heap.size ≤ ((w.alloc (.cells #[.int .i32 (RowKit.wrap32 (x + y)), .int .i32 (0)] 44)).alloc (.cells #[.int .u8 0, .int .i32 x, .int .u8 0, .int .i32 y, .int .u8 4, .int .i32 x] 38)).heap.size := hbelA.size
  clear hbelR HRB hRs
  go_enter Ybxm.func8, Ybxm.ntmps8
  go_wp2_with fail
  generalize hW1 : (w.alloc (.cells #[.int .i32 (RowKit.wrap32 (x + y)), .int .i32 (0)] 44)).alloc (.cells #[.int .u8 0, .int .i32 x, .int .u8 0, .int .i32 y, .int .u8 4, .int .i32 x] 38) = W1 at *
  refine (gcopy_any S n a cap W1 HN hn (HS.out.below hbelA (Nat.le_refl _)) HR).mono ?_
  rintro e w2 ⟨rfl, hO2, hb2⟩
  have hG0 : GS (some (w.heap.size, RowKit.wrap32 (x + y), 0)) w w.heap.size (w.heap.size + 1) 3 [(0, x), (0, y), (4, x)] w2.heap.size (w2.alloc (.cells #[.int .i64 0, .slice (some ⟨W1.heap.size, 0, none⟩) n n] 49)) 0 S := by
    refine ⟨(hbelA.trans (hb2.mono hs1)).alloc (Nat.le_trans hs1 hb2.size) _, alloc_le (Nat.le_trans hs1 hb2.size) _, Nat.le_trans hs1 hb2.size, (HPA.out.kept hb2).alloc _, rfl, ⟨_, MB.new w2 0 _, (hO2.lower hs1).alloc _⟩, ?_⟩
    intro q p0 p1 hq
    cases hq
    have hlt := lt_of_block HQA.out
    exact ⟨Nat.le_refl _, (Below.heap_alloc _ _ _ (Nat.lt_of_lt_of_le hlt hb2.size)).trans ((hb2.block _ hlt).trans HQA.out)⟩
  clear hW1 hO2 hb2 HPA HQA hbelA hs1
  go_wp2_with fail
  generalize hW3 : w2.alloc (.cells #[.int .i64 0, .slice (some ⟨W1.heap.size, 0, none⟩) n n] 49) = W3 at *
  generalize hg : w2.heap.size = g at *
  clear hW3 hg
  go_loopw [8, 14] (fun u i wr => ∃ (k : Nat) (st : List Int), i = .int .i64 k ∧ ((k = 0 ∧ st = S) ∨ (k = 1 ∧ st = S ++ [x]) ∨ (k = 2 ∧ st = S ++ [x, y]) ∨ (k = 3 ∧ st = S ++ [RowKit.wrap32 (x + y)])) ∧ GS (some (w.heap.size, RowKit.wrap32 (x + y), 0)) w w.heap.size (w.heap.size + 1) 3 [(0, x), (0, y), (4, x)] g wr k st) (fun _ i _ => 3 - (intOf i).toNat)
  case atStart => exact ⟨0, S, rfl, .inl ⟨rfl, rfl⟩, hG0⟩
  case round =>
    obtain ⟨k, st, rfl, hcase, hG⟩ := hrel
    clear hG0
    rcases hcase with ⟨rfl, rfl⟩ | ⟨rfl, rfl⟩ | ⟨rfl, rfl⟩ | ⟨rfl, rfl⟩
    · have hS : GStep (some (w.heap.size, RowKit.wrap32 (x + y), 0)) w w.heap.size (w.heap.size + 1) 3 [(0, x), (0, y), (4, x)] g wr 0 1 (st ++ [x]) := hG.push (k := 0) (by omega) rfl (by have := HN.out; omega)
      go_wp2_with fail
      refine hS.mono ?_
      rintro e w5 ⟨rfl, hG5⟩
      obtain ⟨v5, hM5, hO5⟩ := hG5.mach
      have p5 := hM5.c0
      clear hS hG hM5 hO5
      go_wp2_with fail
      go_roundw
      case rel => exact ⟨1, _, by go_num, .inr (.inl ⟨rfl, rfl⟩), hG5⟩
      case measure => simp [intOf]
    · have hS : GStep (some (w.heap.size, RowKit.wrap32 (x + y), 0)) w w.heap.size (w.heap.size + 1) 3 [(0, x), (0, y), (4, x)] g wr 0 2 (S ++ [x] ++ [y]) := hG.push (k := 1) (by omega) rfl (by rw [List.length_append, ← HN.out]; simp; omega)
      rw [show S ++ [x] ++ [y] = S ++ [x, y] from by simp] at hS
      go_wp2_with fail
      refine hS.mono ?_
      rintro e w5 ⟨rfl, hG5⟩
      obtain ⟨v5, hM5, hO5⟩ := hG5.mach
      have p5 := hM5.c0
      clear hS hG hM5 hO5
      go_wp2_with fail
      go_roundw
      case rel => exact ⟨2, _, by go_num, .inr (.inr (.inl ⟨rfl, rfl⟩)), hG5⟩
      case measure => simp [intOf]
    · have hS : GStep (some (w.heap.size, RowKit.wrap32 (x + y), 0)) w w.heap.size (w.heap.size + 1) 3 [(0, x), (0, y), (4, x)] g wr 0 3 (S ++ [RowKit.wrap32 (x + y)]) := hG.add (k := 2) (by omega) rfl (by have := HN.out; omega) hy hx
      go_wp2_with fail
      refine hS.mono ?_
      rintro e w5 ⟨rfl, hG5⟩
      obtain ⟨v5, hM5, hO5⟩ := hG5.mach
      have p5 := hM5.c0
      clear hS hG hM5 hO5
      go_wp2_with fail
      go_roundw
      case rel => exact ⟨3, _, by go_num, .inr (.inr (.inr ⟨rfl, rfl⟩)), hG5⟩
      case measure => simp [intOf]
    · have hG6 : GS (some (w.heap.size, RowKit.wrap32 (x + y), 0)) w w.heap.size (w.heap.size + 1) 3 [(0, x), (0, y), (4, x)] g wr 3 (S ++ [RowKit.wrap32 (x + y)]) := hG
      clear hG
      obtain ⟨b06, b16, bq6⟩ := hG6.cells
      obtain ⟨v6, hM6, hO6⟩ := hG6.mach
      obtain ⟨sa6, sc6, rfl⟩ := hO6.form2 (n := n + 1) (by rw [List.length_append, ← HN.out]; rfl)
      have p6 := hM6.c0
      have r6 := hM6.c1
      have HT6 : Hid (I32In wr sa6 (S ++ [RowKit.wrap32 (x + y)])) := hO6.read (by rw [List.length_append, ← HN.out]; rfl)
      have HI6 : Hid (I32In wr a S) := HS.out.below hG6.bel (Nat.le_refl _)
      have hbel6 := hG6.bel
      clear hM6 hO6
      go_wp2_with fail
      refine (gheld_any (S ++ [RowKit.wrap32 (x + y)]) S (RowKit.wrap32 (x + y)) (0) sa6 a (n + 1) sc6 n cap n 1 wr (by show _ = _; rw [List.length_append, ← HN.out]; rfl) HN hn (Nat.le_refl _) (by omega) rfl (held_one S (RowKit.wrap32 (x + y)) n HN.out).1 (held_one S (RowKit.wrap32 (x + y)) n HN.out).2 HT6 HI6).mono ?_
      rintro e wh6 ⟨rfl, hbh6⟩
      have hG7 := hG6.kept hbh6
      clear hbh6 HT6 HI6 hG6
      have hS : GStep (some (w.heap.size, RowKit.wrap32 (x + y), 0)) w w.heap.size (w.heap.size + 1) 3 [(0, x), (0, y), (4, x)] g wh6 1 3 (S ++ [RowKit.wrap32 (x + y)]) := hG7.halted (by omega)
      go_wp2_with fail
      refine hS.mono ?_
      rintro e w8 ⟨rfl, hG8⟩
      clear hS hG7
      obtain ⟨b08, b18, bq8⟩ := hG8.cells
      obtain ⟨v8, hM8, hO8⟩ := hG8.mach
      obtain ⟨sa8, sc8, rfl⟩ := hO8.form2 (n := n + 1) (by rw [List.length_append, ← HN.out]; rfl)
      have p8 := hM8.c0
      have r8 := hM8.c1
      have HT8 : Hid (I32In w8 sa8 (S ++ [RowKit.wrap32 (x + y)])) := hO8.read (by rw [List.length_append, ← HN.out]; rfl)
      have HI8 : Hid (I32In w8 a S) := HS.out.below hG8.bel (Nat.le_refl _)
      have hbel8 := hG8.bel
      clear hM8 hO8
      go_wp2_with fail
      refine (gheld_any (S ++ [RowKit.wrap32 (x + y)]) S (RowKit.wrap32 (x + y)) (0) sa8 a (n + 1) sc8 n cap n 1 w8 (by show _ = _; rw [List.length_append, ← HN.out]; rfl) HN hn (Nat.le_refl _) (by omega) rfl (held_one S (RowKit.wrap32 (x + y)) n HN.out).1 (held_one S (RowKit.wrap32 (x + y)) n HN.out).2 HT8 HI8).mono ?_
      rintro e wh8 ⟨rfl, hbh8⟩
      go_wp2_with fail
      go_ret
      exact ⟨rfl, hbel8.trans (hbh8.mono (by have := hbel8.size; omega))⟩
end Go.Proofs.Ymbrbx

import Derived.Test.YmbrbyMach
namespace Go.Proofs.Ymbrby
open Go.ChangeShapes Go.WideShapes Go.ChangeAt Go.RowKit
set_option linter.unusedVariables false
set_option linter.unusedSimpArgs false

set_option maxRecDepth 100000 in
set_option maxHeartbeats 32000000 in
theorem step_add (b off k n cap : Nat) (arg : Int) (base g : Nat) (v : Value) (l : List Int) (y x : Int) (w : World) (hk : k < n) (hn : n ≤ 1000000) (k0 : w.cell? ⟨b, off + k * 2, none⟩ = some (.int .u8 4)) (k1 : w.cell? ⟨b, off + k * 2 + 1, none⟩ = some (.int .i32 arg)) (hb : b < w.heap.size)
    (HM : Hid (MB w g k v)) (HO : Hid (OwnT base w v (l ++ [y, x]))) (hst : l.length ≤ 100000) (hbase : base ≤ w.heap.size) (hx : -2147483648 ≤ x ∧ x ≤ 2147483647) (hy : -2147483648 ≤ y ∧ y ≤ 2147483647) :
    Calls Ybym.prog 24 #[.pointer (some ⟨g, 0, none⟩), .slice (some ⟨b, off, none⟩) n cap] w (Did base g w v 0 (k + 1) (l ++ [RowKit.wrap32 (y + x)])) := by
  obtain ⟨gb, sc, rfl, hsc, hsm, hbg, hgbl⟩ := HO.out.solid (by simp)
  have hgl := HM.out.lt
  have hgn : ¬ g = w.heap.size := by omega
  have hbn : ¬ b = w.heap.size := by omega
  have hgbn : ¬ gb = w.heap.size := by omega
  have m0 := HM.out.c0
  have m1 := HM.out.c1
  have f0 := HM.out.free 0
  have f1 := HM.out.free 1
  have hkn : ¬ (k : Int) = (n : Int) := by omega
  have hkn2 : ((k : Int) == (n : Int)) = false := int_ne hkn
  have hEF : ∀ W, Calls Ybym.prog 23 #[.int .u8 4] W fun e w' => e = .returned (.tuple #[.int .i64 2, .int .i64 1, .bool true]) ∧ w' = W := fun W => effect_any 4 (by decide) W
  have hne := HM.out.ne HO.out
  have hgg : ¬ gb = g := fun e => hne (by rw [e]; rfl)
  have hgg2 : ¬ g = gb := fun e => hgg e.symm
  obtain ⟨m, hm⟩ : ∃ m, l.length = m := ⟨_, rfl⟩
  have hlen : (l ++ [y, x]).length = m + 2 := by rw [List.length_append, hm]; rfl
  rw [hlen] at HM HO m1 hne hsc ⊢
  have Hm : Hid (l.length = m) := hm
  have Hl : Hid ((l ++ [y, x]).length = m + 2) := hlen
  rw [hm] at hst
  have fz := fun j => HO.out.free hlen j
  have cy := HO.out.at hlen m y (by rw [List.getElem?_append_right (by omega)]; simp [hm])
  have cx := HO.out.at hlen (m + 1) x (by rw [List.getElem?_append_right (by omega)]; simp [hm])
  clear hm hlen
  unfold maxLen at hsm
  go_enter Ybym.func24, Ybym.ntmps24
  go_wp2_with fail
  refine (hEF _).mono ?_
  rintro e wq ⟨rfl, rfl⟩
  go_wp2_with fail
  go_region
  all_goals
    go_wp2_with fail
    go_ret
    have hO1 := HO.out.store Hl.out m (RowKit.wrap32 (y + x))
    rw [set_last2 l y x _ m Hm.out] at hO1
    have hO2 := OwnT.pop hO1 (by rw [List.length_append, Hm.out]; rfl)
    exact ⟨rfl, (((((Sel.refl _ _ _).setR m _).setG 1 _).setG 0 _).alloc _).drew, _, ((((HM.out.other ⟨gb, m, none⟩ hgg2 _).set1 _).set0 _).alloc _).drew, (((hO2.setG hne 1 _).setG hne 0 _).alloc _).drew⟩
end Go.Proofs.Ymbrby

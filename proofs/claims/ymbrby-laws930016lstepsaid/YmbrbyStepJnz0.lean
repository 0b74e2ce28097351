import Derived.Test.YmbrbyMach
namespace Go.Proofs.Ymbrby
open Go.ChangeShapes Go.WideShapes Go.ChangeAt Go.RowKit
set_option linter.unusedVariables false
set_option linter.unusedSimpArgs false

set_option maxRecDepth 100000 in
set_option maxHeartbeats 32000000 in
theorem step_jnz0 (b off k n cap : Nat) (arg : Int) (base g : Nat) (v : Value) (l : List Int) (x : Int) (w : World) (hk : k < n) (hn : n ≤ 1000000) (k0 : w.cell? ⟨b, off + k * 2, none⟩ = some (.int .u8 7)) (k1 : w.cell? ⟨b, off + k * 2 + 1, none⟩ = some (.int .i32 arg)) (hb : b < w.heap.size)
    (HM : Hid (MB w g k v)) (HO : Hid (OwnT base w v (l ++ [x]))) (hst : l.length ≤ 100000) (hbase : base ≤ w.heap.size) (hx : -2147483648 ≤ x ∧ x ≤ 2147483647) (hz : x = 0) :
    Calls Ybym.prog 24 #[.pointer (some ⟨g, 0, none⟩), .slice (some ⟨b, off, none⟩) n cap] w (Did base g w v 0 (k + 1) (l)) := by
  obtain ⟨gb, sc, rfl, hsc, hsm, hbg, hgbl⟩ := HO.out.solid (by simp)
  have hgl := HM.out.lt
  have hgn : ¬ g = w.heap.size := by omega
  have hbn : ¬ b = w.heap.size := by omega
  have hgbn : ¬ gb = w.heap.size := by omega
  have m0 := HM.out.c0
  have m1 := HM.out.c1
  have f0 := HM.out.free 0
  have f1 := HM.out.free 1
  have hkn : ¬ (k : Int) = (n : Int) := by omega
  have hkn2 : ((k : Int) == (n : Int)) = false := int_ne hkn
  have hEF : ∀ W, Calls Ybym.prog 23 #[.int .u8 7] W fun e w' => e = .returned (.tuple #[.int .i64 1, .int .i64 0, .bool true]) ∧ w' = W := fun W => effect_any 7 (by decide) W
  have hne := HM.out.ne HO.out
  have hgg : ¬ gb = g := fun e => hne (by rw [e]; rfl)
  have hgg2 : ¬ g = gb := fun e => hgg e.symm
  obtain ⟨m, hm⟩ : ∃ m, l.length = m := ⟨_, rfl⟩
  have hlen : (l ++ [x]).length = m + 1 := by rw [List.length_append, hm]; rfl
  rw [hlen] at HM HO m1 hne hsc ⊢
  have Hm : Hid (l.length = m) := hm
  have Hl : Hid ((l ++ [x]).length = m + 1) := hlen
  rw [hm] at hst
  have fz := fun j => HO.out.free hlen j
  have cx := HO.out.at hlen m x (by rw [List.getElem?_append_right (by omega)]; simp [hm])
  subst hz
  clear hm hlen
  unfold maxLen at hsm
  go_enter Ybym.func24, Ybym.ntmps24
  go_wp2_with fail
  refine (hEF _).mono ?_
  rintro e wq ⟨rfl, rfl⟩
  go_wp2_with fail
  go_ret
  exact ⟨rfl, (((Sel.refl _ _ _).setG 1 _).setG 0 _).alloc _, _, ((HM.out.set1 _).set0 _).alloc _, (((OwnT.pop HO.out Hm.out).setG hne 1 _).setG hne 0 _).alloc _⟩
end Go.Proofs.Ymbrby

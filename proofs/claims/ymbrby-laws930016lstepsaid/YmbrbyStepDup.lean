import Derived.Test.YmbrbyMach
namespace Go.Proofs.Ymbrby
open Go.ChangeShapes Go.WideShapes Go.ChangeAt Go.RowKit
set_option linter.unusedVariables false
set_option linter.unusedSimpArgs false

set_option maxRecDepth 100000 in
set_option maxHeartbeats 32000000 in
theorem step_dup (b off k n cap : Nat) (arg : Int) (base g : Nat) (v : Value) (l : List Int) (x : Int) (w : World) (hk : k < n) (hn : n ≤ 1000000) (k0 : w.cell? ⟨b, off + k * 2, none⟩ = some (.int .u8 2)) (k1 : w.cell? ⟨b, off + k * 2 + 1, none⟩ = some (.int .i32 arg)) (hb : b < w.heap.size)
    (HM : Hid (MB w g k v)) (HO : Hid (OwnT base w v (l ++ [x]))) (hst : l.length ≤ 100000) (hbase : base ≤ w.heap.size) (hx : -2147483648 ≤ x ∧ x ≤ 2147483647) :
    Calls Ybym.prog 24 #[.pointer (some ⟨g, 0, none⟩), .slice (some ⟨b, off, none⟩) n cap] w (Did base g w v 0 (k + 1) (l ++ [x, x])) := by
  obtain ⟨gb, sc, rfl, hsc, hsm, hbg, hgbl⟩ := HO.out.solid (by simp)
  have hgl := HM.out.lt
  have hgn : ¬ g = w.heap.size := by omega
  have hbn : ¬ b = w.heap.size := by omega
  have hgbn : ¬ gb = w.heap.size := by omega
  have m0 := HM.out.c0
  have m1 := HM.out.c1
  have f0 := HM.out.free 0
  have f1 := HM.out.free 1
  have hkn : ¬ (k : Int) = (n : Int) := by omega
  have hkn2 : ((k : Int) == (n : Int)) = false := int_ne hkn
  have hEF : ∀ W, Calls Ybym.prog 23 #[.int .u8 2] W fun e w' => e = .returned (.tuple #[.int .i64 1, .int .i64 2, .bool true]) ∧ w' = W := fun W => effect_any 2 (by decide) W
  have hne := HM.out.ne HO.out
  have hgg : ¬ gb = g := fun e => hne (by rw [e]; rfl)
  have hgg2 : ¬ g = gb := fun e => hgg e.symm
  obtain ⟨m, hm⟩ : ∃ m, l.length = m := ⟨_, rfl⟩
  have hlen : (l ++ [x]).length = m + 1 := by rw [List.length_append, hm]; rfl
  rw [hlen] at HM HO m1 hne hsc ⊢
  have Hm : Hid (l.length = m) := hm
  have Hl : Hid ((l ++ [x]).length = m + 1) := hlen
  rw [hm] at hst
  have fz := fun j => HO.out.free hlen j
  have cx := HO.out.at hlen m x (by rw [List.getElem?_append_right (by omega)]; simp [hm])
  have hwm : IntKind.i64.wrap (m : Int) = (m : Int) := IntWalk.i64_in _ (by omega)
  have hm1 : (m : Int) < (m : Int) + 1 := by omega
  have hm2 : (0 : Int) ≤ (m : Int) := by omega
  clear hm hlen
  unfold maxLen at hsm
  go_enter Ybym.func24, Ybym.ntmps24
  go_wp2_with fail
  refine (hEF _).mono ?_
  rintro e wq ⟨rfl, rfl⟩
  go_wp2_with fail
  go_region_law (
    refine step_push_i32 rfl (.tmp 94) (.tmp 103) rfl base (.slice (some ⟨gb, 0, none⟩) (m + 1) sc) (l ++ [x]) x (w.heap.size + 1) 1 (by simp [Act.eval, Act.put]) (by simp [Act.eval, Act.put]) (OwnT.alloc (OwnT.drew (OwnT.alloc HO.out _)) _) (by simp) (by have := Hl.out; omega) (by simp; omega) ?_
    intro v' w' hown' hgrow
    rw [List.append_assoc] at hown'
    obtain ⟨sa', sc', hv'⟩ := hown'.form
    rw [show (l ++ ([x] ++ [x])).length = m + 2 from by rw [List.length_append, Hm.out]; rfl] at hv'
    subst hv'
    obtain ⟨hM', hS'⟩ := pushed (MB.alloc (MB.drew (MB.alloc HM.out _)) _) hne (Sel.alloc (Sel.drew (Sel.alloc (Sel.refl g _ w) _)) _) hgrow
    have HS' := Hid.mk3 hS'
    have hne' := hM'.ne hown'
    have HM' := Hid.mk3 hM'
    have HO' := Hid.mk3 hown'
    have m0' := hM'.c0
    have m1' := hM'.c1
    have f0' := hM'.free 0
    have f1' := hM'.free 1
    clear hown' hgrow hM' hS')
  all_goals
    go_wp2_with fail
    go_ret
    exact ⟨rfl, (HS'.out.setG 1 _).setG 0 _, _, (HM'.out.set1 _).set0 _, (HO'.out.setG hne' 1 _).setG hne' 0 _⟩
end Go.Proofs.Ymbrby

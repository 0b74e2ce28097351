import Derived.Test.YmbrbxFPathsWalk
import Derived.WalkKit
import Derived.ProofKit
import Derived.OpenShut
import Derived.ShutString
import Derived.ChangeOld
import Derived.Below
namespace Go.Proofs.Ymbrbx.lawS930016FPaths
open Go.ChangeShapes Go.WideShapes Go.ChangeAt Go.RowKit
open Go.ChangeMaps (open_string shut_string)
set_option linter.unusedVariables false

theorem own : ownKnob Ybxm.prog.godebug = none := by kernel_rfl
theorem laidOut : laidOutB Ybxm.prog = true := by kernel_rfl

set_option maxRecDepth 100000 in
theorem lifted (os : Os) (started : os.Started) (H : Type) (enc : TypeId × Value → H) :
    ReturnsInHanded {} Ybxm.checked os 6 .any (Rows.lawS930016FPathsSpec.pre6 enc Ybxm.prog Ybxm.f6 Rows.lawS930016FPathsRow.domain false) (Rows.lawS930016FPathsSpec.post enc Ybxm.prog Ybxm.f6 false true false false) := by
  refine returnsInHanded_of_change (C := Ybxm.checked) own started (by kernel_rfl) Ybxm.func6
    (ChangeSpec.witness6 (enc := enc) (C := Ybxm.checked) false ⟨#[], #[.slice none 0 0, .slice none 0 0], []⟩ 8 (by kernel_rfl) (by kernel_rfl) (by kernel_rfl) (by kernel_rfl)) ?_
  intro W base args ds gs before hval0 hW hcnd _
  have hval : ∀ (j : Nat) t v, Ybxm.f6.params[j]? = some t → args[j]? = some v → Value.okWide Ybxm.prog W .any base t v := hval0
  have hW' := hW
  obtain ⟨p, q, hA0, hV, rfl, hfz, hnd⟩ := hW
  have hA : DataW.TrodAll enc Ybxm.prog W 0 (fun _ => true) true Ybxm.f6.params.toList args.toList ds p := hA0
  rw [Ybxm.params6] at hA hval
  obtain ⟨v0, vs0, d0, ds0, p0, q0, hargs, rfl, rfl, h0, r0⟩ := trodAll_cons hA
  obtain ⟨v1, vs1, d1, ds1, p1, q1, rfl, rfl, rfl, h1, r1⟩ := trodAll_cons r0
  obtain ⟨rfl, rfl, rfl⟩ := trodAll_nil r1
  obtain rfl : args = #[v0, v1] := by cases args; simp_all
  obtain ⟨rfl, rfl⟩ := trodVars_none hV
  obtain ⟨a0, len0, cap0, rfl⟩ := okWide_slice Ybxm.underlying28 (hval 0 28 v0 rfl rfl)
  have k0 := h0
  have lt0 : ∀ x ∈ p0, x.block < W.heap.size := by obtain ⟨m, hm⟩ := k0; exact DataW.trod_lt m _ _ _ hm
  have w0 := recs_at Ybxm.underlying28 Ybxm.underlying38 (by kernel_rfl) rfl rfl (by kernel_rfl) (by kernel_rfl) Ybxm.underlying5 Ybxm.underlying21 h0
  obtain ⟨a1, len1, cap1, rfl⟩ := okWide_slice Ybxm.underlying36 (hval 1 36 v1 rfl rfl)
  have k1 := h1
  have lt1 : ∀ x ∈ p1, x.block < W.heap.size := by obtain ⟨m, hm⟩ := k1; exact DataW.trod_lt m _ _ _ hm
  have w1 := bools_at Ybxm.underlying36 Ybxm.underlying4 (by kernel_rfl) h1
  clear hA0 hval0
  refine (FPaths_walk a0 len0 cap0 a1 len1 cap1 W w0 w1).mono fun e W' ⟨he, bel⟩ => ?_
  subst he
  exact ⟨_, rfl, _, _, _, [], _, [], hW', trodAll_mk1 (shut_bool Ybxm.underlying4 _), (trodAll_cons_mk (Below.trod laidOut (by kernel_rfl) (of_decide_eq_true (by kernel_rfl)) k0 bel lt0) (trodAll_cons_mk (Below.trod laidOut (by kernel_rfl) (of_decide_eq_true (by kernel_rfl)) k1 bel lt1) trodAll_mk0)), rfl, bel.frame _, fun h => by cases h⟩

theorem over : Rows.lawS930016FPathsRow.holds Ybxm.pinned (OpenSpec.ofChange Rows.lawS930016FPathsSpec) :=
  OpenClaim.holds_of_wide 6 Ybxm.f6 rfl rfl rfl rfl rfl rfl rfl ⟨rfl, rfl, rfl, rfl, rfl⟩ rfl rfl rfl rfl rfl (by kernel_rfl) Ybxm.func6 (by kernel_rfl)
    (of_decide_eq_true (by kernel_rfl)) (by unfold Func.isWrapper; first | (rw [if_pos (by decide +kernel)]; kernel_rfl) | (rw [if_neg (by decide +kernel)]; exact ⟨rfl, rfl⟩))
    (fun os started H enc _ => lifted os started H enc)

theorem proved : Rows.LawS930016FPathsSaid := over
end Go.Proofs.Ymbrbx.lawS930016FPaths

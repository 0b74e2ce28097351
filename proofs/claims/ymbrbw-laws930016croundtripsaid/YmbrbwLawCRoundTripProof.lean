import Derived.Test.YmbrbwCRoundTripWalk
import Derived.WalkKit
import Derived.ProofKit
import Derived.OpenShut
import Derived.ShutString
import Derived.ChangeOld
import Derived.Below
namespace Go.Proofs.Ymbrbw.lawS930016CRoundTrip
open Go.ChangeShapes Go.WideShapes Go.ChangeAt Go.RowKit
open Go.ChangeMaps (open_string shut_string)
set_option linter.unusedVariables false

theorem own : ownKnob Ybwm.prog.godebug = none := by kernel_rfl
theorem laidOut : laidOutB Ybwm.prog = true := by kernel_rfl

set_option maxRecDepth 100000 in
theorem lifted (os : Os) (started : os.Started) (H : Type) (enc : TypeId × Value → H) :
    ReturnsInHanded {} Ybwm.checked os 10 .any (Rows.lawS930016CRoundTripSpec.pre6 enc Ybwm.prog Ybwm.f10 Rows.lawS930016CRoundTripRow.domain false) (Rows.lawS930016CRoundTripSpec.post enc Ybwm.prog Ybwm.f10 false true false false) := by
  refine returnsInHanded_of_change (C := Ybwm.checked) own started (by kernel_rfl) Ybwm.func10
    (ChangeSpec.witness6 (enc := enc) (C := Ybwm.checked) false ⟨#[], #[.slice none 0 0], []⟩ 8 (by kernel_rfl) (by kernel_rfl) (by kernel_rfl) (by kernel_rfl)) ?_
  intro W base args ds gs before hval0 hW hcnd _
  have hval : ∀ (j : Nat) t v, Ybwm.f10.params[j]? = some t → args[j]? = some v → Value.okWide Ybwm.prog W .any base t v := hval0
  have hW' := hW
  obtain ⟨p, q, hA0, hV, rfl, hfz, hnd⟩ := hW
  have hA : DataW.TrodAll enc Ybwm.prog W 0 (fun _ => true) true Ybwm.f10.params.toList args.toList ds p := hA0
  rw [Ybwm.params10] at hA hval
  obtain ⟨v0, vs0, d0, ds0, p0, q0, hargs, rfl, rfl, h0, r0⟩ := trodAll_cons hA
  obtain ⟨rfl, rfl, rfl⟩ := trodAll_nil r0
  obtain rfl : args = #[v0] := by cases args; simp_all
  obtain ⟨rfl, rfl⟩ := trodVars_none hV
  obtain ⟨a0, len0, cap0, rfl⟩ := okWide_slice Ybwm.underlying42 (hval 0 42 v0 rfl rfl)
  have k0 := h0
  have lt0 : ∀ x ∈ p0, x.block < W.heap.size := by obtain ⟨m, hm⟩ := k0; exact DataW.trod_lt m _ _ _ hm
  have w0 := recs_at Ybwm.underlying42 Ybwm.underlying38 (by kernel_rfl) rfl rfl (by kernel_rfl) (by kernel_rfl) Ybwm.underlying5 Ybwm.underlying21 h0
  clear hA0 hval0
  refine (CRoundTrip_walk a0 len0 cap0 W w0).mono fun e W' ⟨he, bel⟩ => ?_
  subst he
  exact ⟨_, rfl, _, _, _, [], _, [], hW', trodAll_mk1 (shut_bool Ybwm.underlying4 _), (trodAll_cons_mk (Below.trod laidOut (by kernel_rfl) (of_decide_eq_true (by kernel_rfl)) k0 bel lt0) trodAll_mk0), rfl, bel.frame _, fun h => by cases h⟩

theorem over : Rows.lawS930016CRoundTripRow.holds Ybwm.pinned (OpenSpec.ofChange Rows.lawS930016CRoundTripSpec) :=
  OpenClaim.holds_of_wide 10 Ybwm.f10 rfl rfl rfl rfl rfl rfl rfl ⟨rfl, rfl, rfl, rfl, rfl⟩ rfl rfl rfl rfl rfl (by kernel_rfl) Ybwm.func10 (by kernel_rfl)
    (of_decide_eq_true (by kernel_rfl)) (by unfold Func.isWrapper; first | (rw [if_pos (by decide +kernel)]; kernel_rfl) | (rw [if_neg (by decide +kernel)]; exact ⟨rfl, rfl⟩))
    (fun os started H enc _ => lifted os started H enc)

theorem proved : Rows.LawS930016CRoundTripSaid := over
end Go.Proofs.Ymbrbw.lawS930016CRoundTrip

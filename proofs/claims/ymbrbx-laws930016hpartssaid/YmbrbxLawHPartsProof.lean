import Derived.Test.YmbrbxHPartsWalk
import Derived.WalkKit
import Derived.ProofKit
import Derived.OpenShut
import Derived.ShutString
import Derived.ChangeOld
import Derived.Below
namespace Go.Proofs.Ymbrbx.lawS930016HParts
open Go.ChangeShapes Go.WideShapes Go.ChangeAt Go.RowKit
open Go.ChangeMaps (open_string shut_string)
set_option linter.unusedVariables false

theorem own : ownKnob Ybxm.prog.godebug = none := by kernel_rfl
theorem laidOut : laidOutB Ybxm.prog = true := by kernel_rfl

set_option maxRecDepth 100000 in
theorem lifted (os : Os) (started : os.Started) (H : Type) (enc : TypeId × Value → H) :
    ReturnsInHanded {} Ybxm.checked os 10 .any (Rows.lawS930016HPartsSpec.pre6 enc Ybxm.prog Ybxm.f10 Rows.lawS930016HPartsRow.domain false) (Rows.lawS930016HPartsSpec.post enc Ybxm.prog Ybxm.f10 false true false false) := by
  refine returnsInHanded_of_change (C := Ybxm.checked) own started (by kernel_rfl) Ybxm.func10
    (ChangeSpec.witness6 (enc := enc) (C := Ybxm.checked) false ⟨#[], #[.string ⟨#[]⟩], []⟩ 8 (by kernel_rfl) (by kernel_rfl) (by kernel_rfl) (by kernel_rfl)) ?_
  intro W base args ds gs before hval0 hW hcnd _
  have hval : ∀ (j : Nat) t v, Ybxm.f10.params[j]? = some t → args[j]? = some v → Value.okWide Ybxm.prog W .any base t v := hval0
  have hW' := hW
  obtain ⟨p, q, hA0, hV, rfl, hfz, hnd⟩ := hW
  have hA : DataW.TrodAll enc Ybxm.prog W 0 (fun _ => true) true Ybxm.f10.params.toList args.toList ds p := hA0
  rw [Ybxm.params10] at hA hval
  obtain ⟨v0, vs0, d0, ds0, p0, q0, hargs, rfl, rfl, h0, r0⟩ := trodAll_cons hA
  obtain ⟨rfl, rfl, rfl⟩ := trodAll_nil r0
  obtain rfl : args = #[v0] := by cases args; simp_all
  obtain ⟨rfl, rfl⟩ := trodVars_none hV
  obtain ⟨a0, rfl, rfl, rfl, w0⟩ := open_string Ybxm.underlying9 (hval 0 9 v0 rfl rfl) h0
  clear hA0 hval0
  simp only [List.append_nil] at hW'
  refine (HParts_walk a0 W w0).mono fun e W' ⟨he, bel⟩ => ?_
  subst he
  exact ⟨_, rfl, _, _, _, [], _, [], hW', trodAll_mk1 (shut_bool Ybxm.underlying4 _), (trodAll_cons_mk (shut_string Ybxm.underlying9 w0) trodAll_mk0), rfl, bel.frame _, fun h => by cases h⟩

theorem over : Rows.lawS930016HPartsRow.holds Ybxm.pinned (OpenSpec.ofChange Rows.lawS930016HPartsSpec) :=
  OpenClaim.holds_of_wide 10 Ybxm.f10 rfl rfl rfl rfl rfl rfl rfl ⟨rfl, rfl, rfl, rfl, rfl⟩ rfl rfl rfl rfl rfl (by kernel_rfl) Ybxm.func10 (by kernel_rfl)
    (of_decide_eq_true (by kernel_rfl)) (by unfold Func.isWrapper; first | (rw [if_pos (by decide +kernel)]; kernel_rfl) | (rw [if_neg (by decide +kernel)]; exact ⟨rfl, rfl⟩))
    (fun os started H enc _ => lifted os started H enc)

theorem proved : Rows.LawS930016HPartsSaid := over
end Go.Proofs.Ymbrbx.lawS930016HParts

/-
  No cell of these rows narrows 'for every input' (looked for: loops, veiled, ifaces, maps, wideKeys, modest, calm, conditions, laid).
  DERIVED. THE GIVEN ROWS OF THIS SEAT. 9 by the template 'for every input the law returns true; each argument reads behind the call as it read before'; 0 by the template 'total and deterministic' (their statements: YmbrbyTotals.lean).
  GIVEN WITH THE SEED: the statements are not yours to turn. If you find one false, say at which input.
  Laid BY PROGRAM, IN A SANDBOX (cutbox-rows.mjs): the forced cells as the released guide's own fill.sh prints them over the translation 9c36349f7e6e46cd… (all of the seat's roots in one cut). By AI agents, Wed Nov 11 2026. No macro, syntax, notation, axiom, sorry.
-/
import Derived.Test.YmbrbyChecked
import GoSem.Claim
import GoSem.ClaimJoined
import GoSem.ClaimMapViews
import Derived.JoinedTies
import Derived.KernelRfl
namespace Go.Proofs.Ymbrby
/- THE CELL 'sum', in the pinned program and in every row, IS THE sha256 OF THE DUMP (.gsa) THAT YmbrbyProg.lean LOADS. Nothing in Lean hashes anything: it is a label: what it is worth is what the hold of that sum in a sandbox is worth. -/
noncomputable def Ybym.pinned : Pinned := { name := "ymbrby", sum := "9c36349f7e6e46cd109d30f62d69c2355f57d17eb6c35bad32fb764236364662", checked := Ybym.checked }
namespace Rows
def none {H : Type} : Left H := { results := [], args := [] }

/-- 'stackvm.LawS930016IParsed': WHATEVER THE INPUT: true; the input reads as it did. -/
def lawS930016IParsedSpec : ChangeSpec := { name := "lawS930016IParsed", fn := fun _ => fun
  | [d1, d2] => { results := [.lit (.bool true)], args := [d1, d2] }
  | _ => none }
def lawS930016IParsedRow : OpenClaim := { program := "ymbrby", sum := "9c36349f7e6e46cd109d30f62d69c2355f57d17eb6c35bad32fb764236364662", func := "example.com/own/stackvm.LawS930016IParsed", spec := "lawS930016IParsed", apart := false }
def LawS930016IParsedSaid : Prop := lawS930016IParsedRow.holds Ybym.pinned (OpenSpec.ofChange lawS930016IParsedSpec)

/-- ITS FALSE NEIGHBOUR: 'it returns false'. Refute it at one input. -/
def lawS930016IParsedWrong : ChangeSpec := { name := "lawS930016IParsed", fn := fun _ => fun
  | [d1, d2] => { results := [.lit (.bool false)], args := [d1, d2] }
  | _ => none }
def LawS930016IParsedWrongFalsely : Prop := lawS930016IParsedRow.holds Ybym.pinned (OpenSpec.ofChange lawS930016IParsedWrong)

/-- 'stackvm.LawS930016JBuild': WHATEVER THE INPUT: true; the input reads as it did. -/
def lawS930016JBuildSpec : ChangeSpec := { name := "lawS930016JBuild", fn := fun _ => fun
  | [d1, d2] => { results := [.lit (.bool true)], args := [d1, d2] }
  | _ => none }
def lawS930016JBuildRow : OpenClaim := { program := "ymbrby", sum := "9c36349f7e6e46cd109d30f62d69c2355f57d17eb6c35bad32fb764236364662", func := "example.com/own/stackvm.LawS930016JBuild", spec := "lawS930016JBuild", apart := false }
def LawS930016JBuildSaid : Prop := lawS930016JBuildRow.holds Ybym.pinned (OpenSpec.ofChange lawS930016JBuildSpec)

/-- ITS FALSE NEIGHBOUR: 'it returns false'. Refute it at one input. -/
def lawS930016JBuildWrong : ChangeSpec := { name := "lawS930016JBuild", fn := fun _ => fun
  | [d1, d2] => { results := [.lit (.bool false)], args := [d1, d2] }
  | _ => none }
def LawS930016JBuildWrongFalsely : Prop := lawS930016JBuildRow.holds Ybym.pinned (OpenSpec.ofChange lawS930016JBuildWrong)

/-- 'stackvm.LawS930016JText': WHATEVER THE INPUT: true; the input reads as it did. -/
def lawS930016JTextSpec : ChangeSpec := { name := "lawS930016JText", fn := fun _ => fun
  | [d] => { results := [.lit (.bool true)], args := [d] }
  | _ => none }
def lawS930016JTextRow : OpenClaim := { program := "ymbrby", sum := "9c36349f7e6e46cd109d30f62d69c2355f57d17eb6c35bad32fb764236364662", func := "example.com/own/stackvm.LawS930016JText", spec := "lawS930016JText", apart := false }
def LawS930016JTextSaid : Prop := lawS930016JTextRow.holds Ybym.pinned (OpenSpec.ofChange lawS930016JTextSpec)

/-- ITS FALSE NEIGHBOUR: 'it returns false'. Refute it at one input. -/
def lawS930016JTextWrong : ChangeSpec := { name := "lawS930016JText", fn := fun _ => fun
  | [d] => { results := [.lit (.bool false)], args := [d] }
  | _ => none }
def LawS930016JTextWrongFalsely : Prop := lawS930016JTextRow.holds Ybym.pinned (OpenSpec.ofChange lawS930016JTextWrong)

/-- 'stackvm.LawS930016JConcat': WHATEVER THE INPUT: true; the input reads as it did. -/
def lawS930016JConcatSpec : ChangeSpec := { name := "lawS930016JConcat", fn := fun _ => fun
  | [d1, d2] => { results := [.lit (.bool true)], args := [d1, d2] }
  | _ => none }
def lawS930016JConcatRow : OpenClaim := { program := "ymbrby", sum := "9c36349f7e6e46cd109d30f62d69c2355f57d17eb6c35bad32fb764236364662", func := "example.com/own/stackvm.LawS930016JConcat", spec := "lawS930016JConcat", apart := false }
def LawS930016JConcatSaid : Prop := lawS930016JConcatRow.holds Ybym.pinned (OpenSpec.ofChange lawS930016JConcatSpec)

/-- ITS FALSE NEIGHBOUR: 'it returns false'. Refute it at one input. -/
def lawS930016JConcatWrong : ChangeSpec := { name := "lawS930016JConcat", fn := fun _ => fun
  | [d1, d2] => { results := [.lit (.bool false)], args := [d1, d2] }
  | _ => none }
def LawS930016JConcatWrongFalsely : Prop := lawS930016JConcatRow.holds Ybym.pinned (OpenSpec.ofChange lawS930016JConcatWrong)

/-- 'stackvm.LawS930016KTable': WHATEVER THE INPUT: true; the input reads as it did. -/
def lawS930016KTableSpec : ChangeSpec := { name := "lawS930016KTable", fn := fun _ => fun
  | [d] => { results := [.lit (.bool true)], args := [d] }
  | _ => none }
def lawS930016KTableRow : OpenClaim := { program := "ymbrby", sum := "9c36349f7e6e46cd109d30f62d69c2355f57d17eb6c35bad32fb764236364662", func := "example.com/own/stackvm.LawS930016KTable", spec := "lawS930016KTable", apart := false }
def LawS930016KTableSaid : Prop := lawS930016KTableRow.holds Ybym.pinned (OpenSpec.ofChange lawS930016KTableSpec)

/-- ITS FALSE NEIGHBOUR: 'it returns false'. Refute it at one input. -/
def lawS930016KTableWrong : ChangeSpec := { name := "lawS930016KTable", fn := fun _ => fun
  | [d] => { results := [.lit (.bool false)], args := [d] }
  | _ => none }
def LawS930016KTableWrongFalsely : Prop := lawS930016KTableRow.holds Ybym.pinned (OpenSpec.ofChange lawS930016KTableWrong)

/-- 'stackvm.LawS930016KRoundTrip': WHATEVER THE INPUT: true; the input reads as it did. -/
def lawS930016KRoundTripSpec : ChangeSpec := { name := "lawS930016KRoundTrip", fn := fun _ => fun
  | [d] => { results := [.lit (.bool true)], args := [d] }
  | _ => none }
def lawS930016KRoundTripRow : OpenClaim := { program := "ymbrby", sum := "9c36349f7e6e46cd109d30f62d69c2355f57d17eb6c35bad32fb764236364662", func := "example.com/own/stackvm.LawS930016KRoundTrip", spec := "lawS930016KRoundTrip", apart := false }
def LawS930016KRoundTripSaid : Prop := lawS930016KRoundTripRow.holds Ybym.pinned (OpenSpec.ofChange lawS930016KRoundTripSpec)

/-- ITS FALSE NEIGHBOUR: 'it returns false'. Refute it at one input. -/
def lawS930016KRoundTripWrong : ChangeSpec := { name := "lawS930016KRoundTrip", fn := fun _ => fun
  | [d] => { results := [.lit (.bool false)], args := [d] }
  | _ => none }
def LawS930016KRoundTripWrongFalsely : Prop := lawS930016KRoundTripRow.holds Ybym.pinned (OpenSpec.ofChange lawS930016KRoundTripWrong)

/-- 'stackvm.LawS930016KDistinct': WHATEVER THE INPUT: true; the input reads as it did. -/
def lawS930016KDistinctSpec : ChangeSpec := { name := "lawS930016KDistinct", fn := fun _ => fun
  | [d1, d2] => { results := [.lit (.bool true)], args := [d1, d2] }
  | _ => none }
def lawS930016KDistinctRow : OpenClaim := { program := "ymbrby", sum := "9c36349f7e6e46cd109d30f62d69c2355f57d17eb6c35bad32fb764236364662", func := "example.com/own/stackvm.LawS930016KDistinct", spec := "lawS930016KDistinct", apart := false }
def LawS930016KDistinctSaid : Prop := lawS930016KDistinctRow.holds Ybym.pinned (OpenSpec.ofChange lawS930016KDistinctSpec)

/-- ITS FALSE NEIGHBOUR: 'it returns false'. Refute it at one input. -/
def lawS930016KDistinctWrong : ChangeSpec := { name := "lawS930016KDistinct", fn := fun _ => fun
  | [d1, d2] => { results := [.lit (.bool false)], args := [d1, d2] }
  | _ => none }
def LawS930016KDistinctWrongFalsely : Prop := lawS930016KDistinctRow.holds Ybym.pinned (OpenSpec.ofChange lawS930016KDistinctWrong)

/-- 'stackvm.LawS930016LTable': WHATEVER THE INPUT: true; the input reads as it did. -/
def lawS930016LTableSpec : ChangeSpec := { name := "lawS930016LTable", fn := fun _ => fun
  | [d] => { results := [.lit (.bool true)], args := [d] }
  | _ => none }
def lawS930016LTableRow : OpenClaim := { program := "ymbrby", sum := "9c36349f7e6e46cd109d30f62d69c2355f57d17eb6c35bad32fb764236364662", func := "example.com/own/stackvm.LawS930016LTable", spec := "lawS930016LTable", apart := false }
def LawS930016LTableSaid : Prop := lawS930016LTableRow.holds Ybym.pinned (OpenSpec.ofChange lawS930016LTableSpec)

/-- ITS FALSE NEIGHBOUR: 'it returns false'. Refute it at one input. -/
def lawS930016LTableWrong : ChangeSpec := { name := "lawS930016LTable", fn := fun _ => fun
  | [d] => { results := [.lit (.bool false)], args := [d] }
  | _ => none }
def LawS930016LTableWrongFalsely : Prop := lawS930016LTableRow.holds Ybym.pinned (OpenSpec.ofChange lawS930016LTableWrong)

/-- 'stackvm.LawS930016LStep': WHATEVER THE INPUT: true; the input reads as it did. -/
def lawS930016LStepSpec : ChangeSpec := { name := "lawS930016LStep", fn := fun _ => fun
  | [d1, d2] => { results := [.lit (.bool true)], args := [d1, d2] }
  | _ => none }
def lawS930016LStepRow : OpenClaim := { program := "ymbrby", sum := "9c36349f7e6e46cd109d30f62d69c2355f57d17eb6c35bad32fb764236364662", func := "example.com/own/stackvm.LawS930016LStep", spec := "lawS930016LStep", apart := false }
def LawS930016LStepSaid : Prop := lawS930016LStepRow.holds Ybym.pinned (OpenSpec.ofChange lawS930016LStepSpec)

/-- ITS FALSE NEIGHBOUR: 'it returns false'. Refute it at one input. -/
def lawS930016LStepWrong : ChangeSpec := { name := "lawS930016LStep", fn := fun _ => fun
  | [d1, d2] => { results := [.lit (.bool false)], args := [d1, d2] }
  | _ => none }
def LawS930016LStepWrongFalsely : Prop := lawS930016LStepRow.holds Ybym.pinned (OpenSpec.ofChange lawS930016LStepWrong)

end Rows
end Go.Proofs.Ymbrby

/-
  No cell of these rows narrows 'for every input' (looked for: loops, veiled, ifaces, maps, wideKeys, modest, calm, conditions, laid).
  DERIVED. THE GIVEN ROWS OF THIS SEAT. 12 by the template 'for every input the law returns true; each argument reads behind the call as it read before'; 0 by the template 'total and deterministic' (their statements: YmbrbxTotals.lean).
  GIVEN WITH THE SEED: the statements are not yours to turn. If you find one false, say at which input.
  Laid BY PROGRAM, IN A SANDBOX (cutbox-rows.mjs): the forced cells as the released guide's own fill.sh prints them over the translation 118efca8f4b6f49d… (all of the seat's roots in one cut). By AI agents, Wed Nov 11 2026. No macro, syntax, notation, axiom, sorry.
-/
import Derived.Test.YmbrbxChecked
import GoSem.Claim
import GoSem.ClaimJoined
import GoSem.ClaimMapViews
import Derived.JoinedTies
import Derived.KernelRfl
namespace Go.Proofs.Ymbrbx
/- THE CELL 'sum', in the pinned program and in every row, IS THE sha256 OF THE DUMP (.gsa) THAT YmbrbxProg.lean LOADS. Nothing in Lean hashes anything: it is a label: what it is worth is what the hold of that sum in a sandbox is worth. -/
noncomputable def Ybxm.pinned : Pinned := { name := "ymbrbx", sum := "118efca8f4b6f49d700b90c34adac0af178fd261585c781ee7cdaf3246286b85", checked := Ybxm.checked }
namespace Rows
def none {H : Type} : Left H := { results := [], args := [] }

/-- 'stackvm.LawS930016EText': WHATEVER THE INPUT: true; the input reads as it did. -/
def lawS930016ETextSpec : ChangeSpec := { name := "lawS930016EText", fn := fun _ => fun
  | [d1, d2] => { results := [.lit (.bool true)], args := [d1, d2] }
  | _ => none }
def lawS930016ETextRow : OpenClaim := { program := "ymbrbx", sum := "118efca8f4b6f49d700b90c34adac0af178fd261585c781ee7cdaf3246286b85", func := "example.com/own/stackvm.LawS930016EText", spec := "lawS930016EText", apart := false }
def LawS930016ETextSaid : Prop := lawS930016ETextRow.holds Ybxm.pinned (OpenSpec.ofChange lawS930016ETextSpec)

/-- ITS FALSE NEIGHBOUR: 'it returns false'. Refute it at one input. -/
def lawS930016ETextWrong : ChangeSpec := { name := "lawS930016EText", fn := fun _ => fun
  | [d1, d2] => { results := [.lit (.bool false)], args := [d1, d2] }
  | _ => none }
def LawS930016ETextWrongFalsely : Prop := lawS930016ETextRow.holds Ybxm.pinned (OpenSpec.ofChange lawS930016ETextWrong)

/-- 'stackvm.LawS930016ERound': WHATEVER THE INPUT: true; the input reads as it did. -/
def lawS930016ERoundSpec : ChangeSpec := { name := "lawS930016ERound", fn := fun _ => fun
  | [d1, d2, d3] => { results := [.lit (.bool true)], args := [d1, d2, d3] }
  | _ => none }
def lawS930016ERoundRow : OpenClaim := { program := "ymbrbx", sum := "118efca8f4b6f49d700b90c34adac0af178fd261585c781ee7cdaf3246286b85", func := "example.com/own/stackvm.LawS930016ERound", spec := "lawS930016ERound", apart := false }
def LawS930016ERoundSaid : Prop := lawS930016ERoundRow.holds Ybxm.pinned (OpenSpec.ofChange lawS930016ERoundSpec)

/-- ITS FALSE NEIGHBOUR: 'it returns false'. Refute it at one input. -/
def lawS930016ERoundWrong : ChangeSpec := { name := "lawS930016ERound", fn := fun _ => fun
  | [d1, d2, d3] => { results := [.lit (.bool false)], args := [d1, d2, d3] }
  | _ => none }
def LawS930016ERoundWrongFalsely : Prop := lawS930016ERoundRow.holds Ybxm.pinned (OpenSpec.ofChange lawS930016ERoundWrong)

/-- 'stackvm.LawS930016FExact': WHATEVER THE INPUT: true; the input reads as it did. -/
def lawS930016FExactSpec : ChangeSpec := { name := "lawS930016FExact", fn := fun _ => fun
  | [d1, d2] => { results := [.lit (.bool true)], args := [d1, d2] }
  | _ => none }
def lawS930016FExactRow : OpenClaim := { program := "ymbrbx", sum := "118efca8f4b6f49d700b90c34adac0af178fd261585c781ee7cdaf3246286b85", func := "example.com/own/stackvm.LawS930016FExact", spec := "lawS930016FExact", apart := false }
def LawS930016FExactSaid : Prop := lawS930016FExactRow.holds Ybxm.pinned (OpenSpec.ofChange lawS930016FExactSpec)

/-- ITS FALSE NEIGHBOUR: 'it returns false'. Refute it at one input. -/
def lawS930016FExactWrong : ChangeSpec := { name := "lawS930016FExact", fn := fun _ => fun
  | [d1, d2] => { results := [.lit (.bool false)], args := [d1, d2] }
  | _ => none }
def LawS930016FExactWrongFalsely : Prop := lawS930016FExactRow.holds Ybxm.pinned (OpenSpec.ofChange lawS930016FExactWrong)

/-- 'stackvm.LawS930016FPaths': WHATEVER THE INPUT: true; the input reads as it did. -/
def lawS930016FPathsSpec : ChangeSpec := { name := "lawS930016FPaths", fn := fun _ => fun
  | [d1, d2] => { results := [.lit (.bool true)], args := [d1, d2] }
  | _ => none }
def lawS930016FPathsRow : OpenClaim := { program := "ymbrbx", sum := "118efca8f4b6f49d700b90c34adac0af178fd261585c781ee7cdaf3246286b85", func := "example.com/own/stackvm.LawS930016FPaths", spec := "lawS930016FPaths", apart := false }
def LawS930016FPathsSaid : Prop := lawS930016FPathsRow.holds Ybxm.pinned (OpenSpec.ofChange lawS930016FPathsSpec)

/-- ITS FALSE NEIGHBOUR: 'it returns false'. Refute it at one input. -/
def lawS930016FPathsWrong : ChangeSpec := { name := "lawS930016FPaths", fn := fun _ => fun
  | [d1, d2] => { results := [.lit (.bool false)], args := [d1, d2] }
  | _ => none }
def LawS930016FPathsWrongFalsely : Prop := lawS930016FPathsRow.holds Ybxm.pinned (OpenSpec.ofChange lawS930016FPathsWrong)

/-- 'stackvm.LawS930016GExact': WHATEVER THE INPUT: true; the input reads as it did. -/
def lawS930016GExactSpec : ChangeSpec := { name := "lawS930016GExact", fn := fun _ => fun
  | [d1, d2, d3, d4] => { results := [.lit (.bool true)], args := [d1, d2, d3, d4] }
  | _ => none }
def lawS930016GExactRow : OpenClaim := { program := "ymbrbx", sum := "118efca8f4b6f49d700b90c34adac0af178fd261585c781ee7cdaf3246286b85", func := "example.com/own/stackvm.LawS930016GExact", spec := "lawS930016GExact", apart := false }
def LawS930016GExactSaid : Prop := lawS930016GExactRow.holds Ybxm.pinned (OpenSpec.ofChange lawS930016GExactSpec)

/-- ITS FALSE NEIGHBOUR: 'it returns false'. Refute it at one input. -/
def lawS930016GExactWrong : ChangeSpec := { name := "lawS930016GExact", fn := fun _ => fun
  | [d1, d2, d3, d4] => { results := [.lit (.bool false)], args := [d1, d2, d3, d4] }
  | _ => none }
def LawS930016GExactWrongFalsely : Prop := lawS930016GExactRow.holds Ybxm.pinned (OpenSpec.ofChange lawS930016GExactWrong)

/-- 'stackvm.LawS930016GArith': WHATEVER THE INPUT: true; the input reads as it did. -/
def lawS930016GArithSpec : ChangeSpec := { name := "lawS930016GArith", fn := fun _ => fun
  | [d1, d2, d3, d4] => { results := [.lit (.bool true)], args := [d1, d2, d3, d4] }
  | _ => none }
def lawS930016GArithRow : OpenClaim := { program := "ymbrbx", sum := "118efca8f4b6f49d700b90c34adac0af178fd261585c781ee7cdaf3246286b85", func := "example.com/own/stackvm.LawS930016GArith", spec := "lawS930016GArith", apart := false }
def LawS930016GArithSaid : Prop := lawS930016GArithRow.holds Ybxm.pinned (OpenSpec.ofChange lawS930016GArithSpec)

/-- ITS FALSE NEIGHBOUR: 'it returns false'. Refute it at one input. -/
def lawS930016GArithWrong : ChangeSpec := { name := "lawS930016GArith", fn := fun _ => fun
  | [d1, d2, d3, d4] => { results := [.lit (.bool false)], args := [d1, d2, d3, d4] }
  | _ => none }
def LawS930016GArithWrongFalsely : Prop := lawS930016GArithRow.holds Ybxm.pinned (OpenSpec.ofChange lawS930016GArithWrong)

/-- 'stackvm.LawS930016GJump': WHATEVER THE INPUT: true; the input reads as it did. -/
def lawS930016GJumpSpec : ChangeSpec := { name := "lawS930016GJump", fn := fun _ => fun
  | [d1, d2, d3] => { results := [.lit (.bool true)], args := [d1, d2, d3] }
  | _ => none }
def lawS930016GJumpRow : OpenClaim := { program := "ymbrbx", sum := "118efca8f4b6f49d700b90c34adac0af178fd261585c781ee7cdaf3246286b85", func := "example.com/own/stackvm.LawS930016GJump", spec := "lawS930016GJump", apart := false }
def LawS930016GJumpSaid : Prop := lawS930016GJumpRow.holds Ybxm.pinned (OpenSpec.ofChange lawS930016GJumpSpec)

/-- ITS FALSE NEIGHBOUR: 'it returns false'. Refute it at one input. -/
def lawS930016GJumpWrong : ChangeSpec := { name := "lawS930016GJump", fn := fun _ => fun
  | [d1, d2, d3] => { results := [.lit (.bool false)], args := [d1, d2, d3] }
  | _ => none }
def LawS930016GJumpWrongFalsely : Prop := lawS930016GJumpRow.holds Ybxm.pinned (OpenSpec.ofChange lawS930016GJumpWrong)

/-- 'stackvm.LawS930016HParts': WHATEVER THE INPUT: true; the input reads as it did. -/
def lawS930016HPartsSpec : ChangeSpec := { name := "lawS930016HParts", fn := fun _ => fun
  | [d] => { results := [.lit (.bool true)], args := [d] }
  | _ => none }
def lawS930016HPartsRow : OpenClaim := { program := "ymbrbx", sum := "118efca8f4b6f49d700b90c34adac0af178fd261585c781ee7cdaf3246286b85", func := "example.com/own/stackvm.LawS930016HParts", spec := "lawS930016HParts", apart := false }
def LawS930016HPartsSaid : Prop := lawS930016HPartsRow.holds Ybxm.pinned (OpenSpec.ofChange lawS930016HPartsSpec)

/-- ITS FALSE NEIGHBOUR: 'it returns false'. Refute it at one input. -/
def lawS930016HPartsWrong : ChangeSpec := { name := "lawS930016HParts", fn := fun _ => fun
  | [d] => { results := [.lit (.bool false)], args := [d] }
  | _ => none }
def LawS930016HPartsWrongFalsely : Prop := lawS930016HPartsRow.holds Ybxm.pinned (OpenSpec.ofChange lawS930016HPartsWrong)

/-- 'stackvm.LawS930016HBuilt': WHATEVER THE INPUT: true; the input reads as it did. -/
def lawS930016HBuiltSpec : ChangeSpec := { name := "lawS930016HBuilt", fn := fun _ => fun
  | [d1, d2, d3, d4, d5] => { results := [.lit (.bool true)], args := [d1, d2, d3, d4, d5] }
  | _ => none }
def lawS930016HBuiltRow : OpenClaim := { program := "ymbrbx", sum := "118efca8f4b6f49d700b90c34adac0af178fd261585c781ee7cdaf3246286b85", func := "example.com/own/stackvm.LawS930016HBuilt", spec := "lawS930016HBuilt", apart := false }
def LawS930016HBuiltSaid : Prop := lawS930016HBuiltRow.holds Ybxm.pinned (OpenSpec.ofChange lawS930016HBuiltSpec)

/-- ITS FALSE NEIGHBOUR: 'it returns false'. Refute it at one input. -/
def lawS930016HBuiltWrong : ChangeSpec := { name := "lawS930016HBuilt", fn := fun _ => fun
  | [d1, d2, d3, d4, d5] => { results := [.lit (.bool false)], args := [d1, d2, d3, d4, d5] }
  | _ => none }
def LawS930016HBuiltWrongFalsely : Prop := lawS930016HBuiltRow.holds Ybxm.pinned (OpenSpec.ofChange lawS930016HBuiltWrong)

/-- 'stackvm.LawS930016HAllFields': WHATEVER THE INPUT: true; the input reads as it did. -/
def lawS930016HAllFieldsSpec : ChangeSpec := { name := "lawS930016HAllFields", fn := fun _ => fun
  | [d] => { results := [.lit (.bool true)], args := [d] }
  | _ => none }
def lawS930016HAllFieldsRow : OpenClaim := { program := "ymbrbx", sum := "118efca8f4b6f49d700b90c34adac0af178fd261585c781ee7cdaf3246286b85", func := "example.com/own/stackvm.LawS930016HAllFields", spec := "lawS930016HAllFields", apart := false }
def LawS930016HAllFieldsSaid : Prop := lawS930016HAllFieldsRow.holds Ybxm.pinned (OpenSpec.ofChange lawS930016HAllFieldsSpec)

/-- ITS FALSE NEIGHBOUR: 'it returns false'. Refute it at one input. -/
def lawS930016HAllFieldsWrong : ChangeSpec := { name := "lawS930016HAllFields", fn := fun _ => fun
  | [d] => { results := [.lit (.bool false)], args := [d] }
  | _ => none }
def LawS930016HAllFieldsWrongFalsely : Prop := lawS930016HAllFieldsRow.holds Ybxm.pinned (OpenSpec.ofChange lawS930016HAllFieldsWrong)

/-- 'stackvm.LawS930016ITable': WHATEVER THE INPUT: true; the input reads as it did. -/
def lawS930016ITableSpec : ChangeSpec := { name := "lawS930016ITable", fn := fun _ => fun
  | [d1, d2] => { results := [.lit (.bool true)], args := [d1, d2] }
  | _ => none }
def lawS930016ITableRow : OpenClaim := { program := "ymbrbx", sum := "118efca8f4b6f49d700b90c34adac0af178fd261585c781ee7cdaf3246286b85", func := "example.com/own/stackvm.LawS930016ITable", spec := "lawS930016ITable", apart := false }
def LawS930016ITableSaid : Prop := lawS930016ITableRow.holds Ybxm.pinned (OpenSpec.ofChange lawS930016ITableSpec)

/-- ITS FALSE NEIGHBOUR: 'it returns false'. Refute it at one input. -/
def lawS930016ITableWrong : ChangeSpec := { name := "lawS930016ITable", fn := fun _ => fun
  | [d1, d2] => { results := [.lit (.bool false)], args := [d1, d2] }
  | _ => none }
def LawS930016ITableWrongFalsely : Prop := lawS930016ITableRow.holds Ybxm.pinned (OpenSpec.ofChange lawS930016ITableWrong)

/-- 'stackvm.LawS930016INamed': WHATEVER THE INPUT: true; the input reads as it did. -/
def lawS930016INamedSpec : ChangeSpec := { name := "lawS930016INamed", fn := fun _ => fun
  | [d1, d2, d3] => { results := [.lit (.bool true)], args := [d1, d2, d3] }
  | _ => none }
def lawS930016INamedRow : OpenClaim := { program := "ymbrbx", sum := "118efca8f4b6f49d700b90c34adac0af178fd261585c781ee7cdaf3246286b85", func := "example.com/own/stackvm.LawS930016INamed", spec := "lawS930016INamed", apart := false }
def LawS930016INamedSaid : Prop := lawS930016INamedRow.holds Ybxm.pinned (OpenSpec.ofChange lawS930016INamedSpec)

/-- ITS FALSE NEIGHBOUR: 'it returns false'. Refute it at one input. -/
def lawS930016INamedWrong : ChangeSpec := { name := "lawS930016INamed", fn := fun _ => fun
  | [d1, d2, d3] => { results := [.lit (.bool false)], args := [d1, d2, d3] }
  | _ => none }
def LawS930016INamedWrongFalsely : Prop := lawS930016INamedRow.holds Ybxm.pinned (OpenSpec.ofChange lawS930016INamedWrong)

end Rows
end Go.Proofs.Ymbrbx

/-
  No cell of these rows narrows 'for every input' (looked for: loops, veiled, ifaces, maps, wideKeys, modest, calm, conditions, laid).
  DERIVED. THE GIVEN ROWS OF THIS SEAT. 12 by the template 'for every input the law returns true; each argument reads behind the call as it read before'; 0 by the template 'total and deterministic' (their statements: YmbrbwTotals.lean).
  GIVEN WITH THE SEED: the statements are not yours to turn. If you find one false, say at which input.
  Laid BY PROGRAM, IN A SANDBOX (cutbox-rows.mjs): the forced cells as the released guide's own fill.sh prints them over the translation e396b09d1f5bcdaf… (all of the seat's roots in one cut). By AI agents, Wed Nov 11 2026. No macro, syntax, notation, axiom, sorry.
-/
import Derived.Test.YmbrbwChecked
import GoSem.Claim
import GoSem.ClaimJoined
import GoSem.ClaimMapViews
import Derived.JoinedTies
import Derived.KernelRfl
namespace Go.Proofs.Ymbrbw
/- THE CELL 'sum', in the pinned program and in every row, IS THE sha256 OF THE DUMP (.gsa) THAT YmbrbwProg.lean LOADS. Nothing in Lean hashes anything: it is a label: what it is worth is what the hold of that sum in a sandbox is worth. -/
noncomputable def Ybwm.pinned : Pinned := { name := "ymbrbw", sum := "e396b09d1f5bcdafa1442506320cc193b34f1bc2dec42b4433173b727d06050e", checked := Ybwm.checked }
namespace Rows
def none {H : Type} : Left H := { results := [], args := [] }

/-- 'stackvm.LawS930016AExact': WHATEVER THE INPUT: true; the input reads as it did. -/
def lawS930016AExactSpec : ChangeSpec := { name := "lawS930016AExact", fn := fun _ => fun
  | [d] => { results := [.lit (.bool true)], args := [d] }
  | _ => none }
def lawS930016AExactRow : OpenClaim := { program := "ymbrbw", sum := "e396b09d1f5bcdafa1442506320cc193b34f1bc2dec42b4433173b727d06050e", func := "example.com/own/stackvm.LawS930016AExact", spec := "lawS930016AExact", apart := false }
def LawS930016AExactSaid : Prop := lawS930016AExactRow.holds Ybwm.pinned (OpenSpec.ofChange lawS930016AExactSpec)

/-- ITS FALSE NEIGHBOUR: 'it returns false'. Refute it at one input. -/
def lawS930016AExactWrong : ChangeSpec := { name := "lawS930016AExact", fn := fun _ => fun
  | [d] => { results := [.lit (.bool false)], args := [d] }
  | _ => none }
def LawS930016AExactWrongFalsely : Prop := lawS930016AExactRow.holds Ybwm.pinned (OpenSpec.ofChange lawS930016AExactWrong)

/-- 'stackvm.LawS930016ARoundTrip': WHATEVER THE INPUT: true; the input reads as it did. -/
def lawS930016ARoundTripSpec : ChangeSpec := { name := "lawS930016ARoundTrip", fn := fun _ => fun
  | [d] => { results := [.lit (.bool true)], args := [d] }
  | _ => none }
def lawS930016ARoundTripRow : OpenClaim := { program := "ymbrbw", sum := "e396b09d1f5bcdafa1442506320cc193b34f1bc2dec42b4433173b727d06050e", func := "example.com/own/stackvm.LawS930016ARoundTrip", spec := "lawS930016ARoundTrip", apart := false }
def LawS930016ARoundTripSaid : Prop := lawS930016ARoundTripRow.holds Ybwm.pinned (OpenSpec.ofChange lawS930016ARoundTripSpec)

/-- ITS FALSE NEIGHBOUR: 'it returns false'. Refute it at one input. -/
def lawS930016ARoundTripWrong : ChangeSpec := { name := "lawS930016ARoundTrip", fn := fun _ => fun
  | [d] => { results := [.lit (.bool false)], args := [d] }
  | _ => none }
def LawS930016ARoundTripWrongFalsely : Prop := lawS930016ARoundTripRow.holds Ybwm.pinned (OpenSpec.ofChange lawS930016ARoundTripWrong)

/-- 'stackvm.LawS930016AWhole': WHATEVER THE INPUT: true; the input reads as it did. -/
def lawS930016AWholeSpec : ChangeSpec := { name := "lawS930016AWhole", fn := fun _ => fun
  | [d1, d2, d3] => { results := [.lit (.bool true)], args := [d1, d2, d3] }
  | _ => none }
def lawS930016AWholeRow : OpenClaim := { program := "ymbrbw", sum := "e396b09d1f5bcdafa1442506320cc193b34f1bc2dec42b4433173b727d06050e", func := "example.com/own/stackvm.LawS930016AWhole", spec := "lawS930016AWhole", apart := false }
def LawS930016AWholeSaid : Prop := lawS930016AWholeRow.holds Ybwm.pinned (OpenSpec.ofChange lawS930016AWholeSpec)

/-- ITS FALSE NEIGHBOUR: 'it returns false'. Refute it at one input. -/
def lawS930016AWholeWrong : ChangeSpec := { name := "lawS930016AWhole", fn := fun _ => fun
  | [d1, d2, d3] => { results := [.lit (.bool false)], args := [d1, d2, d3] }
  | _ => none }
def LawS930016AWholeWrongFalsely : Prop := lawS930016AWholeRow.holds Ybwm.pinned (OpenSpec.ofChange lawS930016AWholeWrong)

/-- 'stackvm.LawS930016BModel': WHATEVER THE INPUT: true; the input reads as it did. -/
def lawS930016BModelSpec : ChangeSpec := { name := "lawS930016BModel", fn := fun _ => fun
  | [d] => { results := [.lit (.bool true)], args := [d] }
  | _ => none }
def lawS930016BModelRow : OpenClaim := { program := "ymbrbw", sum := "e396b09d1f5bcdafa1442506320cc193b34f1bc2dec42b4433173b727d06050e", func := "example.com/own/stackvm.LawS930016BModel", spec := "lawS930016BModel", apart := false }
def LawS930016BModelSaid : Prop := lawS930016BModelRow.holds Ybwm.pinned (OpenSpec.ofChange lawS930016BModelSpec)

/-- ITS FALSE NEIGHBOUR: 'it returns false'. Refute it at one input. -/
def lawS930016BModelWrong : ChangeSpec := { name := "lawS930016BModel", fn := fun _ => fun
  | [d] => { results := [.lit (.bool false)], args := [d] }
  | _ => none }
def LawS930016BModelWrongFalsely : Prop := lawS930016BModelRow.holds Ybwm.pinned (OpenSpec.ofChange lawS930016BModelWrong)

/-- 'stackvm.LawS930016BPieces': WHATEVER THE INPUT: true; the input reads as it did. -/
def lawS930016BPiecesSpec : ChangeSpec := { name := "lawS930016BPieces", fn := fun _ => fun
  | [d1, d2] => { results := [.lit (.bool true)], args := [d1, d2] }
  | _ => none }
def lawS930016BPiecesRow : OpenClaim := { program := "ymbrbw", sum := "e396b09d1f5bcdafa1442506320cc193b34f1bc2dec42b4433173b727d06050e", func := "example.com/own/stackvm.LawS930016BPieces", spec := "lawS930016BPieces", apart := false }
def LawS930016BPiecesSaid : Prop := lawS930016BPiecesRow.holds Ybwm.pinned (OpenSpec.ofChange lawS930016BPiecesSpec)

/-- ITS FALSE NEIGHBOUR: 'it returns false'. Refute it at one input. -/
def lawS930016BPiecesWrong : ChangeSpec := { name := "lawS930016BPieces", fn := fun _ => fun
  | [d1, d2] => { results := [.lit (.bool false)], args := [d1, d2] }
  | _ => none }
def LawS930016BPiecesWrongFalsely : Prop := lawS930016BPiecesRow.holds Ybwm.pinned (OpenSpec.ofChange lawS930016BPiecesWrong)

/-- 'stackvm.LawS930016BBuilt': WHATEVER THE INPUT: true; the input reads as it did. -/
def lawS930016BBuiltSpec : ChangeSpec := { name := "lawS930016BBuilt", fn := fun _ => fun
  | [d1, d2, d3, d4, d5, d6, d7] => { results := [.lit (.bool true)], args := [d1, d2, d3, d4, d5, d6, d7] }
  | _ => none }
def lawS930016BBuiltRow : OpenClaim := { program := "ymbrbw", sum := "e396b09d1f5bcdafa1442506320cc193b34f1bc2dec42b4433173b727d06050e", func := "example.com/own/stackvm.LawS930016BBuilt", spec := "lawS930016BBuilt", apart := false }
def LawS930016BBuiltSaid : Prop := lawS930016BBuiltRow.holds Ybwm.pinned (OpenSpec.ofChange lawS930016BBuiltSpec)

/-- ITS FALSE NEIGHBOUR: 'it returns false'. Refute it at one input. -/
def lawS930016BBuiltWrong : ChangeSpec := { name := "lawS930016BBuilt", fn := fun _ => fun
  | [d1, d2, d3, d4, d5, d6, d7] => { results := [.lit (.bool false)], args := [d1, d2, d3, d4, d5, d6, d7] }
  | _ => none }
def LawS930016BBuiltWrongFalsely : Prop := lawS930016BBuiltRow.holds Ybwm.pinned (OpenSpec.ofChange lawS930016BBuiltWrong)

/-- 'stackvm.LawS930016CExact': WHATEVER THE INPUT: true; the input reads as it did. -/
def lawS930016CExactSpec : ChangeSpec := { name := "lawS930016CExact", fn := fun _ => fun
  | [d1, d2] => { results := [.lit (.bool true)], args := [d1, d2] }
  | _ => none }
def lawS930016CExactRow : OpenClaim := { program := "ymbrbw", sum := "e396b09d1f5bcdafa1442506320cc193b34f1bc2dec42b4433173b727d06050e", func := "example.com/own/stackvm.LawS930016CExact", spec := "lawS930016CExact", apart := false }
def LawS930016CExactSaid : Prop := lawS930016CExactRow.holds Ybwm.pinned (OpenSpec.ofChange lawS930016CExactSpec)

/-- ITS FALSE NEIGHBOUR: 'it returns false'. Refute it at one input. -/
def lawS930016CExactWrong : ChangeSpec := { name := "lawS930016CExact", fn := fun _ => fun
  | [d1, d2] => { results := [.lit (.bool false)], args := [d1, d2] }
  | _ => none }
def LawS930016CExactWrongFalsely : Prop := lawS930016CExactRow.holds Ybwm.pinned (OpenSpec.ofChange lawS930016CExactWrong)

/-- 'stackvm.LawS930016CRoundTrip': WHATEVER THE INPUT: true; the input reads as it did. -/
def lawS930016CRoundTripSpec : ChangeSpec := { name := "lawS930016CRoundTrip", fn := fun _ => fun
  | [d] => { results := [.lit (.bool true)], args := [d] }
  | _ => none }
def lawS930016CRoundTripRow : OpenClaim := { program := "ymbrbw", sum := "e396b09d1f5bcdafa1442506320cc193b34f1bc2dec42b4433173b727d06050e", func := "example.com/own/stackvm.LawS930016CRoundTrip", spec := "lawS930016CRoundTrip", apart := false }
def LawS930016CRoundTripSaid : Prop := lawS930016CRoundTripRow.holds Ybwm.pinned (OpenSpec.ofChange lawS930016CRoundTripSpec)

/-- ITS FALSE NEIGHBOUR: 'it returns false'. Refute it at one input. -/
def lawS930016CRoundTripWrong : ChangeSpec := { name := "lawS930016CRoundTrip", fn := fun _ => fun
  | [d] => { results := [.lit (.bool false)], args := [d] }
  | _ => none }
def LawS930016CRoundTripWrongFalsely : Prop := lawS930016CRoundTripRow.holds Ybwm.pinned (OpenSpec.ofChange lawS930016CRoundTripWrong)

/-- 'stackvm.LawS930016CConcat': WHATEVER THE INPUT: true; the input reads as it did. -/
def lawS930016CConcatSpec : ChangeSpec := { name := "lawS930016CConcat", fn := fun _ => fun
  | [d1, d2, d3, d4] => { results := [.lit (.bool true)], args := [d1, d2, d3, d4] }
  | _ => none }
def lawS930016CConcatRow : OpenClaim := { program := "ymbrbw", sum := "e396b09d1f5bcdafa1442506320cc193b34f1bc2dec42b4433173b727d06050e", func := "example.com/own/stackvm.LawS930016CConcat", spec := "lawS930016CConcat", apart := false }
def LawS930016CConcatSaid : Prop := lawS930016CConcatRow.holds Ybwm.pinned (OpenSpec.ofChange lawS930016CConcatSpec)

/-- ITS FALSE NEIGHBOUR: 'it returns false'. Refute it at one input. -/
def lawS930016CConcatWrong : ChangeSpec := { name := "lawS930016CConcat", fn := fun _ => fun
  | [d1, d2, d3, d4] => { results := [.lit (.bool false)], args := [d1, d2, d3, d4] }
  | _ => none }
def LawS930016CConcatWrongFalsely : Prop := lawS930016CConcatRow.holds Ybwm.pinned (OpenSpec.ofChange lawS930016CConcatWrong)

/-- 'stackvm.LawS930016DReads': WHATEVER THE INPUT: true; the input reads as it did. -/
def lawS930016DReadsSpec : ChangeSpec := { name := "lawS930016DReads", fn := fun _ => fun
  | [d] => { results := [.lit (.bool true)], args := [d] }
  | _ => none }
def lawS930016DReadsRow : OpenClaim := { program := "ymbrbw", sum := "e396b09d1f5bcdafa1442506320cc193b34f1bc2dec42b4433173b727d06050e", func := "example.com/own/stackvm.LawS930016DReads", spec := "lawS930016DReads", apart := false }
def LawS930016DReadsSaid : Prop := lawS930016DReadsRow.holds Ybwm.pinned (OpenSpec.ofChange lawS930016DReadsSpec)

/-- ITS FALSE NEIGHBOUR: 'it returns false'. Refute it at one input. -/
def lawS930016DReadsWrong : ChangeSpec := { name := "lawS930016DReads", fn := fun _ => fun
  | [d] => { results := [.lit (.bool false)], args := [d] }
  | _ => none }
def LawS930016DReadsWrongFalsely : Prop := lawS930016DReadsRow.holds Ybwm.pinned (OpenSpec.ofChange lawS930016DReadsWrong)

/-- 'stackvm.LawS930016DWrites': WHATEVER THE INPUT: true; the input reads as it did. -/
def lawS930016DWritesSpec : ChangeSpec := { name := "lawS930016DWrites", fn := fun _ => fun
  | [d1, d2] => { results := [.lit (.bool true)], args := [d1, d2] }
  | _ => none }
def lawS930016DWritesRow : OpenClaim := { program := "ymbrbw", sum := "e396b09d1f5bcdafa1442506320cc193b34f1bc2dec42b4433173b727d06050e", func := "example.com/own/stackvm.LawS930016DWrites", spec := "lawS930016DWrites", apart := false }
def LawS930016DWritesSaid : Prop := lawS930016DWritesRow.holds Ybwm.pinned (OpenSpec.ofChange lawS930016DWritesSpec)

/-- ITS FALSE NEIGHBOUR: 'it returns false'. Refute it at one input. -/
def lawS930016DWritesWrong : ChangeSpec := { name := "lawS930016DWrites", fn := fun _ => fun
  | [d1, d2] => { results := [.lit (.bool false)], args := [d1, d2] }
  | _ => none }
def LawS930016DWritesWrongFalsely : Prop := lawS930016DWritesRow.holds Ybwm.pinned (OpenSpec.ofChange lawS930016DWritesWrong)

/-- 'stackvm.LawS930016EExact': WHATEVER THE INPUT: true; the input reads as it did. -/
def lawS930016EExactSpec : ChangeSpec := { name := "lawS930016EExact", fn := fun _ => fun
  | [d] => { results := [.lit (.bool true)], args := [d] }
  | _ => none }
def lawS930016EExactRow : OpenClaim := { program := "ymbrbw", sum := "e396b09d1f5bcdafa1442506320cc193b34f1bc2dec42b4433173b727d06050e", func := "example.com/own/stackvm.LawS930016EExact", spec := "lawS930016EExact", apart := false }
def LawS930016EExactSaid : Prop := lawS930016EExactRow.holds Ybwm.pinned (OpenSpec.ofChange lawS930016EExactSpec)

/-- ITS FALSE NEIGHBOUR: 'it returns false'. Refute it at one input. -/
def lawS930016EExactWrong : ChangeSpec := { name := "lawS930016EExact", fn := fun _ => fun
  | [d] => { results := [.lit (.bool false)], args := [d] }
  | _ => none }
def LawS930016EExactWrongFalsely : Prop := lawS930016EExactRow.holds Ybwm.pinned (OpenSpec.ofChange lawS930016EExactWrong)

end Rows
end Go.Proofs.Ymbrbw

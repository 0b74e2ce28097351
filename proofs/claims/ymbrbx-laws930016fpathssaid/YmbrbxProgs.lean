import Derived.Test.YmbrbxSlices
import Derived.Test.YmbrbxWellFormed
import Derived.Test.YmbrbxOpName
import Derived.Test.YmbrbxCDec
namespace Go.Proofs.Ymbrbx
open Go.ChangeShapes Go.WideShapes Go.ChangeAt Go.RowKit
set_option linter.unusedVariables false
set_option linter.unusedSimpArgs false

/-! ### A program in memory: its instructions as pairs (opcode, argument) -/
def okI (q : Int × Int) : Prop := (0 ≤ q.1 ∧ q.1 ≤ 255) ∧ (-2147483648 ≤ q.2 ∧ q.2 ≤ 2147483647)
def ProgIn (w : World) (a : Option Addr) (P : List (Int × Int)) : Prop :=
  P.length = 0 ∨ ∃ b off, a = some ⟨b, off, none⟩ ∧ b < w.heap.size ∧ ∀ j, (h : j < P.length) → w.cell? ⟨b, off + j * 2, none⟩ = some (.int .u8 P[j].1) ∧ w.cell? ⟨b, off + j * 2 + 1, none⟩ = some (.int .i32 P[j].2)
theorem recs_prog {w : World} {a : Option Addr} {n : Nat} (h : RecsAt w a n) : ∃ P : List (Int × Int), P.length = n ∧ (∀ q ∈ P, okI q) ∧ ProgIn w a P := by
  rcases h.2 with h | ⟨b, off, h1, h2, O, A, h3⟩
  · exact ⟨[], by rw [h]; rfl, by simp, .inl rfl⟩
  · refine ⟨(List.range n).map fun j => (O j, A j), by simp, ?_, .inr ⟨b, off, h1, h2, ?_⟩⟩
    · intro q hq
      obtain ⟨j, hj, rfl⟩ := List.mem_map.1 hq
      have := h3 j (List.mem_range.1 hj)
      exact ⟨this.2.2.1, this.2.2.2⟩
    · intro j hj
      have hj' : j < n := by simpa using hj
      have := h3 j hj'
      simp only [List.getElem_map, List.getElem_range]
      exact ⟨this.1, this.2.1⟩
theorem ProgIn.below {w w' : World} {a : Option Addr} {P : List (Int × Int)} {B : Nat} (h : ProgIn w a P) (hb : Below B w w') (hB : w.heap.size ≤ B) : ProgIn w' a P := by
  rcases h with h | ⟨b, off, h1, h2, h3⟩
  · exact .inl h
  · refine .inr ⟨b, off, h1, Nat.lt_of_lt_of_le h2 hb.size, fun j hj => ?_⟩
    rw [hb.cell (p := ⟨b, off + j * 2, none⟩) (by show b < B; omega), hb.cell (p := ⟨b, off + j * 2 + 1, none⟩) (by show b < B; omega)]
    exact h3 j hj

/-! ### The line that stands for an instruction -/
def lineOf (q : Int × Int) : List UInt8 :=
  if q.1 = 0 ∨ q.1 = 7 then (opName q.1).data.toList ++ (32 :: fmtI q.2) ++ [10] else if q.1 < 8 ∧ q.2 = 0 then (opName q.1).data.toList ++ [10] else []
theorem fmtI_len (n : Int) (h1 : -2147483648 ≤ n) (h2 : n ≤ 2147483647) : (fmtI n).length ≤ 11 := by
  have h := dec_len 9 n.natAbs (by omega)
  unfold fmtI
  split
  · rw [List.length_cons]; omega
  · omega
theorem lineOf_len (q : Int × Int) (h : okI q) : (lineOf q).length ≤ 17 := by
  have h1 := opName_size q.1
  have h2 := fmtI_len q.2 h.2.1 h.2.2
  have h3 : (opName q.1).data.toList.length = (opName q.1).size := rfl
  unfold lineOf
  split
  · simp only [List.length_append, List.length_cons, List.length_nil]; omega
  · split
    · simp only [List.length_append, List.length_cons, List.length_nil]; omega
    · simp
theorem lineOf_ne (q : Int × Int) : lineOf q = [] ↔ wfI q.1 q.2 = false := by
  unfold lineOf wfI
  by_cases h : q.1 = 0 ∨ q.1 = 7
  · rw [if_pos h, decide_eq_true (by omega)]
    constructor
    · intro h; simp at h
    · intro h; cases h
  · rw [if_neg h]
    by_cases h2 : q.1 < 8 ∧ q.2 = 0
    · rw [if_pos h2, decide_eq_true (by omega)]
      constructor
      · intro h; simp at h
      · intro h; cases h
    · rw [if_neg h2, decide_eq_false (by omega)]
      exact ⟨fun _ => rfl, fun _ => rfl⟩

def textOf (P : List (Int × Int)) : List UInt8 := P.flatMap lineOf
theorem textOf_len : ∀ (P : List (Int × Int)), (∀ q ∈ P, okI q) → (textOf P).length ≤ 17 * P.length
  | [], _ => by simp [textOf]
  | q :: P, h => by
    have h1 := lineOf_len q (h q (by simp))
    have h2 := textOf_len P (fun q hq => h q (by simp [hq]))
    unfold textOf at h2 ⊢
    rw [List.flatMap_cons, List.length_append, List.length_cons]
    omega
theorem textOf_take (P : List (Int × Int)) (k : Nat) (h : k < P.length) : textOf (P.take (k + 1)) = textOf (P.take k) ++ lineOf P[k] := by
  unfold textOf
  rw [List.take_succ_eq_append_getElem h, List.flatMap_append]
  simp
end Go.Proofs.Ymbrbx

import Derived.Test.YmbrbyParseSpec
namespace Go.Proofs.Ymbrby
open Go.ChangeShapes Go.WideShapes Go.ChangeAt Go.RowKit
set_option linter.unusedVariables false
set_option linter.unusedSimpArgs false

/-- Zeros, then the decimal text. -/
def zdec (m z : Nat) : List UInt8 := List.replicate z 48 ++ dec m
def edec (n : Int) (z : Nat) : List UInt8 := if n < 0 then 45 :: zdec n.natAbs z else zdec n.natAbs z

theorem zdec_dig (m z : Nat) : ∀ c ∈ zdec m z, isDig c := by
  intro c hc
  unfold zdec at hc
  rw [List.mem_append] at hc
  rcases hc with hc | hc
  · rw [(List.mem_replicate.1 hc).2]
    unfold isDig
    decide
  · exact dec_dig m c hc
theorem val_zeros (z : Nat) (l : List UInt8) : val (List.replicate z 48 ++ l) = val l := by
  have h : ∀ z : Nat, List.foldl (fun v (c : UInt8) => v * 10 + (c.toNat - 48)) 0 (List.replicate z 48) = 0 := by
    intro z
    induction z with
    | zero => rfl
    | succ z ih =>
      rw [List.replicate_succ, List.foldl_cons]
      exact ih
  unfold val
  rw [List.foldl_append, h]
theorem zdec_val (m z : Nat) : val (zdec m z) = m := by
  unfold zdec
  rw [val_zeros, dec_val]
theorem zdec_len (m z : Nat) : (zdec m z).length = z + (dec m).length := by
  unfold zdec
  rw [List.length_append, List.length_replicate]
theorem zdec_ne (m z : Nat) : zdec m z ≠ [] := by
  intro h
  have := congrArg List.length h
  rw [zdec_len] at this
  have h2 := dec_ne m
  rw [List.length_nil] at this
  omega
theorem parseB_zdec (neg : Bool) (m z : Nat) : parseB neg (zdec m z) = if m ≤ limN neg then ((if neg then -(m : Int) else (m : Int)), true) else (0, false) := by
  by_cases h : m ≤ limN neg
  · rw [if_pos h, parseB_ok neg _ (zdec_ne m z) (zdec_dig m z) (by rw [zdec_val]; exact h), zdec_val]
  · rw [if_neg h]
    exact parseB_big neg _ (by rw [zdec_val]; omega)
/-- What is written is read back if it lies in int32, else refused. -/
theorem parse_edec (n : Int) (z : Nat) : parseI (edec n z) = if -2147483648 ≤ n ∧ n ≤ 2147483647 then (n, true) else (0, false) := by
  unfold edec parseI
  by_cases hn : n < 0
  · rw [if_pos hn, List.head?_cons, if_pos rfl, List.tail_cons, parseB_zdec]
    show (if n.natAbs ≤ 2147483648 then (-(n.natAbs : Int), true) else (0, false)) = _
    by_cases h : n.natAbs ≤ 2147483648
    · rw [if_pos h, if_pos (by omega), show -(n.natAbs : Int) = n from by omega]
    · rw [if_neg h, if_neg (by omega)]
  · rw [if_neg hn]
    have hh : ¬ (zdec n.natAbs z).head? = some 45 := by
      intro h
      have := zdec_dig n.natAbs z 45 (List.mem_of_head? h)
      unfold isDig at this
      exact absurd this (by decide)
    rw [if_neg hh, parseB_zdec]
    show (if n.natAbs ≤ 2147483647 then ((n.natAbs : Int), true) else (0, false)) = _
    by_cases h : n.natAbs ≤ 2147483647
    · rw [if_pos h, if_pos (by omega), show (n.natAbs : Int) = n from by omega]
    · rw [if_neg h, if_neg (by omega)]
theorem dec_len13 (m : Nat) (h : m < 10000000000000) : (dec m).length ≤ 13 := dec_len 12 m (by omega)

end Go.Proofs.Ymbrby

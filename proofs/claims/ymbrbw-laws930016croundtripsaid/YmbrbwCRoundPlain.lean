import Derived.Test.YmbrbwAssemble
import Derived.Test.YmbrbwBBuiltPlain
import Derived.Test.YmbrbwCDec
namespace Go.Proofs.Ymbrbw
open Go.ChangeShapes Go.WideShapes Go.ChangeAt Go.RowKit
set_option linter.unusedVariables false
set_option linter.unusedSimpArgs false

/-! ### The plain law: the text of well-formed instructions is read back as they are -/
def bodyOf (q : Int × Int) : List UInt8 := if q.1 = 0 ∨ q.1 = 7 then (opName q.1).data.toList ++ (32 :: fmtI q.2) else (opName q.1).data.toList
theorem fmtI_edec (n : Int) : fmtI n = edec n 0 := rfl
theorem line_body (q : Int × Int) (hw : wfI q.1 q.2 = true) : lineOf q = bodyOf q ++ [10] := by
  unfold lineOf bodyOf
  by_cases h : q.1 = 0 ∨ q.1 = 7
  · rw [if_pos h, if_pos h]
  · rw [if_neg h, if_neg h]
    unfold wfI at hw
    have := of_decide_eq_true hw
    rw [if_pos (by omega)]
theorem body_parse (q : Int × Int) (ho : okI q) (hw : wfI q.1 q.2 = true) : parseL (bodyOf q) = (q.1, q.2, 1) := by
  obtain ⟨a, n⟩ := q
  unfold okI at ho
  unfold wfI at hw
  have hw' := of_decide_eq_true hw
  dsimp only at ho hw'
  have ha : a = ((a.toNat : Nat) : Int) := by omega
  obtain ⟨k, hk⟩ : ∃ k, k = a.toNat := ⟨_, rfl⟩
  rw [← hk] at ha
  clear hk hw
  subst ha
  obtain ⟨h1, h2, h3⟩ := name_facts k (by omega)
  unfold bodyOf
  dsimp only
  by_cases h : (k : Int) = 0 ∨ (k : Int) = 7
  · rw [if_pos h, fmtI_edec]
    obtain ⟨d1, d2⟩ := edec_facts n 0
    have c1 := cutF_of [] (opName k).data.toList (32 :: edec n 0) (by simp) h1 (.inr ⟨32, edec n 0, rfl, by decide⟩) (fun h => absurd h h2)
    have c2 := cutF_of [32] (edec n 0) [] (fun c hc => by rw [List.mem_singleton.1 hc]; decide) d1 (.inl rfl) (fun h => absurd h d2)
    rw [List.nil_append] at c1
    rw [List.append_nil] at c2
    rw [show [32] ++ edec n 0 = 32 :: edec n 0 from rfl] at c2
    unfold parseL
    rw [c1]
    dsimp only
    rw [if_neg h2, h3]
    dsimp only
    rw [if_neg (by intro h; cases h), if_pos h, c2]
    dsimp only
    rw [parse_edec, if_pos ho.2, if_neg (by intro h; cases h), if_pos (by decide)]
  · rw [if_neg h]
    have c1 := cutF_of [] (opName k).data.toList [] (by simp) h1 (.inl rfl) (fun _ => rfl)
    rw [List.nil_append, List.append_nil] at c1
    unfold parseL
    rw [c1]
    dsimp only
    rw [if_neg h2, h3]
    dsimp only
    rw [if_neg (by intro h; cases h), if_neg h, if_pos (by decide), show n = 0 from by omega]
theorem edec_ten (n : Int) (z : Nat) : ∀ c ∈ edec n z, ¬ c = 10 := by
  have hd : ∀ c, isDig c → ¬ c = 10 := by
    intro c hc e
    unfold isDig at hc
    rw [e] at hc
    revert hc
    decide
  unfold edec
  split
  · intro c hc
    rcases List.mem_cons.1 hc with h | h
    · rw [h]; decide
    · exact hd c (zdec_dig _ _ c h)
  · exact fun c hc => hd c (zdec_dig _ _ c hc)
theorem name_ten : ∀ k : Nat, k < 8 → ∀ c ∈ (opName k).data.toList, ¬ c = 10 := by decide +kernel
theorem body_ten (q : Int × Int) (ho : okI q) (hw : wfI q.1 q.2 = true) : ∀ c ∈ bodyOf q, ¬ c = 10 := by
  obtain ⟨a, n⟩ := q
  unfold okI at ho
  unfold wfI at hw
  have hw' := of_decide_eq_true hw
  dsimp only at ho hw'
  have ha : a = ((a.toNat : Nat) : Int) := by omega
  have hn := name_ten a.toNat (by omega)
  rw [← ha] at hn
  unfold bodyOf
  dsimp only
  intro c hc
  split at hc
  · rcases List.mem_append.1 hc with h | h
    · exact hn c h
    · rcases List.mem_cons.1 h with h | h
      · rw [h]; decide
      · exact edec_ten n 0 c h
  · exact hn c hc
theorem linesOf_app : ∀ (b t : List UInt8), (∀ c ∈ b, ¬ c = 10) → linesOf (b ++ 10 :: t) = b :: linesOf t
  | [], t, _ => by show (if (10 : UInt8) = 10 then _ else _) = _; rw [if_pos rfl]
  | c :: b, t, h => by
    show (if c = 10 then _ else onto [c] (linesOf (b ++ 10 :: t))) = _
    rw [if_neg (h c (by simp)), linesOf_app b t (fun c hc => h c (by simp [hc]))]
    rfl
theorem linesOf_text : ∀ (Q : List (Int × Int)), (∀ q ∈ Q, okI q) → (∀ q ∈ Q, wfI q.1 q.2 = true) → linesOf (textOf Q) = Q.map bodyOf ++ [[]]
  | [], _, _ => rfl
  | q :: Q, ho, hw => by
    have ih := linesOf_text Q (fun q hq => ho q (by simp [hq])) (fun q hq => hw q (by simp [hq]))
    unfold textOf at ih ⊢
    rw [List.flatMap_cons, line_body q (hw q (by simp)), List.append_assoc, List.singleton_append, linesOf_app _ _ (body_ten q (ho q (by simp)) (hw q (by simp))), ih]
    rfl
theorem asm_bodies : ∀ (Q : List (Int × Int)) (n : Int) (acc : List (Int × Int)), (∀ q ∈ Q, okI q) → (∀ q ∈ Q, wfI q.1 q.2 = true) → asmLs (Q.map bodyOf ++ [[]]) n acc = (acc ++ Q, 0)
  | [], n, acc, _, _ => by
    have h0 : parseL [] = (0, 0, 0) := by decide
    show (if (parseL []).2.2 = 2 then _ else _) = _
    rw [h0, if_neg (by decide), if_neg (by decide), List.append_nil]
    rfl
  | q :: Q, n, acc, ho, hw => by
    show (if (parseL (bodyOf q)).2.2 = 2 then _ else asmLs (Q.map bodyOf ++ [[]]) (n + 1) (if (parseL (bodyOf q)).2.2 = 1 then acc ++ [((parseL (bodyOf q)).1, (parseL (bodyOf q)).2.1)] else acc)) = _
    rw [body_parse q (ho q (by simp)) (hw q (by simp))]
    dsimp only
    rw [if_neg (by decide), if_pos rfl, asm_bodies Q (n + 1) _ (fun q hq => ho q (by simp [hq])) (fun q hq => hw q (by simp [hq])), List.append_assoc]
    rfl
theorem asm_text (Q : List (Int × Int)) (ho : ∀ q ∈ Q, okI q) (hw : ∀ q ∈ Q, wfI q.1 q.2 = true) : asmT (textOf Q) = (Q, 0) := by
  unfold asmT
  rw [linesOf_text Q ho hw, asm_bodies Q 1 [] ho hw, List.nil_append]
end Go.Proofs.Ymbrbw

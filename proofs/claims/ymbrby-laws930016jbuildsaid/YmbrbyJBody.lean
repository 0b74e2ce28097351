import Derived.Test.YmbrbyJDec
namespace Go.Proofs.Ymbrby
open Go.ChangeShapes Go.WideShapes Go.ChangeAt Go.RowKit
set_option linter.unusedVariables false
set_option linter.unusedSimpArgs false

/-! ### The plain law: the lines written are read back -/
def bodyJ (q : JL) : List UInt8 :=
  if q.kind % 8 = 5 then jbadL q.pad
  else if q.kind % 8 = 3 ∨ q.kind % 8 = 7 then jblankL q.pad
  else if q.op % 8 = 0 ∨ q.op % 8 = 7 then jblankL q.pad ++ (opName (q.op % 8)).data.toList ++ [32] ++ jblankL (q.pad / 3) ++ fmtI q.arg ++ jblankL (q.pad / 9)
  else jblankL q.pad ++ (opName (q.op % 8)).data.toList ++ jblankL (q.pad / 9)
theorem jblankL_cases (k : Int) : jblankL k = [] ∨ jblankL k = [32] ∨ jblankL k = [9, 32] := by
  unfold jblankL
  repeat' split
  · exact .inl rfl
  · exact .inr (.inl rfl)
  · exact .inr (.inr rfl)
theorem jbadL_cases (k : Int) : jbadL k = [110, 111, 112] ∨ jbadL k = [112, 117, 115, 104] ∨ jbadL k = [112, 111, 112, 32, 49] ∨ jbadL k = [112, 117, 115, 104, 32, 50, 49, 52, 55, 52, 56, 51, 54, 52, 56] ∨ jbadL k = [106, 110, 122, 32, 43, 49] := by
  unfold jbadL
  repeat' split
  · exact .inl rfl
  · exact .inr (.inl rfl)
  · exact .inr (.inr (.inl rfl))
  · exact .inr (.inr (.inr (.inl rfl)))
  · exact .inr (.inr (.inr (.inr rfl)))
theorem jblank_blk (k : Int) : ∀ c ∈ jblankL k, blk c = true := by
  rcases jblankL_cases k with h | h | h <;> rw [h] <;> decide
theorem jblank_ten (k : Int) : ∀ c ∈ jblankL k, ¬ c = 10 := by
  rcases jblankL_cases k with h | h | h <;> rw [h] <;> decide
theorem jblank_len (k : Int) : (jblankL k).length ≤ 2 := by
  rcases jblankL_cases k with h | h | h <;> rw [h] <;> decide
theorem jblank_parse (k : Int) : parseL (jblankL k) = (0, 0, 0) := by
  rcases jblankL_cases k with h | h | h <;> rw [h] <;> decide +kernel
theorem jbad_ten (k : Int) : ∀ c ∈ jbadL k, ¬ c = 10 := by
  rcases jbadL_cases k with h | h | h | h | h <;> rw [h] <;> decide
theorem jbad_len (k : Int) : (jbadL k).length ≤ 15 := by
  rcases jbadL_cases k with h | h | h | h | h <;> rw [h] <;> decide
theorem jbad_parse (k : Int) : parseL (jbadL k) = (0, 0, 2) := by
  rcases jbadL_cases k with h | h | h | h | h <;> rw [h] <;> decide +kernel
theorem num32 (L M T : List UInt8) (k : Nat) (n : Int) (z : Nat) (hk : k = 0 ∨ k = 7) (hL : ∀ c ∈ L, blk c = true) (hM : ∀ c ∈ M, blk c = true) (hT : ∀ c ∈ T, blk c = true) (hn : -2147483648 ≤ n ∧ n ≤ 2147483647) :
    parseL (L ++ (opName k).data.toList ++ [32] ++ M ++ edec n z ++ T) = ((k : Int), n, 1) := by
  obtain ⟨h1, h2, h3⟩ := name_facts k (by omega)
  obtain ⟨d1, d2⟩ := edec_facts n z
  have hx : Ext [] := .inl rfl
  have c1 := cutF_of L (opName k).data.toList ((32 :: M) ++ (edec n z ++ (T ++ []))) hL h1 (.inr ⟨32, M ++ (edec n z ++ (T ++ [])), rfl, by decide⟩) (fun h => absurd h h2)
  have c2 := cutF_of (32 :: M) (edec n z) (T ++ []) (fun c hc => (List.mem_cons.1 hc).elim (fun h => by rw [h]; decide) (fun h => hM c h)) d1 (tail_head T [] hT hx) (fun h => absurd h d2)
  have c3 := tail_cut T [] hT hx
  rw [show L ++ (opName k).data.toList ++ [32] ++ M ++ edec n z ++ T = L ++ ((opName k).data.toList ++ ((32 :: M) ++ (edec n z ++ (T ++ [])))) from by simp]
  unfold parseL
  rw [c1]
  dsimp only
  rw [if_neg h2, h3]
  dsimp only
  rw [if_neg (by intro h; cases h), if_pos (by omega), c2]
  dsimp only
  rw [parse_edec, if_pos hn, if_neg (by intro h; cases h), if_pos (c3.2 rfl)]
theorem edec_no10 (n : Int) (z : Nat) : ∀ c ∈ edec n z, ¬ c = 10 := by
  have hd : ∀ c, isDig c → ¬ c = 10 := by
    intro c hc e
    unfold isDig at hc
    rw [e] at hc
    revert hc
    decide
  unfold edec
  split
  · intro c hc
    rcases List.mem_cons.1 hc with h | h
    · rw [h]; decide
    · exact hd c (zdec_dig _ _ c h)
  · exact fun c hc => hd c (zdec_dig _ _ c hc)
theorem name_no10 : ∀ k : Nat, k < 8 → ∀ c ∈ (opName k).data.toList, ¬ c = 10 := by decide +kernel
theorem app_no10 {a b : List UInt8} (ha : ∀ c ∈ a, ¬ c = 10) (hb : ∀ c ∈ b, ¬ c = 10) : ∀ c ∈ a ++ b, ¬ c = 10 := fun c hc => (List.mem_append.1 hc).elim (ha c) (hb c)
theorem op_nat (x : Int) (h : 0 ≤ x) : ∃ k : Nat, k < 8 ∧ x % 8 = (k : Int) := ⟨(x % 8).toNat, by omega, by omega⟩
theorem bodyJ_no10 (q : JL) (h : okJ q) : ∀ c ∈ bodyJ q, ¬ c = 10 := by
  obtain ⟨k, hk, ek⟩ := op_nat q.op h.2.1.1
  have hn := name_no10 k hk
  unfold bodyJ
  rw [ek]
  split
  · exact jbad_ten _
  · split
    · exact jblank_ten _
    · split
      · exact app_no10 (app_no10 (app_no10 (app_no10 (app_no10 (jblank_ten _) hn) (by decide)) (jblank_ten _)) (edec_no10 q.arg 0)) (jblank_ten _)
      · exact app_no10 (app_no10 (jblank_ten _) hn) (jblank_ten _)
theorem bodyJ_len (q : JL) (h : okJ q) : (bodyJ q).length ≤ 22 := by
  have h1 := opName_size (q.op % 8)
  have h2 := fmtI_len q.arg h.2.2.1.1 h.2.2.1.2
  have h3 : (opName (q.op % 8)).data.toList.length = (opName (q.op % 8)).size := rfl
  have h4 := jblank_len q.pad
  have h5 := jblank_len (q.pad / 3)
  have h6 := jblank_len (q.pad / 9)
  have h7 := jbad_len q.pad
  unfold bodyJ
  repeat' split
  all_goals (try simp only [List.length_append, List.length_cons, List.length_nil])
  all_goals omega
theorem bodyJ_bad (q : JL) (h5 : q.kind % 8 = 5) : bodyJ q = jbadL q.pad := by unfold bodyJ; rw [if_pos h5]
theorem bodyJ_blank (q : JL) (h3 : q.kind % 8 = 3 ∨ q.kind % 8 = 7) : bodyJ q = jblankL q.pad := by unfold bodyJ; rw [if_neg (by omega), if_pos h3]
theorem bodyJ_num (q : JL) (h5 : ¬ q.kind % 8 = 5) (h3 : ¬ (q.kind % 8 = 3 ∨ q.kind % 8 = 7)) (h0 : q.op % 8 = 0 ∨ q.op % 8 = 7) :
    bodyJ q = jblankL q.pad ++ (opName (q.op % 8)).data.toList ++ [32] ++ jblankL (q.pad / 3) ++ fmtI q.arg ++ jblankL (q.pad / 9) := by unfold bodyJ; rw [if_neg h5, if_neg h3, if_pos h0]
theorem bodyJ_plain (q : JL) (h5 : ¬ q.kind % 8 = 5) (h3 : ¬ (q.kind % 8 = 3 ∨ q.kind % 8 = 7)) (h0 : ¬ (q.op % 8 = 0 ∨ q.op % 8 = 7)) :
    bodyJ q = jblankL q.pad ++ (opName (q.op % 8)).data.toList ++ jblankL (q.pad / 9) := by unfold bodyJ; rw [if_neg h5, if_neg h3, if_neg h0]
theorem parse_num (q : JL) (h : okJ q) (h5 : ¬ q.kind % 8 = 5) (h3 : ¬ (q.kind % 8 = 3 ∨ q.kind % 8 = 7)) (h0 : q.op % 8 = 0 ∨ q.op % 8 = 7) : parseL (bodyJ q) = (q.op % 8, q.arg, 1) := by
  obtain ⟨k, hk, ek⟩ := op_nat q.op h.2.1.1
  rw [bodyJ_num q h5 h3 h0, show fmtI q.arg = edec q.arg 0 from rfl, ek]
  exact num32 (jblankL q.pad) (jblankL (q.pad / 3)) (jblankL (q.pad / 9)) k q.arg 0 (by omega) (jblank_blk _) (jblank_blk _) (jblank_blk _) h.2.2.1
theorem parse_plain (q : JL) (h : okJ q) (h5 : ¬ q.kind % 8 = 5) (h3 : ¬ (q.kind % 8 = 3 ∨ q.kind % 8 = 7)) (h0 : ¬ (q.op % 8 = 0 ∨ q.op % 8 = 7)) : parseL (bodyJ q) = (q.op % 8, 0, 1) := by
  obtain ⟨k, hk, ek⟩ := op_nat q.op h.2.1.1
  rw [bodyJ_plain q h5 h3 h0, ek]
  have hb := built_plain (jblankL q.pad) (jblankL (q.pad / 9)) [] k (by omega) (by omega) (jblank_blk _) (jblank_blk _) (.inl rfl)
  rw [List.append_nil, if_pos rfl] at hb
  exact hb

/-! ### Lines put together -/
def joinB : List (List UInt8) → List UInt8
  | [] => []
  | h :: t => h ++ t.flatMap (fun x => 10 :: x)
theorem joinB_snoc (L : List (List UInt8)) (x : List UInt8) (h : L ≠ []) : joinB (L ++ [x]) = joinB L ++ [10] ++ x := by
  cases L with
  | nil => exact absurd rfl h
  | cons a b =>
    show a ++ (b ++ [x]).flatMap _ = a ++ b.flatMap _ ++ [10] ++ x
    rw [List.flatMap_append]
    simp
theorem joinB_one (x : List UInt8) : joinB ([] ++ [x]) = x := by
  show x ++ [] = x
  rw [List.append_nil]
theorem lines_flat : ∀ L : List (List UInt8), (∀ x ∈ L, ∀ c ∈ x, ¬ c = 10) → ∀ a : List UInt8, (∀ c ∈ a, ¬ c = 10) → linesOf (a ++ L.flatMap (fun x => 10 :: x)) = a :: L
  | [], _, a, ha => by
    show linesOf (a ++ []) = _
    rw [List.append_nil, linesOf_one a ha]
  | x :: L, h, a, ha => by
    rw [List.flatMap_cons, List.cons_append, linesOf_join, linesOf_one a ha, lines_flat L (fun y hy => h y (by simp [hy])) x (h x (by simp))]
    rfl
theorem lines_joinB (L : List (List UInt8)) (h : ∀ x ∈ L, ∀ c ∈ x, ¬ c = 10) : linesOf (joinB L) = if L = [] then [[]] else L := by
  cases L with
  | nil => rfl
  | cons a b =>
    rw [if_neg (by intro h; cases h)]
    exact lines_flat b (fun y hy => h y (by simp [hy])) a (h a (by simp))
theorem insOf_app : ∀ A B : List (List UInt8), insOf (A ++ B) = insOf A ++ insOf B
  | [], B => rfl
  | h :: A, B => by
    show (if (parseL h).2.2 = 1 then _ :: insOf (A ++ B) else insOf (A ++ B)) = (if (parseL h).2.2 = 1 then _ :: insOf A else insOf A) ++ insOf B
    rw [insOf_app A B]
    split <;> rfl
theorem badAt_app : ∀ (A B : List (List UInt8)) (n : Int), 1 ≤ n → badAt (A ++ B) n = if badAt A n = 0 then badAt B (n + A.length) else badAt A n
  | [], B, n, _ => by
    show badAt B n = if (0 : Int) = 0 then badAt B (n + 0) else _
    rw [if_pos rfl, Int.add_zero]
  | h :: A, B, n, hn => by
    show (if (parseL h).2.2 = 2 then n else badAt (A ++ B) (n + 1)) = if (if (parseL h).2.2 = 2 then n else badAt A (n + 1)) = 0 then _ else (if (parseL h).2.2 = 2 then n else badAt A (n + 1))
    split
    · rw [if_neg (by omega)]
    · rw [badAt_app A B (n + 1) (by omega), List.length_cons]
      rw [show (n + 1 + (A.length : Int)) = n + ((A.length + 1 : Nat) : Int) from by omega]
theorem blank_line : insOf [[]] = [] ∧ ∀ n, badAt [[]] n = 0 := by
  have h0 : parseL [] = (0, 0, 0) := by decide
  refine ⟨?_, fun n => ?_⟩
  · show (if (parseL []).2.2 = 1 then _ else insOf []) = _
    rw [h0, if_neg (by decide)]
    rfl
  · show (if (parseL []).2.2 = 2 then n else badAt [] (n + 1)) = _
    rw [h0, if_neg (by decide)]
    rfl
theorem insOf_snoc (A : List (List UInt8)) (x : List UInt8) (o a k : Int) (h : parseL x = (o, a, k)) : insOf (A ++ [x]) = if k = 1 then insOf A ++ [(o, a)] else insOf A := by
  rw [insOf_app]
  show insOf A ++ (if (parseL x).2.2 = 1 then ((parseL x).1, (parseL x).2.1) :: insOf [] else insOf []) = _
  rw [h]
  dsimp only
  split
  · rfl
  · exact List.append_nil _
theorem badAt_snoc (A : List (List UInt8)) (x : List UInt8) (o a k : Int) (h : parseL x = (o, a, k)) : badAt (A ++ [x]) 1 = if badAt A 1 = 0 then (if k = 2 then 1 + (A.length : Int) else 0) else badAt A 1 := by
  rw [badAt_app A [x] 1 (by omega)]
  show (if badAt A 1 = 0 then (if (parseL x).2.2 = 2 then _ else badAt [] _) else _) = _
  rw [h]
  rfl
/-- What Assemble makes of the text of lines L, with or without a final newline. -/
theorem asm_joinB (L : List (List UInt8)) (h : ∀ x ∈ L, ∀ c ∈ x, ¬ c = 10) (fin : Bool) : asmT (if fin then joinB L ++ [10] else joinB L) = if badAt L 1 = 0 then (insOf L, 0) else ([], badAt L 1) := by
  have hb : ∀ n, 1 ≤ n → badAt (L ++ [[]]) n = badAt L n := by
    intro n hn
    rw [badAt_app L _ n hn, blank_line.2]
    split
    · omega
    · rfl
  have hi : insOf (L ++ [[]]) = insOf L := by rw [insOf_app, blank_line.1, List.append_nil]
  have h1 : insOf (linesOf (joinB L)) = insOf L ∧ badAt (linesOf (joinB L)) 1 = badAt L 1 := by
    rw [lines_joinB L h]
    split
    · rename_i e
      subst e
      exact ⟨blank_line.1, blank_line.2 1⟩
    · exact ⟨rfl, rfl⟩
  rw [asmT_is]
  cases fin with
  | false =>
    show (if badAt (linesOf (joinB L)) 1 = 0 then (insOf (linesOf (joinB L)), (0 : Int)) else ([], badAt (linesOf (joinB L)) 1)) = _
    rw [h1.1, h1.2]
  | true =>
    show (if badAt (linesOf (joinB L ++ [10])) 1 = 0 then (insOf (linesOf (joinB L ++ [10])), (0 : Int)) else ([], badAt (linesOf (joinB L ++ [10])) 1)) = _
    have e : linesOf (joinB L ++ [10]) = linesOf (joinB L) ++ [[]] := linesOf_join _ _
    have hb2 : badAt (linesOf (joinB L) ++ [[]]) 1 = badAt (linesOf (joinB L)) 1 := by
      rw [badAt_app _ _ 1 (by omega), blank_line.2]
      split
      · omega
      · rfl
    rw [e, hb2, insOf_app, blank_line.1, List.append_nil, h1.1, h1.2]
end Go.Proofs.Ymbrby

import Derived.Test.YmbrbyGState
namespace Go.Proofs.Ymbrby
open Go.ChangeShapes Go.WideShapes Go.ChangeAt Go.RowKit
set_option linter.unusedVariables false
set_option linter.unusedSimpArgs false

/-! ### One step on a stack of zeros and ones -/
def bits (B : Nat → Bool) (k : Nat) : List Int := (List.range k).map fun j => if B j then 1 else 0
theorem bits_len (B : Nat → Bool) (k : Nat) : k = (bits B k).length := by simp [bits]
theorem bits_succ (B : Nat → Bool) (k : Nat) : bits B (k + 1) = bits B k ++ [if B k then 1 else 0] := by simp [bits, List.range_succ]
theorem bits_at (B : Nat → Bool) (n j : Nat) (h : j < n) : (bits B n)[j]? = some (if B j then 1 else 0) := by simp [bits, h]
theorem bits_rng (B : Nat → Bool) (n : Nat) : ∀ x ∈ bits B n, -2147483648 ≤ x ∧ x ≤ 2147483647 := by
  intro x hx
  unfold bits at hx
  obtain ⟨j, _, rfl⟩ := List.mem_map.1 hx
  split <;> omega
/-- What the step has to do: the new stack has the length foretold, and below the popped values it is the old one. -/
structure LOut (op : Int) (S : List Int) (ans pc' : Int) (kn un : Nat) (st' : List Int) : Prop where
  stp : ∀ ar w0 base bp g w, GS ar w0 base bp 1 [(op, 0)] g w 0 S → GStep ar w0 base bp 1 [(op, 0)] g w ans pc' st'
  len : kn + un = st'.length
  low : ∀ j, j < kn → st'[j]? = S[j]?
theorem last1 (S : List Int) (k : Nat) (h : S.length = k + 1) : ∃ l x, S = l ++ [x] ∧ l.length = k := by
  obtain ⟨l, x, rfl⟩ := List.eq_nil_or_concat S |>.resolve_left (by intro e; subst e; simp at h)
  exact ⟨l, x, by simp, by simpa using h⟩
theorem last2 (S : List Int) (k : Nat) (h : S.length = k + 2) : ∃ l y x, S = l ++ [y, x] ∧ l.length = k := by
  obtain ⟨l, x, rfl, h1⟩ := last1 S (k + 1) (by omega)
  obtain ⟨l', y, rfl, h2⟩ := last1 l k h1
  exact ⟨l', y, x, by simp, h2⟩
theorem lout_same (op : Int) (S : List Int) (n : Nat) (hn : n = S.length) (ans : Int) (h : ∀ ar w0 base bp g w, GS ar w0 base bp 1 [(op, 0)] g w 0 S → GStep ar w0 base bp 1 [(op, 0)] g w ans 0 S) : LOut op S ans 0 n 0 S := ⟨h, by omega, fun _ _ => rfl⟩
theorem lout_badop (op : Int) (S : List Int) (n : Nat) (hn : n = S.length) (h8 : 8 ≤ op) : LOut op S 3 0 n 0 S :=
  lout_same op S n hn 3 fun ar w0 base bp g w h => h.badop (k := 0) (by omega) rfl h8
theorem lout_under (op : Int) (S : List Int) (n : Nat) (hn : n = S.length) (hn1 : n ≤ 1024) (h8 : 0 ≤ op ∧ op < 8) (hu : (n : Int) < effPops op) : LOut op S 2 0 n 0 S :=
  lout_same op S n hn 2 fun ar w0 base bp g w h => h.under (k := 0) (by omega) rfl h8 (by omega) (by omega)
theorem lout_push (S : List Int) (k : Nat) (hn : S.length = k) (hk : k ≤ 1024) (hr : ∀ x ∈ S, -2147483648 ≤ x ∧ x ≤ 2147483647) : ∃ pc' st', LOut 0 S 0 pc' k 1 st' := by
  have hl := hn
  exact ⟨1, S ++ [0], fun ar w0 base bp g w h => h.push (k := 0) (by omega) rfl (by omega) , by simp; omega, fun j hj => by first | rfl | exact List.getElem?_append_left (by omega) | exact (List.getElem?_append_left (by omega)).symm | (rw [List.getElem?_append_left (by omega), List.getElem?_append_left (by omega)])⟩
theorem lout_pop (S : List Int) (k : Nat) (hn : S.length = k + 1) (hk : k ≤ 1024) (hr : ∀ x ∈ S, -2147483648 ≤ x ∧ x ≤ 2147483647) : ∃ pc' st', LOut 1 S 0 pc' k 0 st' := by
  obtain ⟨l, x, rfl, hl⟩ := last1 S k hn
  exact ⟨1, l, fun ar w0 base bp g w h => h.pop (k := 0) (by omega) rfl (by omega) (hr x (by simp)), by simp; omega, fun j hj => by first | rfl | exact List.getElem?_append_left (by omega) | exact (List.getElem?_append_left (by omega)).symm | (rw [List.getElem?_append_left (by omega), List.getElem?_append_left (by omega)])⟩
theorem lout_dup (S : List Int) (k : Nat) (hn : S.length = k + 1) (hk : k ≤ 1024) (hr : ∀ x ∈ S, -2147483648 ≤ x ∧ x ≤ 2147483647) : ∃ pc' st', LOut 2 S 0 pc' k 2 st' := by
  obtain ⟨l, x, rfl, hl⟩ := last1 S k hn
  exact ⟨1, l ++ [x, x], fun ar w0 base bp g w h => h.dup (k := 0) (by omega) rfl (by omega) (hr x (by simp)), by simp; omega, fun j hj => by first | rfl | exact List.getElem?_append_left (by omega) | exact (List.getElem?_append_left (by omega)).symm | (rw [List.getElem?_append_left (by omega), List.getElem?_append_left (by omega)])⟩
theorem lout_swap (S : List Int) (k : Nat) (hn : S.length = k + 2) (hk : k ≤ 1024) (hr : ∀ x ∈ S, -2147483648 ≤ x ∧ x ≤ 2147483647) : ∃ pc' st', LOut 3 S 0 pc' k 2 st' := by
  obtain ⟨l, y, x, rfl, hl⟩ := last2 S k hn
  exact ⟨1, l ++ [x, y], fun ar w0 base bp g w h => h.swap (k := 0) (by omega) rfl (by omega) (hr x (by simp)) (hr y (by simp)), by simp; omega, fun j hj => by first | rfl | exact List.getElem?_append_left (by omega) | exact (List.getElem?_append_left (by omega)).symm | (rw [List.getElem?_append_left (by omega), List.getElem?_append_left (by omega)])⟩
theorem lout_add (S : List Int) (k : Nat) (hn : S.length = k + 2) (hk : k ≤ 1024) (hr : ∀ x ∈ S, -2147483648 ≤ x ∧ x ≤ 2147483647) : ∃ pc' st', LOut 4 S 0 pc' k 1 st' := by
  obtain ⟨l, y, x, rfl, hl⟩ := last2 S k hn
  exact ⟨1, l ++ [RowKit.wrap32 (y + x)], fun ar w0 base bp g w h => h.add (k := 0) (by omega) rfl (by omega) (hr x (by simp)) (hr y (by simp)), by simp; omega, fun j hj => by first | rfl | exact List.getElem?_append_left (by omega) | exact (List.getElem?_append_left (by omega)).symm | (rw [List.getElem?_append_left (by omega), List.getElem?_append_left (by omega)])⟩
theorem lout_sub (S : List Int) (k : Nat) (hn : S.length = k + 2) (hk : k ≤ 1024) (hr : ∀ x ∈ S, -2147483648 ≤ x ∧ x ≤ 2147483647) : ∃ pc' st', LOut 5 S 0 pc' k 1 st' := by
  obtain ⟨l, y, x, rfl, hl⟩ := last2 S k hn
  exact ⟨1, l ++ [RowKit.wrap32 (y - x)], fun ar w0 base bp g w h => h.sub (k := 0) (by omega) rfl (by omega) (hr x (by simp)) (hr y (by simp)), by simp; omega, fun j hj => by first | rfl | exact List.getElem?_append_left (by omega) | exact (List.getElem?_append_left (by omega)).symm | (rw [List.getElem?_append_left (by omega), List.getElem?_append_left (by omega)])⟩
theorem lout_mul (S : List Int) (k : Nat) (hn : S.length = k + 2) (hk : k ≤ 1024) (hr : ∀ x ∈ S, -2147483648 ≤ x ∧ x ≤ 2147483647) : ∃ pc' st', LOut 6 S 0 pc' k 1 st' := by
  obtain ⟨l, y, x, rfl, hl⟩ := last2 S k hn
  exact ⟨1, l ++ [RowKit.wrap32 (y * x)], fun ar w0 base bp g w h => h.mul (k := 0) (by omega) rfl (by omega) (hr x (by simp)) (hr y (by simp)), by simp; omega, fun j hj => by first | rfl | exact List.getElem?_append_left (by omega) | exact (List.getElem?_append_left (by omega)).symm | (rw [List.getElem?_append_left (by omega), List.getElem?_append_left (by omega)])⟩
theorem lout_jnz (S : List Int) (k : Nat) (hn : S.length = k + 1) (hk : k ≤ 1024) (hr : ∀ x ∈ S, -2147483648 ≤ x ∧ x ≤ 2147483647) : ∃ pc' st', LOut 7 S 0 pc' k 0 st' := by
  obtain ⟨l, x, rfl, hl⟩ := last1 S k hn
  by_cases hz : x = 0
  · exact ⟨1, l, fun ar w0 base bp g w h => h.jnz0 (k := 0) (by omega) rfl (by omega) (hr x (by simp)) hz, by simp; omega, fun j hj => by first | rfl | exact List.getElem?_append_left (by omega) | exact (List.getElem?_append_left (by omega)).symm | (rw [List.getElem?_append_left (by omega), List.getElem?_append_left (by omega)])⟩
  · exact ⟨0, l, fun ar w0 base bp g w h => h.jnz1 (k := 0) (by omega) rfl (by omega) (hr x (by simp)) hz ⟨by omega, by omega⟩, by simp; omega, fun j hj => by first | rfl | exact List.getElem?_append_left (by omega) | exact (List.getElem?_append_left (by omega)).symm | (rw [List.getElem?_append_left (by omega), List.getElem?_append_left (by omega)])⟩
theorem wpList_push_i32 {w : World} {ops : Array Oper} {rest : List Oper} {o : Oper} {a : Act} {Q : Exit → Act → World → Prop} (hgd : o.guard = none) (s x : Operand)
    (ho : o.op = .call { callee := .builtin .append, args := #[s, x], argTypes := #[51, 51] }) (base : Nat) (v : Value) (l : List Int) (z : Int) (B : Nat) (C : Nat)
    (hs : a.eval s = v) (hx : a.eval x = .slice (some ⟨B, 0, none⟩) 1 C) (hown : OwnT base w v l) (hc : w.cell? ⟨B, 0, none⟩ = some (.int .i32 z))
    (hlen : l.length < 1000000) (hbase : base ≤ w.heap.size)
    (h : ∀ v' w', OwnT base w' v' (l ++ [z]) → w.grownBy w' v.ownBlock → wpList Ybym.prog ops Q rest (a.put o.dst v') w') : wpList Ybym.prog ops Q (o :: rest) a w := by
  obtain ⟨i, hi, hz0, hz1, hz2⟩ := info_parts info21
  refine wpList_append_own w hgd s x 51 ho base 21 i (.int .i32 0) 1 4 Ybym.underlying51 hi hz0 hz1 hz2 rfl (by decide) v l.length (tcells l) hs hown ⟨B, 0, none⟩ 1 C [.int .i32 z] hx rfl ?_ ?_ ?_ ?_ hbase ?_
  · intro j u hj
    match j, hj with
    | 0, hj =>
      rw [add_plain]
      simp at hj
      rw [← hj]
      exact hc
  · intro u hu
    rw [List.mem_singleton] at hu
    rw [hu]
    rfl
  · unfold maxLen; omega
  · omega
  · intro v' w' h1 h2 _
    refine h v' w' ?_ h2
    unfold OwnT
    rw [tcells_snoc, List.length_append, List.length_singleton]
    exact h1
end Go.Proofs.Ymbrby

import Derived.Test.YmbrbxProgs
import Derived.Test.YmbrbxOwnBytes
namespace Go.Proofs.Ymbrbx
open Go.ChangeShapes Go.WideShapes Go.ChangeAt Go.RowKit
set_option linter.unusedVariables false
set_option linter.unusedSimpArgs false

/-! ### A slice of instructions that the call itself makes -/
def pcells (P : List (Int × Int)) : List Value := P.flatMap fun q => [.int .u8 q.1, .int .i32 q.2]
theorem pcells_snoc (P : List (Int × Int)) (q : Int × Int) : pcells (P ++ [q]) = pcells P ++ [.int .u8 q.1, .int .i32 q.2] := by
  unfold pcells
  rw [List.flatMap_append]
  simp
theorem pcells_len : ∀ P : List (Int × Int), (pcells P).length = P.length * 2
  | [] => rfl
  | q :: P => by
    have := pcells_len P
    unfold pcells at this ⊢
    rw [List.flatMap_cons, List.length_append, this, List.length_cons]
    simp only [List.length_cons, List.length_nil]
    omega
theorem pcells_at : ∀ (P : List (Int × Int)) (j : Nat) (h : j < P.length), (pcells P)[j * 2]? = some (.int .u8 P[j].1) ∧ (pcells P)[j * 2 + 1]? = some (.int .i32 P[j].2)
  | q :: P, 0, _ => ⟨rfl, rfl⟩
  | q :: P, j + 1, h => by
    have hh := pcells_at P j (by simpa using h)
    have e : pcells (q :: P) = .int .u8 q.1 :: .int .i32 q.2 :: pcells P := by unfold pcells; rw [List.flatMap_cons]; rfl
    rw [e, show (j + 1) * 2 = j * 2 + 1 + 1 from by omega]
    simp only [List.getElem?_cons_succ, List.getElem_cons_succ]
    exact hh
def OwnP (base : Nat) (w : World) (v : Value) (P : List (Int × Int)) : Prop := w.ownsRow base 38 2 v P.length (pcells P)
theorem OwnP.nil (base : Nat) (w : World) : OwnP base w (.slice none 0 0) [] := World.ownsRow_nil _ _ _ _
theorem OwnP.alloc {base : Nat} {w : World} {v : Value} {P : List (Int × Int)} (h : OwnP base w v P) (o : Obj) : OwnP base (w.alloc o) v P := World.ownsRow.alloc h o
theorem OwnP.size {base : Nat} {w : World} {v : Value} {P : List (Int × Int)} (h : OwnP base w v P) : ∀ k, v.ownBlock = some k → base ≤ k := fun k hk => (World.ownsRow.lt h k hk).1
theorem infoI : (Ybxm.prog.info? 38).map (fun i => (i.zero, i.size, i.bytes)) = some (some (.agg #[.int .u8 0, .int .i32 0]), 2, 8) := by kernel_rfl

/-- 'out = append(out, in)'. -/
theorem wpList_push_instr {w : World} {ops : Array Oper} {rest : List Oper} {o : Oper} {a : Act} {Q : Exit → Act → World → Prop} (hgd : o.guard = none) (s x : Operand)
    (ho : o.op = .call { callee := .builtin .append, args := #[s, x], argTypes := #[28, 28] }) (base : Nat) (v : Value) (P : List (Int × Int)) (op arg : Int) (B : Nat) (C : Nat)
    (hs : a.eval s = v) (hx : a.eval x = .slice (some ⟨B, 0, none⟩) 1 C) (hown : OwnP base w v P) (hc0 : w.cell? ⟨B, 0, none⟩ = some (.int .u8 op)) (hc1 : w.cell? ⟨B, 1, none⟩ = some (.int .i32 arg))
    (hlen : P.length < 1000000) (hbase : base ≤ w.heap.size)
    (h : ∀ v' w', OwnP base w' v' (P ++ [(op, arg)]) → w.grownBy w' v.ownBlock → wpList Ybxm.prog ops Q rest (a.put o.dst v') w') : wpList Ybxm.prog ops Q (o :: rest) a w := by
  obtain ⟨i, hi, hz0, hz1, hz2⟩ := info_parts infoI
  refine wpList_append_own w hgd s x 28 ho base 38 i (.agg #[.int .u8 0, .int .i32 0]) 2 8 Ybxm.underlying28 hi hz0 hz1 hz2 rfl (by decide) v P.length (pcells P) hs hown ⟨B, 0, none⟩ 1 C [.int .u8 op, .int .i32 arg] hx rfl ?_ ?_ ?_ ?_ hbase ?_
  · intro j u hj
    match j, hj with
    | 0, hj =>
      rw [add_plain]
      simp at hj
      rw [← hj]
      exact hc0
    | 1, hj =>
      rw [add_plain]
      simp at hj
      rw [← hj]
      exact hc1
  · intro u hu
    simp at hu
    rcases hu with hu | hu <;> (rw [hu]; rfl)
  · unfold maxLen; omega
  · omega
  · intro v' w' h1 h2 _
    refine h v' w' ?_ h2
    unfold OwnP
    rw [pcells_snoc, List.length_append, List.length_singleton]
    exact h1
/-- 'make([]Instr, 0, n)'. -/
theorem wpList_make_instrs {w : World} {ops : Array Oper} {rest : List Oper} {o : Oper} {a : Act} {Q : Exit → Act → World → Prop} (hg : o.guard = none) (l c : Operand)
    (hop : o.op = Op.makeSlice 28 l c) (base n : Nat) (C : Int) (hl : a.eval l = .int .i64 0) (hc : a.eval c = .int .i64 C) (hC : C = (n : Int)) (hn : n ≤ 1000000) (hb : base ≤ w.heap.size)
    (h : ∀ w', OwnP base w' (.slice (some ⟨w.heap.size, 0, none⟩) 0 n) [] → w.grownBy w' none → wpList Ybxm.prog ops Q rest (a.put o.dst (.slice (some ⟨w.heap.size, 0, none⟩) 0 n)) w') :
    wpList Ybxm.prog ops Q (o :: rest) a w := by
  obtain ⟨i, hi, hz0, hz1, hz2⟩ := info_parts infoI
  exact wpList_make_own w hg l c 28 hop base 38 i (.agg #[.int .u8 0, .int .i32 0]) 2 Ybxm.underlying28 hi hz0 hz1 .i64 .i64 C n hl hc hC (by rw [hz2]; omega) (by unfold maxLen; omega) hb h
/-- What is owned is a program in memory. -/
theorem OwnP.prog {base : Nat} {w : World} {v : Value} {P : List (Int × Int)} (h : OwnP base w v P) : ∃ a cap, v = .slice a P.length cap ∧ ProgIn w a P := by
  rcases h.2 with ⟨rfl, hn⟩ | ⟨g, cap, cur, rfl, _, hg, _⟩
  · exact ⟨none, 0, by rw [hn], .inl hn⟩
  · refine ⟨_, cap, rfl, ?_⟩
    by_cases h0 : P.length = 0
    · exact .inl h0
    · refine .inr ⟨g, 0, rfl, ?_, fun j hj => ?_⟩
      · rcases Nat.lt_or_ge g w.heap.size with hb | hb
        · exact hb
        · rw [Array.getElem?_eq_none (by simpa using hb)] at hg
          cases hg
      · obtain ⟨e0, e1⟩ := pcells_at P j hj
        rw [Nat.zero_add, World.ownsRow.cellAt h (j * 2) (by omega), World.ownsRow.cellAt h (j * 2 + 1) (by omega), e0, e1]
        exact ⟨rfl, rfl⟩
end Go.Proofs.Ymbrbx

import Derived.Test.YmbrbxInts
namespace Go.Proofs.Ymbrbx
open Go.ChangeShapes Go.WideShapes Go.ChangeAt Go.RowKit
set_option linter.unusedVariables false
set_option linter.unusedSimpArgs false

/-! ### 'make([]Instr, n)', and stores into it -/
theorem made2 : ∀ n : Nat, (madeCells #[Value.int .u8 0, Value.int .i32 0] (n * 2)).toList = pcells (List.replicate n (0, 0))
  | 0 => by simp [madeCells, pcells]
  | n + 1 => by
    have ih := made2 n
    have e : ∀ m, (madeCells #[Value.int .u8 0, Value.int .i32 0] m).toList = (List.range m).map fun j => (#[Value.int .u8 0, Value.int .i32 0] : Array Value)[j % 2]! := by
      intro m
      unfold madeCells
      simp
    rw [e] at ih ⊢
    rw [List.replicate_succ', pcells_snoc, ← ih, show (n + 1) * 2 = n * 2 + 1 + 1 from by omega, List.range_succ, List.range_succ, List.map_append, List.map_append, List.append_assoc]
    congr 1
    have h0 : n * 2 % 2 = 0 := by omega
    have h1 : (n * 2 + 1) % 2 = 1 := by omega
    simp [h0, h1]
theorem wpList_make_progs {w : World} {ops : Array Oper} {rest : List Oper} {o : Oper} {a : Act} {Q : Exit → Act → World → Prop} (hg : o.guard = none) (l c : Operand)
    (hop : o.op = Op.makeSlice 28 l c) (base n : Nat) (L C : Int) (hl : a.eval l = .int .i64 L) (hc : a.eval c = .int .i64 C) (hL : L = (n : Int)) (hC : C = (n : Int)) (hn : n ≤ 1000000) (hb : base ≤ w.heap.size)
    (h : ∀ w', OwnP base w' (.slice (some ⟨w.heap.size, 0, none⟩) n n) (List.replicate n (0, 0)) → w.grownBy w' none → wpList Ybxm.prog ops Q rest (a.put o.dst (.slice (some ⟨w.heap.size, 0, none⟩) n n)) w') :
    wpList Ybxm.prog ops Q (o :: rest) a w := by
  obtain ⟨i, hi, hz0, hz1, hz2⟩ := info_parts infoI
  refine wpList_make_full w hg l c 28 hop base 38 i (.agg #[.int .u8 0, .int .i32 0]) 2 Ybxm.underlying28 hi hz0 hz1 .i64 .i64 L C n hl hc hL hC (by rw [hz2]; omega) (by unfold maxLen; omega) hb ?_
  intro w' h1 h2
  refine h w' ?_ h2
  unfold OwnP
  rw [List.length_replicate, ← made2 n]
  exact h1
theorem pcells_set : ∀ (P : List (Int × Int)) (j : Nat) (q : Int × Int), pcells (P.set j q) = ((pcells P).set (j * 2) (.int .u8 q.1)).set (j * 2 + 1) (.int .i32 q.2)
  | [], j, q => rfl
  | p :: P, 0, q => rfl
  | p :: P, j + 1, q => by
    have ih := pcells_set P j q
    have e : ∀ (x : Int × Int) (R : List (Int × Int)), pcells (x :: R) = .int .u8 x.1 :: .int .i32 x.2 :: pcells R := fun x R => by unfold pcells; rw [List.flatMap_cons]; rfl
    rw [List.set_cons_succ, e, e, ih, show (j + 1) * 2 = j * 2 + 1 + 1 from by omega, show j * 2 + 1 + 1 + 1 = (j * 2 + 1) + 1 + 1 from rfl]
    simp only [List.set_cons_succ]
theorem OwnP.store {base g n : Nat} {w : World} {P : List (Int × Int)} (h : OwnP base w (.slice (some ⟨g, 0, none⟩) n n) P) (hl : P.length = n) (j : Nat) (op arg : Int) :
    OwnP base ((w.setCell ⟨g, j * 2, none⟩ (.int .u8 op)).setCell ⟨g, j * 2 + 1, none⟩ (.int .i32 arg)) (.slice (some ⟨g, 0, none⟩) n n) (P.set j (op, arg)) := by
  unfold OwnP at h ⊢
  rw [hl] at h
  have h1 := (World.ownsRow.stored h (j * 2) (.int .u8 op)).1
  have h2 := (World.ownsRow.stored h1 (j * 2 + 1) (.int .i32 arg)).1
  rw [List.length_set, hl, pcells_set]
  exact h2
theorem OwnP.at {base g n : Nat} {w : World} {P : List (Int × Int)} (h : OwnP base w (.slice (some ⟨g, 0, none⟩) n n) P) (hl : P.length = n) (j : Nat) (hj : j < P.length) : w.cell? ⟨g, j * 2, none⟩ = some (.int .u8 P[j].1) ∧ w.cell? ⟨g, j * 2 + 1, none⟩ = some (.int .i32 P[j].2) := by
  unfold OwnP at h
  rw [hl] at h
  obtain ⟨e0, e1⟩ := pcells_at P j hj
  rw [World.ownsRow.cellAt h (j * 2) (by omega), World.ownsRow.cellAt h (j * 2 + 1) (by omega), e0, e1]
  exact ⟨rfl, rfl⟩
theorem OwnP.free {base g n : Nat} {w : World} {P : List (Int × Int)} (h : OwnP base w (.slice (some ⟨g, 0, none⟩) n n) P) (hl : P.length = n) (j : Nat) : w.frozen? ⟨g, j, none⟩ = false := by
  unfold OwnP at h
  rw [hl] at h
  exact World.ownsRow.frozenAt h j
theorem OwnP.block {base g n cap : Nat} {w : World} {P : List (Int × Int)} (h : OwnP base w (.slice (some ⟨g, 0, none⟩) n cap) P) : base ≤ g ∧ g < w.heap.size := World.ownsRow.lt h g rfl
end Go.Proofs.Ymbrbx

import Derived.Test.YmbrbyMach
import Derived.Test.YmbrbyStepEnd
import Derived.Test.YmbrbyStepPush
import Derived.Test.YmbrbyStepPop
import Derived.Test.YmbrbyStepDup
import Derived.Test.YmbrbyStepSwap
import Derived.Test.YmbrbyStepAdd
import Derived.Test.YmbrbyStepSub
import Derived.Test.YmbrbyStepMul
import Derived.Test.YmbrbyStepJnz0
import Derived.Test.YmbrbyStepJnz1
namespace Go.Proofs.Ymbrby
open Go.ChangeShapes Go.WideShapes Go.ChangeAt Go.RowKit
set_option linter.unusedVariables false
set_option linter.unusedSimpArgs false

/-! ### The state of a law that runs a machine of its own over a program of its own -/
structure GS (ar : Option (Nat × Int × Int)) (w0 : World) (base bp n : Nat) (P : List (Int × Int)) (g : Nat) (w : World) (pc : Int) (st : List Int) : Prop where
  bel : Below base w0 w
  le : base ≤ w.heap.size
  lg : base ≤ g
  prog : OwnP base w (.slice (some ⟨bp, 0, none⟩) n n) P
  len : P.length = n
  mach : ∃ v, MB w g pc v ∧ OwnT base w v st
  arr : ∀ q p0 p1, ar = some (q, p0, p1) → base ≤ q ∧ w.heap[q]? = some (.cells #[.int .i32 p0, .int .i32 p1] 999 (0, 0))

/-- An array of the call's own is kept by a step. -/
theorem Sel.array {g base q : Nat} {w w' : World} {pc : Int} {v u : Value} {l : List Int} {c : Array Value} (h : Sel g v.ownBlock w w') (hm : MB w g pc u) (ho : OwnT base w v l) (hp : w.heap[q]? = some (.cells c 999 (0, 0))) : w'.heap[q]? = some (.cells c 999 (0, 0)) := by
  rw [h.block q (lt_of_block hp) ?_ ?_, hp]
  · intro e
    rw [e, hm] at hp
    cases hp
  · intro e
    rcases ho.2 with ⟨rfl, hn⟩ | ⟨gb, cap, cur, rfl, _, k2, _⟩
    · simp [Value.ownBlock] at e
    · have e' : q = gb := by simpa [Value.ownBlock] using e
      rw [e', k2] at hp
      cases hp
theorem OwnT.lower {base base' : Nat} {w : World} {v : Value} {l : List Int} (h : OwnT base w v l) (hb : base' ≤ base) : OwnT base' w v l := by
  obtain ⟨h1, h2⟩ := h
  refine ⟨h1, ?_⟩
  rcases h2 with h2 | ⟨g, cap, cur, r1, r2, r3⟩
  · exact .inl h2
  · exact .inr ⟨g, cap, cur, r1, Nat.le_trans hb r2, r3⟩
theorem OwnP.lower {base base' : Nat} {w : World} {v : Value} {l : List (Int × Int)} (h : OwnP base w v l) (hb : base' ≤ base) : OwnP base' w v l := by
  obtain ⟨h1, h2⟩ := h
  refine ⟨h1, ?_⟩
  rcases h2 with h2 | ⟨g, cap, cur, r1, r2, r3⟩
  · exact .inl h2
  · exact .inr ⟨g, cap, cur, r1, Nat.le_trans hb r2, r3⟩
theorem OwnP.kept {base : Nat} {w w' : World} {v : Value} {l : List (Int × Int)} (h : OwnP base w v l) (hb : Below w.heap.size w w') : OwnP base w' v l :=
  World.ownsRow.kept (row := none) h ⟨hb.os, hb.tape, hb.output, hb.size, fun j hj _ => hb.block j hj⟩ (by cases hv : v.ownBlock <;> simp)
theorem OwnT.kept {base : Nat} {w w' : World} {v : Value} {l : List Int} (h : OwnT base w v l) (hb : Below w.heap.size w w') : OwnT base w' v l :=
  World.ownsRow.kept (row := none) h ⟨hb.os, hb.tape, hb.output, hb.size, fun j hj _ => hb.block j hj⟩ (by cases hv : v.ownBlock <;> simp)
theorem GS.kept {ar : Option (Nat × Int × Int)} {w0 : World} {base bp n : Nat} {P : List (Int × Int)} {g : Nat} {w w' : World} {pc : Int} {st : List Int} (h : GS ar w0 base bp n P g w pc st) (hb : Below w.heap.size w w') : GS ar w0 base bp n P g w' pc st := by
  obtain ⟨v, hM, hO⟩ := h.mach
  exact ⟨h.bel.trans (hb.mono h.le), Nat.le_trans h.le hb.size, h.lg, h.prog.kept hb, h.len, ⟨v, (hb.block g hM.lt).trans hM, hO.kept hb⟩, fun q p0 p1 hq => ⟨(h.arr q p0 p1 hq).1, (hb.block q (lt_of_block (h.arr q p0 p1 hq).2)).trans (h.arr q p0 p1 hq).2⟩⟩
theorem GS.withArr {w0 : World} {base bp n : Nat} {P : List (Int × Int)} {g : Nat} {w : World} {pc : Int} {st : List Int} (h : GS none w0 base bp n P g w pc st) (p0 p1 : Int) : GS (some (w.heap.size, p0, p1)) w0 base bp n P g (w.alloc (.cells #[.int .i32 p0, .int .i32 p1] 999)) pc st := by
  have h1 := h.kept (w' := w.alloc (.cells #[.int .i32 p0, .int .i32 p1] 999)) ((Below.refl _ _).alloc (Nat.le_refl _) _)
  refine ⟨h1.bel, h1.le, h1.lg, h1.prog, h1.len, h1.mach, ?_⟩
  intro q a b hq
  cases hq
  exact ⟨h.le, heap_alloc_new w _⟩
theorem GS.cells {q : Nat} {p0 p1 : Int} {w0 : World} {base bp n : Nat} {P : List (Int × Int)} {g : Nat} {w : World} {pc : Int} {st : List Int} (h : GS (some (q, p0, p1)) w0 base bp n P g w pc st) : w.cell? ⟨q, 0, none⟩ = some (.int .i32 p0) ∧ w.cell? ⟨q, 1, none⟩ = some (.int .i32 p1) ∧ q < w.heap.size := by
  have hq := (h.arr q p0 p1 rfl).2
  exact ⟨by simp [World.cell?, hq], by simp [World.cell?, hq], lt_of_block hq⟩
theorem OwnT.form2 {base n : Nat} {w : World} {v : Value} {l : List Int} (h : OwnT base w v l) (hn : n = l.length) : ∃ sa sc, v = .slice sa n sc := by
  subst hn
  exact h.form
theorem GS.after {ar : Option (Nat × Int × Int)} {w0 : World} {base bp n : Nat} {P : List (Int × Int)} {g : Nat} {w : World} {pc : Int} {st : List Int} (h : GS ar w0 base bp n P g w pc st) {args : Array Value} {ans pc' : Int} {st' : List Int}
    (H : ∀ v, MB w g pc v → OwnT base w v st → Calls Ybym.prog 24 args w (Did base g w v ans pc' st')) :
    Calls Ybym.prog 24 args w fun e w' => e = .returned (.int .i64 ans) ∧ GS ar w0 base bp n P g w' pc' st' := by
  obtain ⟨v, hM, hO⟩ := h.mach
  refine (H v hM hO).mono ?_
  rintro e w' ⟨rfl, hS, v', hM', hO'⟩
  exact ⟨rfl, h.bel.trans (hS.below h.le h.lg hO.size), Nat.le_trans h.le hS.size, h.lg, hS.prog hM hO h.prog, h.len, ⟨v', hM', hO'⟩, fun q p0 p1 hq => ⟨(h.arr q p0 p1 hq).1, hS.array hM hO (h.arr q p0 p1 hq).2⟩⟩
theorem GS.at {ar : Option (Nat × Int × Int)} {w0 : World} {base bp n : Nat} {P : List (Int × Int)} {g : Nat} {w : World} {pc : Int} {st : List Int} (h : GS ar w0 base bp n P g w pc st) (k : Nat) (op arg : Int) (hk : P[k]? = some (op, arg)) :
    k < n ∧ w.cell? ⟨bp, 0 + k * 2, none⟩ = some (.int .u8 op) ∧ w.cell? ⟨bp, 0 + k * 2 + 1, none⟩ = some (.int .i32 arg) ∧ bp < w.heap.size := by
  obtain ⟨hlt, he⟩ := List.getElem?_eq_some_iff.1 hk
  have hp := h.prog
  unfold OwnP at hp
  rw [h.len] at hp
  obtain ⟨e0, e1⟩ := pcells_at P k hlt
  have hl := h.len
  rw [Nat.zero_add, World.ownsRow.cellAt hp (k * 2) (by omega), World.ownsRow.cellAt hp (k * 2 + 1) (by omega), e0, e1, he]
  exact ⟨by omega, rfl, rfl, (World.ownsRow.lt hp bp rfl).2⟩
abbrev GStep (ar : Option (Nat × Int × Int)) (w0 : World) (base bp n : Nat) (P : List (Int × Int)) (g : Nat) (w : World) (ans pc' : Int) (st' : List Int) : Prop :=
  Calls Ybym.prog 24 #[.pointer (some ⟨g, 0, none⟩), .slice (some ⟨bp, 0, none⟩) n n] w fun e w' => e = .returned (.int .i64 ans) ∧ GS ar w0 base bp n P g w' pc' st'
section
variable {ar : Option (Nat × Int × Int)} {w0 : World} {base bp n : Nat} {P : List (Int × Int)} {g : Nat} {w : World} {pc : Int} {st l : List Int} {k : Nat} {op arg x y : Int}
theorem GS.halted (h : GS ar w0 base bp n P g w n st) (hn : n ≤ 1000000) : GStep ar w0 base bp n P g w 1 n st :=
  h.after fun v hM hO => step_halted _ n n base g v st w hn hM hO
theorem GS.badpc (h : GS ar w0 base bp n P g w pc st) (hn : n ≤ 1000000) (hpc : pc < 0 ∨ (n : Int) < pc) : GStep ar w0 base bp n P g w 4 pc st :=
  h.after fun v hM hO => step_badpc _ n n pc base g v st w hn hpc hM hO
theorem GS.badop (h : GS ar w0 base bp n P g w k st) (hn : n ≤ 1000000) (hk : P[k]? = some (op, arg)) (ho : 8 ≤ op) : GStep ar w0 base bp n P g w 3 k st := by
  obtain ⟨h1, h2, h3, h4⟩ := h.at k op arg hk
  exact h.after fun v hM hO => step_badop bp 0 k n n op arg base g v st w h1 hn h2 h3 h4 ho hM hO
theorem GS.under (h : GS ar w0 base bp n P g w k st) (hn : n ≤ 1000000) (hk : P[k]? = some (op, arg)) (ho : 0 ≤ op ∧ op < 8) (hu : (st.length : Int) < effPops op) (hst : st.length ≤ 100000) : GStep ar w0 base bp n P g w 2 k st := by
  obtain ⟨h1, h2, h3, h4⟩ := h.at k op arg hk
  exact h.after fun v hM hO => step_under bp 0 k n n op arg base g v st w h1 hn h2 h3 h4 ho hu hst hM hO
theorem GS.push (h : GS ar w0 base bp n P g w k st) (hn : n ≤ 1000000) (hk : P[k]? = some (0, arg)) (hst : st.length ≤ 100000) : GStep ar w0 base bp n P g w 0 (k + 1) (st ++ [arg]) := by
  obtain ⟨h1, h2, h3, h4⟩ := h.at k 0 arg hk
  exact h.after fun v hM hO => step_push bp 0 k n n arg base g v st w h1 hn h2 h3 h4 hM hO hst h.le
theorem GS.pop (h : GS ar w0 base bp n P g w k (l ++ [x])) (hn : n ≤ 1000000) (hk : P[k]? = some (1, arg)) (hst : l.length ≤ 100000) (hx : -2147483648 ≤ x ∧ x ≤ 2147483647) : GStep ar w0 base bp n P g w 0 (k + 1) l := by
  obtain ⟨h1, h2, h3, h4⟩ := h.at k 1 arg hk
  exact h.after fun v hM hO => step_pop bp 0 k n n arg base g v l x w h1 hn h2 h3 h4 hM hO hst h.le hx
theorem GS.dup (h : GS ar w0 base bp n P g w k (l ++ [x])) (hn : n ≤ 1000000) (hk : P[k]? = some (2, arg)) (hst : l.length ≤ 100000) (hx : -2147483648 ≤ x ∧ x ≤ 2147483647) : GStep ar w0 base bp n P g w 0 (k + 1) (l ++ [x, x]) := by
  obtain ⟨h1, h2, h3, h4⟩ := h.at k 2 arg hk
  exact h.after fun v hM hO => step_dup bp 0 k n n arg base g v l x w h1 hn h2 h3 h4 hM hO hst h.le hx
theorem GS.swap (h : GS ar w0 base bp n P g w k (l ++ [y, x])) (hn : n ≤ 1000000) (hk : P[k]? = some (3, arg)) (hst : l.length ≤ 100000) (hx : -2147483648 ≤ x ∧ x ≤ 2147483647) (hy : -2147483648 ≤ y ∧ y ≤ 2147483647) : GStep ar w0 base bp n P g w 0 (k + 1) (l ++ [x, y]) := by
  obtain ⟨h1, h2, h3, h4⟩ := h.at k 3 arg hk
  exact h.after fun v hM hO => step_swap bp 0 k n n arg base g v l y x w h1 hn h2 h3 h4 hM hO hst h.le hx hy
theorem GS.add (h : GS ar w0 base bp n P g w k (l ++ [y, x])) (hn : n ≤ 1000000) (hk : P[k]? = some (4, arg)) (hst : l.length ≤ 100000) (hx : -2147483648 ≤ x ∧ x ≤ 2147483647) (hy : -2147483648 ≤ y ∧ y ≤ 2147483647) : GStep ar w0 base bp n P g w 0 (k + 1) (l ++ [RowKit.wrap32 (y + x)]) := by
  obtain ⟨h1, h2, h3, h4⟩ := h.at k 4 arg hk
  exact h.after fun v hM hO => step_add bp 0 k n n arg base g v l y x w h1 hn h2 h3 h4 hM hO hst h.le hx hy
theorem GS.sub (h : GS ar w0 base bp n P g w k (l ++ [y, x])) (hn : n ≤ 1000000) (hk : P[k]? = some (5, arg)) (hst : l.length ≤ 100000) (hx : -2147483648 ≤ x ∧ x ≤ 2147483647) (hy : -2147483648 ≤ y ∧ y ≤ 2147483647) : GStep ar w0 base bp n P g w 0 (k + 1) (l ++ [RowKit.wrap32 (y - x)]) := by
  obtain ⟨h1, h2, h3, h4⟩ := h.at k 5 arg hk
  exact h.after fun v hM hO => step_sub bp 0 k n n arg base g v l y x w h1 hn h2 h3 h4 hM hO hst h.le hx hy
theorem GS.mul (h : GS ar w0 base bp n P g w k (l ++ [y, x])) (hn : n ≤ 1000000) (hk : P[k]? = some (6, arg)) (hst : l.length ≤ 100000) (hx : -2147483648 ≤ x ∧ x ≤ 2147483647) (hy : -2147483648 ≤ y ∧ y ≤ 2147483647) : GStep ar w0 base bp n P g w 0 (k + 1) (l ++ [RowKit.wrap32 (y * x)]) := by
  obtain ⟨h1, h2, h3, h4⟩ := h.at k 6 arg hk
  exact h.after fun v hM hO => step_mul bp 0 k n n arg base g v l y x w h1 hn h2 h3 h4 hM hO hst h.le hx hy
theorem GS.jnz0 (h : GS ar w0 base bp n P g w k (l ++ [x])) (hn : n ≤ 1000000) (hk : P[k]? = some (7, arg)) (hst : l.length ≤ 100000) (hx : -2147483648 ≤ x ∧ x ≤ 2147483647) (hz : x = 0) : GStep ar w0 base bp n P g w 0 (k + 1) l := by
  obtain ⟨h1, h2, h3, h4⟩ := h.at k 7 arg hk
  exact h.after fun v hM hO => step_jnz0 bp 0 k n n arg base g v l x w h1 hn h2 h3 h4 hM hO hst h.le hx hz
theorem GS.jnz1 (h : GS ar w0 base bp n P g w k (l ++ [x])) (hn : n ≤ 1000000) (hk : P[k]? = some (7, arg)) (hst : l.length ≤ 100000) (hx : -2147483648 ≤ x ∧ x ≤ 2147483647) (hz : x ≠ 0) (ha : -2147483648 ≤ arg ∧ arg ≤ 2147483647) : GStep ar w0 base bp n P g w 0 arg l := by
  obtain ⟨h1, h2, h3, h4⟩ := h.at k 7 arg hk
  exact h.after fun v hM hO => step_jnz1 bp 0 k n n arg base g v l x w h1 hn h2 h3 h4 hM hO hst h.le hx hz ha
end
end Go.Proofs.Ymbrby

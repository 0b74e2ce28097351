import Derived.Test.YmbrbyOwnProg
import Derived.Test.YmbrbyEffect
import Derived.OneCell
import Derived.WalkSmall
import Derived.BigQuiet
import Derived.BigRegion
import Derived.Deep.QuietTactic
import Derived.Deep.RegionLaw
namespace Go.Proofs.Ymbrby
open Go.ChangeShapes Go.WideShapes Go.ChangeAt Go.RowKit
set_option linter.unusedVariables false
set_option linter.unusedSimpArgs false

theorem Hid.mk3 {p : Prop} (h : p) : Hid p := h
/-! ### The machine in memory: its own block, and the stack that it owns -/
def tcells (l : List Int) : List Value := l.map fun x => .int .i32 x
theorem tcells_snoc (l : List Int) (x : Int) : tcells (l ++ [x]) = tcells l ++ [.int .i32 x] := by simp [tcells]
theorem tcells_len (l : List Int) : (tcells l).length = l.length := by simp [tcells]
def OwnT (base : Nat) (w : World) (v : Value) (l : List Int) : Prop := w.ownsRow base 21 1 v l.length (tcells l)
theorem OwnT.nil (base : Nat) (w : World) : OwnT base w (.slice none 0 0) [] := World.ownsRow_nil _ _ _ _
theorem OwnT.alloc {base : Nat} {w : World} {v : Value} {l : List Int} (h : OwnT base w v l) (o : Obj) : OwnT base (w.alloc o) v l := World.ownsRow.alloc h o
theorem OwnT.drewN {base : Nat} {w : World} {v : Value} {l : List Int} (h : OwnT base w v l) (k : Nat) : OwnT base (w.drewN k) v l := h
theorem OwnT.size {base : Nat} {w : World} {v : Value} {l : List Int} (h : OwnT base w v l) : ∀ k, v.ownBlock = some k → base ≤ k := fun k hk => (World.ownsRow.lt h k hk).1
theorem OwnT.form {base : Nat} {w : World} {v : Value} {l : List Int} (h : OwnT base w v l) : ∃ sa sc, v = .slice sa l.length sc := by
  rcases h.2 with ⟨rfl, hn⟩ | ⟨gb, cap, cur, rfl, _⟩
  · exact ⟨none, 0, by rw [hn]⟩
  · exact ⟨_, _, rfl⟩
theorem OwnT.solid {base : Nat} {w : World} {v : Value} {l : List Int} (h : OwnT base w v l) (hl : 0 < l.length) : ∃ gb sc, v = .slice (some ⟨gb, 0, none⟩) l.length sc ∧ l.length ≤ sc ∧ sc ≤ maxLen ∧ base ≤ gb ∧ gb < w.heap.size := by
  rcases h.2 with ⟨rfl, hn⟩ | ⟨gb, cap, cur, rfl, h1, h2, h3, h4, _⟩
  · omega
  · exact ⟨_, _, rfl, h3, h4, h1, lt_of_block h2⟩
theorem OwnT.at {base gb sc n : Nat} {w : World} {l : List Int} (h : OwnT base w (.slice (some ⟨gb, 0, none⟩) n sc) l) (hl : l.length = n) (j : Nat) (x : Int) (hj : l[j]? = Option.some x) : w.cell? ⟨gb, j, none⟩ = Option.some (.int .i32 x) := by
  have hlt : j < l.length := (List.getElem?_eq_some_iff.1 hj).1
  unfold OwnT at h
  rw [hl] at h
  rw [World.ownsRow.cellAt h j (by omega)]
  unfold tcells
  rw [List.getElem?_map, hj]
  rfl
theorem OwnT.free {base gb sc n : Nat} {w : World} {l : List Int} (h : OwnT base w (.slice (some ⟨gb, 0, none⟩) n sc) l) (hl : l.length = n) (j : Nat) : w.frozen? ⟨gb, j, none⟩ = false := by
  unfold OwnT at h
  rw [hl] at h
  exact World.ownsRow.frozenAt h j
theorem OwnT.store {base gb sc n : Nat} {w : World} {l : List Int} (h : OwnT base w (.slice (some ⟨gb, 0, none⟩) n sc) l) (hl : l.length = n) (j : Nat) (z : Int) :
    OwnT base (w.setCell ⟨gb, j, none⟩ (.int .i32 z)) (.slice (some ⟨gb, 0, none⟩) n sc) (l.set j z) := by
  unfold OwnT at h ⊢
  rw [hl] at h
  have := (World.ownsRow.stored h j (.int .i32 z)).1
  rw [List.length_set, hl]
  have e : tcells (l.set j z) = (tcells l).set j (.int .i32 z) := by unfold tcells; rw [List.map_set]
  rw [e]
  exact this
theorem OwnT.pop {base gb sc n : Nat} {w : World} {l : List Int} {x : Int} (h : OwnT base w (.slice (some ⟨gb, 0, none⟩) (n + 1) sc) (l ++ [x])) (hl : l.length = n) : OwnT base w (.slice (some ⟨gb, 0, none⟩) n sc) l := by
  unfold OwnT at h ⊢
  rw [List.length_append, List.length_singleton, hl, tcells_snoc] at h
  rw [hl]
  exact ownsRow_pop (by rw [tcells_len, hl, Nat.mul_one]) h

/-- The machine's block. -/
def MB (w : World) (g : Nat) (pc : Int) (v : Value) : Prop := w.heap[g]? = some (.cells #[.int .i64 pc, v] 53 (0, 0))
theorem MB.lt {w : World} {g : Nat} {pc : Int} {v : Value} (h : MB w g pc v) : g < w.heap.size := lt_of_block h
theorem MB.c0 {w : World} {g : Nat} {pc : Int} {v : Value} (h : MB w g pc v) : w.cell? ⟨g, 0, none⟩ = some (.int .i64 pc) := by unfold MB at h; simp [World.cell?, h]
theorem MB.c1 {w : World} {g : Nat} {pc : Int} {v : Value} (h : MB w g pc v) : w.cell? ⟨g, 1, none⟩ = some v := by unfold MB at h; simp [World.cell?, h]
theorem MB.free {w : World} {g : Nat} {pc : Int} {v : Value} (h : MB w g pc v) (j : Nat) : w.frozen? ⟨g, j, none⟩ = false := by unfold MB at h; simp [World.frozen?, h]
theorem MB.alloc {w : World} {g : Nat} {pc : Int} {v : Value} (h : MB w g pc v) (o : Obj) : MB (w.alloc o) g pc v := (Below.heap_alloc w o g h.lt).trans h
theorem MB.new (w : World) (pc : Int) (v : Value) : MB (w.alloc (.cells #[.int .i64 pc, v] 53)) w.heap.size pc v := heap_alloc_new w _
theorem MB.other {w : World} {g : Nat} {pc : Int} {v : Value} (h : MB w g pc v) (a : Addr) (ha : g ≠ a.block) (u : Value) : MB (w.setCell a u) g pc v := (Below.heap_setCell w a u g ha).trans h
theorem MB.set0 {w : World} {g : Nat} {pc : Int} {v : Value} (h : MB w g pc v) (pc' : Int) : MB (w.setCell ⟨g, 0, none⟩ (.int .i64 pc')) g pc' v := by
  have hlt := h.lt
  have h' : w.heap[g] = .cells #[.int .i64 pc, v] 53 (0, 0) := by unfold MB at h; simpa [Array.getElem?_eq_getElem hlt] using h
  show (w.heap.modify g _)[g]? = _
  rw [Array.getElem?_eq_getElem (by simpa using hlt), Array.getElem_modify_self, h']
  rfl
theorem MB.set1 {w : World} {g : Nat} {pc : Int} {v : Value} (h : MB w g pc v) (v' : Value) : MB (w.setCell ⟨g, 1, none⟩ v') g pc v' := by
  have hlt := h.lt
  have h' : w.heap[g] = .cells #[.int .i64 pc, v] 53 (0, 0) := by unfold MB at h; simpa [Array.getElem?_eq_getElem hlt] using h
  show (w.heap.modify g _)[g]? = _
  rw [Array.getElem?_eq_getElem (by simpa using hlt), Array.getElem_modify_self, h']
  rfl
/-- The stack's block is not the machine's: they hold different types. -/
theorem MB.ne {w : World} {g base : Nat} {pc : Int} {v u : Value} {l : List Int} (h : MB w g pc u) (ho : OwnT base w v l) : v.ownBlock ≠ some g := by
  rcases ho.2 with ⟨rfl, hn⟩ | ⟨gb, cap, cur, rfl, h1, h2, h3, h4, _⟩
  · simp [Value.ownBlock]
  · intro hq
    have hq' : gb = g := by simpa [Value.ownBlock] using hq
    rw [hq', h] at h2
    cases h2

/-- Nothing has turned but block g and block r. -/
structure Sel (g : Nat) (r : Option Nat) (w w' : World) : Prop where
  os : w'.os = w.os
  tape : w'.tape = w.tape
  output : w'.output = w.output
  size : w.heap.size ≤ w'.heap.size
  block : ∀ k, k < w.heap.size → k ≠ g → some k ≠ r → w'.heap[k]? = w.heap[k]?
theorem Sel.refl (g : Nat) (r : Option Nat) (w : World) : Sel g r w w := ⟨rfl, rfl, rfl, Nat.le_refl _, fun _ _ _ _ => rfl⟩
theorem Sel.trans {g : Nat} {r : Option Nat} {a b c : World} (h : Sel g r a b) (k : Sel g r b c) : Sel g r a c :=
  ⟨k.os.trans h.os, k.tape.trans h.tape, k.output.trans h.output, Nat.le_trans h.size k.size, fun i hi h1 h2 => (k.block i (Nat.lt_of_lt_of_le hi h.size) h1 h2).trans (h.block i hi h1 h2)⟩
theorem Sel.alloc {g : Nat} {r : Option Nat} {a w : World} (h : Sel g r a w) (o : Obj) : Sel g r a (w.alloc o) :=
  h.trans ⟨rfl, rfl, rfl, by simp, fun k hk _ _ => Below.heap_alloc _ _ _ hk⟩
theorem Sel.drew {g : Nat} {r : Option Nat} {a w : World} (h : Sel g r a w) : Sel g r a w.drew := ⟨h.os, h.tape, h.output, h.size, h.block⟩
theorem Sel.setG {g : Nat} {r : Option Nat} {a w : World} (h : Sel g r a w) (j : Nat) (u : Value) : Sel g r a (w.setCell ⟨g, j, none⟩ u) :=
  h.trans ⟨rfl, rfl, rfl, by simp [World.setCell], fun k hk h1 _ => Below.heap_setCell _ _ _ _ h1⟩
theorem Sel.setR {g gb : Nat} {a w : World} (h : Sel g (some gb) a w) (j : Nat) (u : Value) : Sel g (some gb) a (w.setCell ⟨gb, j, none⟩ u) :=
  h.trans ⟨rfl, rfl, rfl, by simp [World.setCell], fun k hk _ h2 => Below.heap_setCell _ _ _ _ (fun e => h2 (by rw [e]))⟩
theorem Sel.grown {g : Nat} {r : Option Nat} {a w w' : World} (h : Sel g r a w) (hg : w.grownBy w' r) : Sel g r a w' :=
  h.trans ⟨hg.os, hg.tape, hg.output, hg.size, fun k hk _ h2 => hg.block k hk h2⟩
theorem Sel.below {g : Nat} {r : Option Nat} {a w : World} {B : Nat} (h : Sel g r a w) (hB : B ≤ a.heap.size) (hg : B ≤ g) (hr : ∀ k, r = some k → B ≤ k) : Below B a w :=
  ⟨h.os, h.tape, h.output, h.size, fun k hk => h.block k (by omega) (by omega) (fun e => by have := hr k e.symm; omega)⟩
/-- A program of the call's own is kept by a step. -/
theorem Sel.prog {g base b2 : Nat} {w w' : World} {pc : Int} {v u vp : Value} {l : List Int} {P : List (Int × Int)} (h : Sel g v.ownBlock w w') (hm : MB w g pc u) (ho : OwnT base w v l) (hp : OwnP b2 w vp P) : OwnP b2 w' vp P := by
  rcases hp.2 with ⟨rfl, hn⟩ | ⟨gp, cap, cur, rfl, h1, h2, h3⟩
  · exact ⟨hp.1, .inl ⟨rfl, hn⟩⟩
  · refine ⟨hp.1, .inr ⟨gp, cap, cur, rfl, h1, ?_, h3⟩⟩
    rw [h.block gp (lt_of_block h2) ?_ ?_, h2]
    · intro e
      rw [e, hm] at h2
      cases h2
    · intro e
      rcases ho.2 with ⟨rfl, hn⟩ | ⟨gb, cap, cur, rfl, _, k2, _⟩
      · simp [Value.ownBlock] at e
      · have e' : gp = gb := by simpa [Value.ownBlock] using e
        rw [e', k2] at h2
        cases h2

theorem info21 : (Ybym.prog.info? 21).map (fun i => (i.zero, i.size, i.bytes)) = some (some (.int .i32 0), 1, 4) := by kernel_rfl

/-- 'append' to a row of the call's own, as one step of a region that draws. -/
theorem step_append_own {P : Program} {ops : Array Oper} {o : Oper} {a : Act} {w : World} {K : Act → World → Prop} {Q : Exit → Act → World → Prop} {E : Prop}
    (hg : o.guard = none) (s x : Operand) (t : TypeId) (hop : o.op = Op.call { callee := Callee.builtin Builtin.append, args := #[s, x], argTypes := #[t, t] })
    (base : Nat) (e : TypeId) (i : TypeInfo) (z : Value) (size bytes : Nat) (h1 : P.underlying t = some (.slice e)) (h2 : P.info? e = some i) (h3 : i.zero = some z) (h4 : i.size = size) (h5 : i.bytes = bytes) (h6 : z.cells.size = size) (h7 : 0 < size)
    (v : Value) (n : Nat) (xs : List Value) (hs : a.eval s = v) (hown : w.ownsRow base e size v n xs)
    (ad : Addr) (m c : Nat) (news : List Value) (hx : a.eval x = .slice (some ad) m c) (hn : news.length = m * size) (hc : ∀ j u, news[j]? = some u → w.cell? (ad.add j) = some u) (h1c : ∀ u ∈ news, u.oneCell' = true)
    (b1 : n + m ≤ maxLen) (b2 : (n + m) * bytes ≤ 140737488355328) (hbase : base ≤ w.heap.size)
    (hK : ∀ v' w', w'.ownsRow base e size v' (n + m) (xs ++ news) → w.grownBy w' v.ownBlock → K (a.put o.dst v') w') :
    if Region.wanted o (yielded ops a.tmps) = true then Oper.wp P o a w K Q else E := by
  have hw : Region.wanted o (yielded ops a.tmps) = true := by simp [Region.wanted, hg]
  rw [if_pos hw]
  obtain ⟨v', w', hrun, r1, r2, _⟩ := run_append_own (P := P) w base t o.type e i z size bytes h1 h2 h3 h4 h5 h6 h7 v n xs hown ad m c news hn hc h1c b1 b2 hbase
  unfold Oper.wp
  simp [execOp, hop, resolve, invoke, builtin, hs, hx, hrun, Result.andThen]
  exact hK v' w' r1 r2
theorem step_push_i32 {ops : Array Oper} {o : Oper} {a : Act} {w : World} {K : Act → World → Prop} {Q : Exit → Act → World → Prop} {E : Prop}
    (hg : o.guard = none) (s x : Operand) (hop : o.op = Op.call { callee := Callee.builtin Builtin.append, args := #[s, x], argTypes := #[51, 51] })
    (base : Nat) (v : Value) (l : List Int) (z : Int) (B C : Nat) (hs : a.eval s = v) (hx : a.eval x = .slice (some ⟨B, 0, none⟩) 1 C) (hown : OwnT base w v l) (hc : w.cell? ⟨B, 0, none⟩ = some (.int .i32 z))
    (hlen : l.length < 1000000) (hbase : base ≤ w.heap.size)
    (hK : ∀ v' w', OwnT base w' v' (l ++ [z]) → w.grownBy w' v.ownBlock → K (a.put o.dst v') w') :
    if Region.wanted o (yielded ops a.tmps) = true then Oper.wp Ybym.prog o a w K Q else E := by
  obtain ⟨i, hi, hz0, hz1, hz2⟩ := info_parts info21
  refine step_append_own hg s x 51 hop base 21 i (.int .i32 0) 1 4 Ybym.underlying51 hi hz0 hz1 hz2 rfl (by decide) v l.length (tcells l) hs hown ⟨B, 0, none⟩ 1 C [.int .i32 z] hx rfl ?_ ?_ ?_ ?_ hbase ?_
  · intro j u hj
    match j, hj with
    | 0, hj =>
      rw [add_plain]
      simp at hj
      rw [← hj]
      exact hc
  · intro u hu
    rw [List.mem_singleton] at hu
    rw [hu]
    rfl
  · unfold maxLen; omega
  · omega
  · intro v' w' h1 h2
    refine hK v' w' ?_ h2
    unfold OwnT
    rw [tcells_snoc, List.length_append, List.length_singleton]
    exact h1

theorem OwnT.drew {base : Nat} {w : World} {v : Value} {l : List Int} (h : OwnT base w v l) : OwnT base w.drew v l := h
theorem MB.drew {w : World} {g : Nat} {pc : Int} {v : Value} (h : MB w g pc v) : MB w.drew g pc v := h
theorem pushed {g : Nat} {w W w' : World} {k : Int} {v : Value} (hM : MB W g k v) (hne : v.ownBlock ≠ some g) (hS : Sel g v.ownBlock w W) (hgrow : W.grownBy w' v.ownBlock) : MB w' g k v ∧ Sel g v.ownBlock w w' :=
  ⟨(hgrow.block g hM.lt (fun e => hne e.symm)).trans hM, hS.grown hgrow⟩
theorem OwnT.setG {base g : Nat} {w : World} {v : Value} {l : List Int} (h : OwnT base w v l) (hne : v.ownBlock ≠ some g) (j : Nat) (u : Value) : OwnT base (w.setCell ⟨g, j, none⟩ u) v l := ownsRow_setCell_other h hne u
theorem set_last2 (l : List Int) (y x z : Int) (m : Nat) (h : l.length = m) : (l ++ [y, x]).set m z = (l ++ [z]) ++ [x] := by
  subst h
  rw [List.set_append_right _ _ (Nat.le_refl _)]
  simp
theorem set_swap2 (l : List Int) (y x : Int) (m : Nat) (h : l.length = m) : ((l ++ [y, x]).set m x).set (m + 1) y = l ++ [x, y] := by
  subst h
  rw [List.set_append_right _ _ (Nat.le_refl _), List.set_append_right _ _ (by omega)]
  simp
/-- What a step has done: its answer, the machine behind it, and that all else is as it was. -/
def Did (base g : Nat) (w : World) (v : Value) (ans pc' : Int) (st' : List Int) (e : Ending) (w' : World) : Prop :=
  e = .returned (.int .i64 ans) ∧ Sel g v.ownBlock w w' ∧ ∃ v', MB w' g pc' v' ∧ OwnT base w' v' st'
end Go.Proofs.Ymbrby

import Derived.Test.YmbrbwCutAll
import Derived.OwnWalk
import Derived.Laws.AppendOwn
import Derived.Laws.OwnMore
import Derived.Laws.IdiomStrings
namespace Go.Proofs.Ymbrbw
open Go.ChangeShapes Go.WideShapes Go.ChangeAt Go.RowKit
set_option linter.unusedVariables false
set_option linter.unusedSimpArgs false

/-! ### All fields of a line -/
def fieldsF : Nat → List UInt8 → List (List UInt8)
  | 0, _ => []
  | n + 1, l => if (cutF l).1 = [] then [] else (cutF l).1 :: fieldsF n (cutF l).2
def fields (l : List UInt8) : List (List UInt8) := fieldsF (l.length + 1) l

theorem cut_shorter (l : List UInt8) (h : (cutF l).1 ≠ []) : (cutF l).2.length < l.length := by
  obtain ⟨b, e, _⟩ := cut_parts l
  have h1 := congrArg List.length e
  rw [List.length_append, List.length_append] at h1
  have h2 : 0 < (cutF l).1.length := by
    cases hc : (cutF l).1 with
    | nil => exact absurd hc h
    | cons c t => simp
  omega
theorem fieldsF_more : ∀ (n m : Nat) (l : List UInt8), l.length < n → l.length < m → fieldsF n l = fieldsF m l
  | 0, _, l, h, _ => by omega
  | n + 1, 0, l, _, h => by omega
  | n + 1, m + 1, l, h1, h2 => by
    show (if (cutF l).1 = [] then [] else (cutF l).1 :: fieldsF n (cutF l).2) = if (cutF l).1 = [] then [] else (cutF l).1 :: fieldsF m (cutF l).2
    by_cases h : (cutF l).1 = []
    · rw [if_pos h, if_pos h]
    · have := cut_shorter l h
      rw [if_neg h, if_neg h, fieldsF_more n m _ (by omega) (by omega)]
theorem fields_none (l : List UInt8) (h : (cutF l).1 = []) : fields l = [] := by
  show (if (cutF l).1 = [] then [] else _) = []
  rw [if_pos h]
theorem fields_some (l : List UInt8) (h : (cutF l).1 ≠ []) : fields l = (cutF l).1 :: fields (cutF l).2 := by
  show (if (cutF l).1 = [] then [] else (cutF l).1 :: fieldsF l.length (cutF l).2) = _
  rw [if_neg h]
  have := cut_shorter l h
  rw [fieldsF_more l.length ((cutF l).2.length + 1) _ (by omega) (by omega)]
  rfl

/-! ### A slice of strings that the call itself makes -/
theorem alloc_first (w : World) (v : Value) (t : TypeId) : (w.alloc (.cells #[v] t)).cell? ⟨w.heap.size, 0, none⟩ = some v := by
  rw [World.cell?_alloc_mark]
  rfl
theorem alloc_le {w : World} {B : Nat} (h : B ≤ w.heap.size) (o : Obj) : B ≤ (w.alloc o).heap.size := by
  show B ≤ (w.heap.push o).size
  rw [Array.size_push]
  omega
def scells (ls : List (List UInt8)) : List Value := ls.map fun l => .string ⟨l.toArray⟩
theorem scells_snoc (ls : List (List UInt8)) (l : List UInt8) : scells (ls ++ [l]) = scells ls ++ [.string ⟨l.toArray⟩] := by simp [scells]
def OwnS (base : Nat) (w : World) (v : Value) (ls : List (List UInt8)) : Prop := w.ownsRow base 9 1 v ls.length (scells ls)
theorem OwnS.nil (base : Nat) (w : World) : OwnS base w (.slice none 0 0) [] := World.ownsRow_nil _ _ _ _
theorem OwnS.alloc {base : Nat} {w : World} {v : Value} {ls : List (List UInt8)} (h : OwnS base w v ls) (o : Obj) : OwnS base (w.alloc o) v ls := World.ownsRow.alloc h o
theorem OwnS.size {base : Nat} {w : World} {v : Value} {ls : List (List UInt8)} (h : OwnS base w v ls) : ∀ k, v.ownBlock = some k → base ≤ k := fun k hk => (World.ownsRow.lt h k hk).1
theorem info9 : (Ybwm.prog.info? 9).map (fun i => (i.zero, i.size, i.bytes)) = some (some (.string ⟨#[]⟩), 1, 16) := by kernel_rfl

/-- 'out = append(out, s)'. -/
theorem wpList_push_str {w : World} {ops : Array Oper} {rest : List Oper} {o : Oper} {a : Act} {Q : Exit → Act → World → Prop} (hgd : o.guard = none) (s x : Operand)
    (ho : o.op = .call { callee := .builtin .append, args := #[s, x], argTypes := #[61, 61] }) (base : Nat) (v : Value) (ls : List (List UInt8)) (t : ByteArray) (B : Nat) (C : Nat)
    (hs : a.eval s = v) (hx : a.eval x = .slice (some ⟨B, 0, none⟩) 1 C) (hown : OwnS base w v ls) (hc : w.cell? ⟨B, 0, none⟩ = some (.string t))
    (hlen : ls.length < 1000000) (hbase : base ≤ w.heap.size)
    (h : ∀ v' w', OwnS base w' v' (ls ++ [t.data.toList]) → w.grownBy w' v.ownBlock → wpList Ybwm.prog ops Q rest (a.put o.dst v') w') : wpList Ybwm.prog ops Q (o :: rest) a w := by
  obtain ⟨i, hi, hz0, hz1, hz2⟩ := info_parts info9
  refine wpList_append_own w hgd s x 61 ho base 9 i (.string ⟨#[]⟩) 1 16 Ybwm.underlying61 hi hz0 hz1 hz2 rfl (by decide) v ls.length (scells ls) hs hown ⟨B, 0, none⟩ 1 C [.string t] hx rfl ?_ ?_ ?_ ?_ hbase ?_
  · intro j u hj
    match j, hj with
    | 0, hj =>
      rw [add_plain]
      simp at hj
      rw [← hj]
      exact hc
  · intro u hu
    rw [List.mem_singleton] at hu
    rw [hu]
    rfl
  · unfold maxLen; omega
  · omega
  · intro v' w' h1 h2 _
    refine h v' w' ?_ h2
    unfold OwnS
    rw [scells_snoc, List.length_append, List.length_singleton]
    exact h1
/-- What is owned, by its shape: the value's form and its cells. -/
theorem OwnS.form {base : Nat} {w : World} {v : Value} {ls : List (List UInt8)} (h : OwnS base w v ls) (h0 : 0 < ls.length) : ∃ g cap, v = .slice (some ⟨g, 0, none⟩) ls.length cap ∧ ∀ j, (hj : j < ls.length) → w.cell? ⟨g, j, none⟩ = some (.string ⟨ls[j].toArray⟩) := by
  rcases h.2 with ⟨_, hn⟩ | ⟨g, cap, cur, rfl, _, _⟩
  · omega
  · refine ⟨g, cap, rfl, fun j hj => ?_⟩
    rw [World.ownsRow.cellAt h j (by omega)]
    unfold scells
    rw [List.getElem?_map, List.getElem?_eq_getElem hj]
    rfl
theorem OwnS.form0 {base : Nat} {w : World} {v : Value} (h : OwnS base w v []) : ∃ a cap, v = .slice a 0 cap := by
  rcases h.2 with ⟨rfl, _⟩ | ⟨g, cap, cur, rfl, _⟩
  · exact ⟨none, 0, rfl⟩
  · exact ⟨_, cap, rfl⟩
end Go.Proofs.Ymbrbw

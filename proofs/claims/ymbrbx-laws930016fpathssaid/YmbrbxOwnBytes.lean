import Derived.Test.YmbrbxBase
import Derived.OwnWalk
import Derived.Laws.AppendOwn
import Derived.Laws.OwnMore
import Derived.Laws.IdiomStrings
namespace Go.Proofs.Ymbrbx
open Go.ChangeShapes Go.WideShapes Go.ChangeAt Go.RowKit
set_option linter.unusedVariables false
set_option linter.unusedSimpArgs false

/-! ### A slice of bytes that the call itself makes, by append -/
theorem alloc_first (w : World) (v : Value) (t : TypeId) : (w.alloc (.cells #[v] t)).cell? ⟨w.heap.size, 0, none⟩ = some v := by
  rw [World.cell?_alloc_mark]
  rfl
theorem alloc_le {w : World} {B : Nat} (h : B ≤ w.heap.size) (o : Obj) : B ≤ (w.alloc o).heap.size := by
  show B ≤ (w.heap.push o).size
  rw [Array.size_push]
  omega
def bcells (l : List UInt8) : List Value := l.map fun c => .int .u8 (c.toNat : Int)
theorem bcells_snoc (l : List UInt8) (c : UInt8) : bcells (l ++ [c]) = bcells l ++ [.int .u8 (c.toNat : Int)] := by simp [bcells]
theorem bcells_append (l m : List UInt8) : bcells (l ++ m) = bcells l ++ bcells m := by simp [bcells]
/-- The slice value v owns the bytes l. -/
def OwnB (base : Nat) (w : World) (v : Value) (l : List UInt8) : Prop := w.ownsRow base 5 1 v l.length (bcells l)
theorem OwnB.nil (base : Nat) (w : World) : OwnB base w (.slice none 0 0) [] := World.ownsRow_nil _ _ _ _

theorem info5 : (Ybxm.prog.info? 5).map (fun i => (i.zero, i.size, i.bytes)) = some (some (.int .u8 0), 1, 1) := by kernel_rfl

/-- 'b = append(b, c)'. -/
theorem wpList_push_byte {w : World} {ops : Array Oper} {rest : List Oper} {o : Oper} {a : Act} {Q : Exit → Act → World → Prop} (hgd : o.guard = none) (s x : Operand)
    (ho : o.op = .call { callee := .builtin .append, args := #[s, x], argTypes := #[22, 22] }) (base : Nat) (v : Value) (l : List UInt8) (c : UInt8) (z : Int) (B : Nat) (C : Nat)
    (hs : a.eval s = v) (hx : a.eval x = .slice (some ⟨B, 0, none⟩) 1 C) (hown : OwnB base w v l) (hc : w.cell? ⟨B, 0, none⟩ = some (.int .u8 z)) (hz : z = (c.toNat : Int))
    (hlen : l.length < 1000000) (hbase : base ≤ w.heap.size)
    (h : ∀ v' w', OwnB base w' v' (l ++ [c]) → w.grownBy w' v.ownBlock → wpList Ybxm.prog ops Q rest (a.put o.dst v') w') : wpList Ybxm.prog ops Q (o :: rest) a w := by
  obtain ⟨i, hi, hz0, hz1, hz2⟩ := info_parts info5
  refine wpList_append_own w hgd s x 22 ho base 5 i (.int .u8 0) 1 1 Ybxm.underlying22 hi hz0 hz1 hz2 rfl (by decide) v l.length (bcells l) hs hown ⟨B, 0, none⟩ 1 C [.int .u8 z] hx rfl ?_ ?_ ?_ ?_ hbase ?_
  · intro j u hj
    match j, hj with
    | 0, hj =>
      rw [add_plain]
      simp at hj
      rw [← hj]
      exact hc
  · intro u hu
    rw [List.mem_singleton] at hu
    rw [hu]
    rfl
  · unfold maxLen; omega
  · omega
  · intro v' w' h1 h2 _
    refine h v' w' ?_ h2
    unfold OwnB
    rw [bcells_snoc, List.length_append, List.length_singleton, ← hz]
    exact h1

/-- 'string(b)'. -/
theorem OwnB.text {base : Nat} {w : World} {v : Value} {l : List UInt8} (h : OwnB base w v l) : (convert 22 9 v).run Ybxm.prog w = .ok (.string ⟨l.toArray⟩) w := by
  rcases h.2 with ⟨rfl, hn⟩ | ⟨g, cap, cur, rfl, _, hg, _, _, hsz, hcur⟩
  · have hl : l = [] := List.eq_nil_of_length_eq_zero hn
    subst hl
    rw [run_convert_bytes_string w 22 9 5 none 0 0 Ybxm.underlying22 Ybxm.underlying5 Ybxm.underlying9]
    rfl
  · refine run_convert_bytes_back w 22 9 5 ⟨g, 0, none⟩ cap l Ybxm.underlying22 Ybxm.underlying5 Ybxm.underlying9 (fun j hj => ?_)
    rw [add_plain, Nat.zero_add, World.ownsRow.cellAt h j (by omega)]
    unfold bcells
    rw [List.getElem?_map, List.getElem?_eq_getElem hj]
    rfl

theorem OwnB.alloc {base : Nat} {w : World} {v : Value} {l : List UInt8} (h : OwnB base w v l) (o : Obj) : OwnB base (w.alloc o) v l := World.ownsRow.alloc h o
theorem OwnB.size {base : Nat} {w : World} {v : Value} {l : List UInt8} (h : OwnB base w v l) : ∀ k, v.ownBlock = some k → base ≤ k := fun k hk => (World.ownsRow.lt h k hk).1

/-! ### 'make([]byte, n)', and stores into it -/
theorem wpList_make_bytes {w : World} {ops : Array Oper} {rest : List Oper} {o : Oper} {a : Act} {Q : Exit → Act → World → Prop} (hg : o.guard = none) (l c : Operand)
    (hop : o.op = Op.makeSlice 22 l c) (base n : Nat) (L C : Int) (hl : a.eval l = .int .i64 L) (hc : a.eval c = .int .i64 C) (hL : L = (n : Int)) (hC : C = (n : Int)) (hn : n ≤ 1000000) (hb : base ≤ w.heap.size)
    (h : ∀ w', OwnB base w' (.slice (some ⟨w.heap.size, 0, none⟩) n n) (List.replicate n 0) → w.grownBy w' none → wpList Ybxm.prog ops Q rest (a.put o.dst (.slice (some ⟨w.heap.size, 0, none⟩) n n)) w') :
    wpList Ybxm.prog ops Q (o :: rest) a w := by
  obtain ⟨i, hi, hz0, hz1, hz2⟩ := info_parts info5
  refine wpList_make_full w hg l c 22 hop base 5 i (.int .u8 0) 1 Ybxm.underlying22 hi hz0 hz1 .i64 .i64 L C n hl hc hL hC (by rw [hz2]; omega) (by unfold maxLen; omega) hb ?_
  intro w' h1 h2
  refine h w' ?_ h2
  unfold OwnB bcells
  rw [List.length_replicate, List.map_replicate]
  have e : (madeCells (Value.int .u8 0).cells (n * 1)).toList = List.replicate n (.int .u8 0) := by
    rw [Nat.mul_one]
    exact toList_madeCells_one _ _
  rw [e] at h1
  exact h1
theorem OwnB.store {base g n : Nat} {w : World} {l : List UInt8} (h : OwnB base w (.slice (some ⟨g, 0, none⟩) n n) l) (hl : l.length = n) (j : Nat) (c : UInt8) {z : Int} (hz : z = (c.toNat : Int)) :
    OwnB base (w.setCell ⟨g, j, none⟩ (.int .u8 z)) (.slice (some ⟨g, 0, none⟩) n n) (l.set j c) := by
  unfold OwnB at h ⊢
  rw [hl] at h
  have := (World.ownsRow.stored h j (.int .u8 z)).1
  rw [List.length_set, hl]
  have e : bcells (l.set j c) = (bcells l).set j (.int .u8 z) := by unfold bcells; rw [List.map_set, hz]
  rw [e]
  exact this
theorem OwnB.at {base g n : Nat} {w : World} {l : List UInt8} (h : OwnB base w (.slice (some ⟨g, 0, none⟩) n n) l) (hl : l.length = n) (j : Nat) (hj : j < l.length) : w.cell? ⟨g, j, none⟩ = some (.int .u8 (l[j].toNat : Int)) := by
  unfold OwnB at h
  rw [hl] at h
  rw [World.ownsRow.cellAt h j (by omega)]
  unfold bcells
  rw [List.getElem?_map, List.getElem?_eq_getElem hj]
  rfl
theorem OwnB.free {base g n : Nat} {w : World} {l : List UInt8} (h : OwnB base w (.slice (some ⟨g, 0, none⟩) n n) l) (hl : l.length = n) (j : Nat) : w.frozen? ⟨g, j, none⟩ = false := by
  unfold OwnB at h
  rw [hl] at h
  exact World.ownsRow.frozenAt h j
theorem byte_of (x : Int) (h0 : 0 ≤ x) (h1 : x ≤ 255) : ∃ c : UInt8, x = (c.toNat : Int) := ⟨UInt8.ofNat x.toNat, by rw [UInt8.toNat_ofNat']; omega⟩
end Go.Proofs.Ymbrbx

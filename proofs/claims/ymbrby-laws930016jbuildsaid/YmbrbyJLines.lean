import Derived.Test.YmbrbyJPlain
import Derived.Test.YmbrbyBBuiltPlain
import Derived.Test.YmbrbyCDec
import Derived.Lib.AppendStr
import Derived.BigQuiet
import Derived.Lib.SliceRun
namespace Go.Proofs.Ymbrby
open Go.ChangeShapes Go.WideShapes Go.ChangeAt Go.RowKit
set_option linter.unusedVariables false
set_option linter.unusedSimpArgs false

/-! ### What a walk is told of a slice of line descriptions that came in -/
structure JL where
  kind : Int
  op : Int
  arg : Int
  pad : Int
def okJ (q : JL) : Prop := (0 ≤ q.kind ∧ q.kind ≤ 255) ∧ (0 ≤ q.op ∧ q.op ≤ 255) ∧ (-2147483648 ≤ q.arg ∧ q.arg ≤ 2147483647) ∧ (0 ≤ q.pad ∧ q.pad ≤ 255)
def JLAt (w : World) (b o : Nat) (q : JL) : Prop :=
  w.cell? ⟨b, o, none⟩ = some (.int .u8 q.kind) ∧ w.cell? ⟨b, o + 1, none⟩ = some (.int .u8 q.op) ∧ w.cell? ⟨b, o + 2, none⟩ = some (.int .i32 q.arg) ∧ w.cell? ⟨b, o + 3, none⟩ = some (.int .u8 q.pad)
def LinesAt (w : World) (a : Option Addr) (len : Nat) : Prop :=
  len ≤ maxLen ∧ (len = 0 ∨ ∃ b off, a = some ⟨b, off, none⟩ ∧ b < w.heap.size ∧ ∃ E : Nat → JL, ∀ j, j < len → JLAt w b (off + j * 4) (E j) ∧ okJ (E j))
theorem add_add' (a : Addr) (i j : Nat) : (a.add i).add j = a.add (i + j) := by
  unfold Addr.add
  by_cases hi : i = 0 <;> by_cases hj : j = 0 <;> simp [hi, hj, Nat.add_assoc]
theorem cells34 : Ybym.prog.cellsOf 34 = 4 := by kernel_rfl
theorem cells5 : Ybym.prog.cellsOf 5 = 1 := by kernel_rfl
theorem cells21 : Ybym.prog.cellsOf 21 = 1 := by kernel_rfl
theorem lines_at {H : Type} {enc : TypeId × Value → H} {w : World} {base : Nat} {held : Bool} {a : Option Addr} {len cap : Nat} {d : DataW H} {p : List MemPlace}
    (h : DataW.Trod enc Ybym.prog w base (fun _ => true) held 30 (.slice a len cap) d p) : LinesAt w a len := by
  obtain ⟨fuel, hf⟩ := h
  rcases Deep.open_slice Ybym.underlying30 hf with ⟨hcs, _⟩ | ⟨x, l, c, m, n, D, Pl, hcs, _, hl, hm, hmm, _, hx⟩
  · simp [Value.cells] at hcs
    obtain ⟨rfl, rfl, rfl⟩ := hcs
    exact ⟨Nat.zero_le _, .inl rfl⟩
  · simp [Value.cells] at hcs
    obtain ⟨rfl, rfl, rfl⟩ := hcs
    simp only [if_true] at hmm
    subst hmm
    refine ⟨Nat.le_trans hl hm, ?_⟩
    by_cases h0 : len = 0
    · exact .inl h0
    · have each : ∀ j, j < len → ∃ q : JL, (w.cell? (x.add (j * 4)) = some (.int .u8 q.kind) ∧ w.cell? (x.add (j * 4 + 1)) = some (.int .u8 q.op) ∧ w.cell? (x.add (j * 4 + 2)) = some (.int .i32 q.arg) ∧ w.cell? (x.add (j * 4 + 3)) = some (.int .u8 q.pad)) ∧ okJ q := by
        intro j hj
        obtain ⟨cs', h1, h2⟩ := hx j (by omega)
        rw [cells34] at h1
        obtain ⟨_, hlen, hcell⟩ := World.cells?_some h1
        obtain ⟨xs, k, hk, hxy, _, hxl, hfx⟩ := DataW.trod_struct Ybym.underlying34 h2
        match xs, hxl, cs', hlen with
        | [y0, y1, y2, y3], _, [v0, v1, v2, v3], _ =>
          have g0 := hfx 0 _ rfl
          have g1 := hfx 1 _ rfl
          have g2 := hfx 2 _ rfl
          have g3 := hfx 3 _ rfl
          simp [cells5, cells21] at g0 g1 g2 g3
          obtain ⟨n0, e0, _, b0⟩ := DataW.trod_int Ybym.underlying5 g0
          obtain ⟨n1, e1, _, b1⟩ := DataW.trod_int Ybym.underlying5 g1
          obtain ⟨n2, e2, _, b2⟩ := DataW.trod_int Ybym.underlying21 g2
          obtain ⟨n3, e3, _, b3⟩ := DataW.trod_int Ybym.underlying5 g3
          have k0 := hcell 0 (by omega)
          have k1 := hcell 1 (by omega)
          have k2 := hcell 2 (by omega)
          have k3 := hcell 3 (by omega)
          rw [add_add'] at k0 k1 k2 k3
          have e0' : v0 = .int .u8 n0 := by simpa using e0
          have e1' : v1 = .int .u8 n1 := by simpa using e1
          have e2' : v2 = .int .i32 n2 := by simpa using e2
          have e3' : v3 = .int .u8 n3 := by simpa using e3
          subst e0' e1' e2' e3'
          exact ⟨⟨n0, n1, n2, n3⟩, ⟨by simpa using k0, by simpa using k1, by simpa using k2, by simpa using k3⟩, bounds_u8 b0, bounds_u8 b1, bounds_i32 b2, bounds_u8 b3⟩
      obtain ⟨b, off, spot⟩ := x
      have hinh : Inhabited JL := ⟨⟨0, 0, 0, 0⟩⟩
      obtain ⟨Q, hQ⟩ := Deep.choose_lt each
      obtain rfl : spot = none := spot_none (by have := (hQ 0 (by omega)).1.1; rw [Nat.zero_mul] at this; exact this)
      refine .inr ⟨b, off, rfl, ?_, Q, fun j hj => ?_⟩
      · have := (hQ 0 (by omega)).1.1
        rw [add_plain] at this
        exact block_lt this
      · obtain ⟨⟨q0, q1, q2, q3⟩, hok⟩ := hQ j hj
        rw [add_plain] at q0 q1 q2 q3
        exact ⟨⟨q0, q1, q2, q3⟩, hok⟩
theorem lines_list {w : World} {a : Option Addr} {n : Nat} (h : LinesAt w a n) : ∃ E : List JL, E.length = n ∧ (∀ q ∈ E, okJ q) ∧
    (n = 0 ∨ ∃ b off, a = some ⟨b, off, none⟩ ∧ b < w.heap.size ∧ ∀ j, (hj : j < E.length) → JLAt w b (off + j * 4) E[j]) := by
  rcases h.2 with h | ⟨b, off, h1, h2, E, h3⟩
  · exact ⟨[], by rw [h]; rfl, by simp, .inl h⟩
  · refine ⟨(List.range n).map E, by simp, ?_, .inr ⟨b, off, h1, h2, ?_⟩⟩
    · intro q hq
      obtain ⟨j, hj, rfl⟩ := List.mem_map.1 hq
      exact (h3 j (List.mem_range.1 hj)).2
    · intro j hj
      have hj' : j < n := by simpa using hj
      simp only [List.getElem_map, List.getElem_range]
      exact (h3 j hj').1

/-! ### The bytes that grow, while blocks of other kinds stay as they are -/
def Keep5 (w w' : World) : Prop := ∀ (k : Nat) (cs : Array Value) (t : TypeId) (fz : Nat × Nat), t ≠ 5 → w.heap[k]? = some (.cells cs t fz) → w'.heap[k]? = some (.cells cs t fz)
theorem Keep5.refl (w : World) : Keep5 w w := fun _ _ _ _ _ h => h
theorem Keep5.trans {a b c : World} (h : Keep5 a b) (k : Keep5 b c) : Keep5 a c := fun i cs t fz ht hh => k i cs t fz ht (h i cs t fz ht hh)
theorem lt_of_some {w : World} {k : Nat} {o : Obj} (h : w.heap[k]? = some o) : k < w.heap.size := by
  rcases Nat.lt_or_ge k w.heap.size with h' | h'
  · exact h'
  · simp [Array.getElem?_eq_none h'] at h
theorem Keep5.alloc {w w' : World} (h : Keep5 w w') (o : Obj) : Keep5 w (w'.alloc o) := fun k cs t fz ht hh => by
  have h1 := h k cs t fz ht hh
  rw [Below.heap_alloc _ _ _ (lt_of_some h1)]
  exact h1
theorem Keep5.grown {base : Nat} {w0 w w' : World} {v : Value} {l : List UInt8} (hk : Keep5 w0 w) (h : OwnB base w v l) (hg : w.grownBy w' v.ownBlock) : Keep5 w0 w' := fun k cs t fz ht hh => by
  have h1 := hk k cs t fz ht hh
  rw [hg.block k (lt_of_some h1) ?_]
  · exact h1
  · intro e
    rcases h.2 with ⟨rfl, _⟩ | ⟨g, cap, cur, rfl, _, hh, _⟩
    · simp [Value.ownBlock] at e
    · have e2 : k = g := by simpa [Value.ownBlock] using e
      rw [e2, hh] at h1
      simp at h1
      exact ht h1.2.1.symm
theorem OwnP.keep {base : Nat} {w w' : World} {v : Value} {P : List (Int × Int)} (h : OwnP base w v P) (hk : Keep5 w w') : OwnP base w' v P := by
  obtain ⟨h1, h2⟩ := h
  refine ⟨h1, ?_⟩
  rcases h2 with h2 | ⟨g, cap, cur, hv, hg, hh, r⟩
  · exact .inl h2
  · exact .inr ⟨g, cap, cur, hv, hg, hk g cur 25 _ (by decide) hh, r⟩
theorem push_text {w : World} {ops : Array Oper} {rest : List Oper} {o : Oper} {a : Act} {Q : Exit → Act → World → Prop} (hgd : o.guard = none) (s x : Operand)
    (ho : o.op = .call { callee := .builtin .append, args := #[s, x], argTypes := #[31, 9] }) (base : Nat) (v : Value) (l : List UInt8) (t : ByteArray)
    (hs : a.eval s = v) (hx : a.eval x = .string t) (hown : OwnB base w v l) (hlen : l.length + t.size < 1000000) (hbase : base ≤ w.heap.size)
    (h : ∀ v' w', OwnB base w' v' (l ++ t.data.toList) → Keep5 w w' → Below base w w' → wpList Ybym.prog ops Q rest (a.put o.dst v') w') : wpList Ybym.prog ops Q (o :: rest) a w := by
  obtain ⟨i, hi, hz0, hz1, hz2⟩ := info_parts info5
  refine Go.Lib.wpList_append_own_string w hgd s x 31 9 ho base 5 i Ybym.underlying31 Ybym.underlying9 hi hz0 hz1 hz2 v l.length (bcells l) hs hown t hx (by unfold maxLen; omega) (by omega) hbase ?_
  intro v' w' h1 h2 _
  refine h v' w' ?_ ((Keep5.refl w).grown hown h2) ((Below.refl _ _).grown h2 hbase hown.size)
  unfold OwnB
  rw [bcells_append, List.length_append]
  exact h1
theorem push_byte {w : World} {ops : Array Oper} {rest : List Oper} {o : Oper} {a : Act} {Q : Exit → Act → World → Prop} (hgd : o.guard = none) (s x : Operand)
    (ho : o.op = .call { callee := .builtin .append, args := #[s, x], argTypes := #[31, 31] }) (base : Nat) (v : Value) (l : List UInt8) (c : UInt8) (z : Int) (w0 : World) (ob : Obj) (hw : w = w0.alloc ob) (hob : ob = .cells #[.int .u8 z] 5) (C : Nat)
    (hs : a.eval s = v) (hx : a.eval x = .slice (some ⟨w0.heap.size, 0, none⟩) 1 C) (hown : OwnB base w0 v l) (hz : z = (c.toNat : Int)) (hlen : l.length < 1000000) (hbase : base ≤ w0.heap.size)
    (h : ∀ v' w', OwnB base w' v' (l ++ [c]) → Keep5 w0 w' → Below base w0 w' → wpList Ybym.prog ops Q rest (a.put o.dst v') w') : wpList Ybym.prog ops Q (o :: rest) a w := by
  subst hw hob
  refine wpList_push_byte hgd s x ho base v l c z w0.heap.size C hs hx (hown.alloc _) (alloc_first _ _ _) hz hlen (alloc_le hbase _) ?_
  intro v' w' h1 h2
  exact h v' w' h1 (((Keep5.refl w0).alloc _).grown (hown.alloc _) h2) (((Below.refl _ _).alloc hbase _).grown h2 (alloc_le hbase _) hown.size)
end Go.Proofs.Ymbrby

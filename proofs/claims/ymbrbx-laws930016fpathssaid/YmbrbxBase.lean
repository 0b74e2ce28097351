import Derived.Test.YmbrbxRows
import Derived.WalkKit
import Derived.ProofKit
import Derived.OpenShut
import Derived.ShutString
import Derived.Below
import Derived.Laws.Strings
import Derived.Lib.Strings
namespace Go.Proofs.Ymbrbx
open Go.ChangeShapes Go.WideShapes Go.ChangeAt Go.RowKit
set_option linter.unusedVariables false
set_option linter.unusedSimpArgs false

/-! ### Strings: Go's '==' as the walk writes it -/
theorem str_ext {a b : ByteArray} (h : a.data.toList = b.data.toList) : a = b := by
  cases a; cases b; simp_all
theorem str_eq_iff (a b : ByteArray) : (a.toList == b.toList) = true ↔ a = b := by
  rw [Go.Lib.toList_data, Go.Lib.toList_data]
  constructor
  · intro h; exact str_ext (by simpa using h)
  · intro h; simp [h]
theorem eqb_pos {a b : ByteArray} (h : a = b) : (a.toList == b.toList) = true := (str_eq_iff a b).2 h
theorem eqb_neg {a b : ByteArray} (h : ¬ a = b) : (a.toList == b.toList) = false := by
  cases e : (a.toList == b.toList) with
  | false => rfl
  | true => exact absurd ((str_eq_iff a b).1 e) h
theorem eqb_dec (a b : ByteArray) : (a.toList == b.toList) = decide (a = b) := by
  by_cases h : a = b
  · rw [eqb_pos h, decide_eq_true h]
  · rw [eqb_neg h, decide_eq_false h]

theorem eqb_lit {s : ByteArray} {l : List UInt8} (h : ¬ s = ⟨l.toArray⟩) : (s.toList == l) = false := by
  have := eqb_neg h
  rw [Go.Lib.toList_data (⟨l.toArray⟩ : ByteArray)] at this
  exact this
theorem eqb_lit_pos {s : ByteArray} {l : List UInt8} (h : s = ⟨l.toArray⟩) : (s.toList == l) = true := by
  have := eqb_pos h
  rw [Go.Lib.toList_data (⟨l.toArray⟩ : ByteArray)] at this
  exact this

theorem int_ne {a b : Int} (h : ¬ a = b) : (a == b) = false := by
  cases e : (a == b) with
  | false => rfl
  | true => exact absurd (eq_of_beq e) h
theorem int_eq {a b : Int} (h : a = b) : (a == b) = true := by rw [h]; exact beq_self_eq_true b

/-! ### What came back -/
theorem ret_int {k : IntKind} {a b : Int} (h : a = b) : Ending.returned (.int k a) = .returned (.int k b) := by rw [h]
theorem ret_bool {a b : Bool} (h : a = b) : Ending.returned (.bool a) = .returned (.bool b) := by rw [h]
theorem ret_str {a b : ByteArray} (h : a = b) : Ending.returned (.string a) = .returned (.string b) := by rw [h]

/-- Behind a call that made memory: all old cells and marks read as before. -/
theorem bcell {W w1 : World} (hb : Below W.heap.size W w1) : (∀ b o, b < W.heap.size → w1.cell? ⟨b, o, none⟩ = W.cell? ⟨b, o, none⟩) ∧ (∀ b o, b < W.heap.size → w1.frozen? ⟨b, o, none⟩ = W.frozen? ⟨b, o, none⟩) :=
  ⟨fun b o h => hb.cell (p := ⟨b, o, none⟩) h, fun b o h => hb.frozen (p := ⟨b, o, none⟩) h⟩

/-- What a walk is told of a slice of integers that came in. -/
def IsRow (k : IntKind) (w : World) (a : Option Addr) (len cap : Nat) (zs : List Int) : Prop :=
  (a = none ∧ len = 0 ∧ cap = 0 ∧ zs = []) ∨
  ∃ x, a = some x ∧ len ≤ cap ∧ cap ≤ maxLen ∧ zs.length = cap ∧ (∀ i, i < zs.length → w.cell? (x.add i) = some (.int k (zs.getD i 0))) ∧ ∀ n ∈ zs, (Lit.int k n).wf = true

/-- The same, by its elements: nothing is there, or each element lies in a plain cell. -/
theorem IsRow.view {k : IntKind} {w : World} {a : Option Addr} {len cap : Nat} {zs : List Int} (h : IsRow k w a len cap zs) :
    len ≤ maxLen ∧ (len = 0 ∨ ∃ b off, a = some ⟨b, off, none⟩ ∧ b < w.heap.size ∧ ∀ j, j < len → (w.cell? ⟨b, off + j, none⟩ = some (.int k (zs.getD j 0)) ∧ (Lit.int k (zs.getD j 0)).wf = true)) := by
  rcases h with ⟨_, h, _, _⟩ | ⟨x, rfl, h1, h2, h3, h4, h5⟩
  · exact ⟨by rw [h]; exact Nat.zero_le _, .inl h⟩
  · refine ⟨Nat.le_trans h1 h2, ?_⟩
    by_cases hl : len = 0
    · exact .inl hl
    · obtain ⟨b, off, spot⟩ := x
      have h0 := h4 0 (by omega)
      have hspot : spot = none := by simpa [Addr.add] using World.cell?_spot h0
      subst hspot
      refine .inr ⟨b, off, rfl, ?_, fun j hj => ⟨by rw [← add_plain]; exact h4 j (by omega), ?_⟩⟩
      · rcases Nat.lt_or_ge b w.heap.size with hb | hb
        · exact hb
        · rw [add_plain] at h0
          unfold World.cell? at h0
          rw [Array.getElem?_eq_none (by simpa using hb)] at h0
          simp at h0
      · refine h5 _ ?_
        rw [List.getD_eq_getElem?_getD, List.getElem?_eq_getElem (by omega)]
        exact List.getElem_mem _
end Go.Proofs.Ymbrbx

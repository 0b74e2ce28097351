import Derived.Test.YmbrbxBase
import Derived.Deep.Grids
import Derived.Deep.SlicePairs
namespace Go.Proofs.Ymbrbx
open Go.ChangeShapes Go.WideShapes Go.ChangeAt Go.RowKit
set_option linter.unusedVariables false
set_option linter.unusedSimpArgs false

/-! ### What a walk is told of a slice of bools, or of pairs (byte, int32), that came in -/
def BoolsAt (w : World) (a : Option Addr) (len : Nat) : Prop :=
  len ≤ maxLen ∧ (len = 0 ∨ ∃ b off, a = some ⟨b, off, none⟩ ∧ b < w.heap.size ∧ ∃ B : Nat → Bool, ∀ j, j < len → w.cell? ⟨b, off + j, none⟩ = some (.bool (B j)))
def RecsAt (w : World) (a : Option Addr) (len : Nat) : Prop :=
  len ≤ maxLen ∧ (len = 0 ∨ ∃ b off, a = some ⟨b, off, none⟩ ∧ b < w.heap.size ∧ ∃ (O A : Nat → Int), ∀ j, j < len → w.cell? ⟨b, off + j * 2, none⟩ = some (.int .u8 (O j)) ∧ w.cell? ⟨b, off + (j * 2 + 1), none⟩ = some (.int .i32 (A j)) ∧
    (0 ≤ O j ∧ O j ≤ 255) ∧ (-2147483648 ≤ A j ∧ A j ≤ 2147483647))

theorem spot_none {w : World} {a : Addr} {v : Value} (h : w.cell? (a.add 0) = some v) : a.spot = none := by
  have := World.cell?_spot h
  simpa [Addr.add] using this
theorem block_lt {w : World} {b o : Nat} {v : Value} (h : w.cell? ⟨b, o, none⟩ = some v) : b < w.heap.size := by
  rcases Nat.lt_or_ge b w.heap.size with hb | hb
  · exact hb
  · unfold World.cell? at h
    rw [Array.getElem?_eq_none (by simpa using hb)] at h
    simp at h

theorem bools_at {H : Type} {enc : TypeId × Value → H} {P : Program} {w : World} {base : Nat} {held : Bool} {t e : TypeId} {a : Option Addr} {len cap : Nat} {d : DataW H} {p : List MemPlace}
    (ht : P.underlying t = some (.slice e)) (he : P.underlying e = some .bool) (hc : P.cellsOf e = 1) (h : DataW.Trod enc P w base (fun _ => true) held t (.slice a len cap) d p) : BoolsAt w a len := by
  obtain ⟨fuel, hf⟩ := h
  rcases Deep.open_bools ht he hc hf with ⟨hcs, _⟩ | ⟨x, l, c, B, hcs, _, hl, hm, _, hcell⟩
  · simp [Value.cells] at hcs
    obtain ⟨rfl, rfl, rfl⟩ := hcs
    exact ⟨Nat.zero_le _, .inl rfl⟩
  · simp [Value.cells] at hcs
    obtain ⟨rfl, rfl, rfl⟩ := hcs
    refine ⟨Nat.le_trans hl hm, ?_⟩
    by_cases h0 : len = 0
    · exact .inl h0
    · obtain ⟨b, off, spot⟩ := x
      obtain rfl : spot = none := spot_none (hcell 0 (by omega))
      have hc' : ∀ j, j < len → w.cell? ⟨b, off + j, none⟩ = some (.bool (B j)) := fun j hj => by rw [← add_plain]; exact hcell j (by omega)
      exact .inr ⟨b, off, rfl, block_lt (hc' 0 (by omega)), B, hc'⟩

theorem recs_at {H : Type} {enc : TypeId × Value → H} {P : Program} {w : World} {base : Nat} {held : Bool} {t e : TypeId} {f0 f1 : Field} {a : Option Addr} {len cap : Nat} {d : DataW H} {p : List MemPlace}
    (ht : P.underlying t = some (.slice e)) (he : P.underlying e = some (.struct #[f0, f1])) (ce : P.cellsOf e = 2) (o0 : f0.offset = 0) (o1 : f1.offset = 1) (c0 : P.cellsOf f0.type = 1) (c1 : P.cellsOf f1.type = 1)
    (u0 : P.underlying f0.type = some (.int .u8)) (u1 : P.underlying f1.type = some (.int .i32)) (h : DataW.Trod enc P w base (fun _ => true) held t (.slice a len cap) d p) : RecsAt w a len := by
  obtain ⟨fuel, hf⟩ := h
  rcases Deep.open_slice_pairs ht he ce o0 o1 c0 c1 hf with ⟨hcs, _⟩ | ⟨x, l, c, m, n, V0, V1, D0, D1, P0, P1, hcs, _, hl, hm, hmm, _, hcell⟩
  · simp [Value.cells] at hcs
    obtain ⟨rfl, rfl, rfl⟩ := hcs
    exact ⟨Nat.zero_le _, .inl rfl⟩
  · simp [Value.cells] at hcs
    obtain ⟨rfl, rfl, rfl⟩ := hcs
    simp only [if_true] at hmm
    subst hmm
    refine ⟨Nat.le_trans hl hm, ?_⟩
    by_cases h0 : len = 0
    · exact .inl h0
    · obtain ⟨b, off, spot⟩ := x
      obtain rfl : spot = none := spot_none (by have := (hcell 0 (by omega)).1; rw [Nat.zero_mul] at this; exact this)
      obtain ⟨Q, hQ⟩ := Deep.choose_lt (α := Int × Int) (n := len) (p := fun j q => w.cell? ⟨b, off + j * 2, none⟩ = some (.int .u8 q.1) ∧ w.cell? ⟨b, off + (j * 2 + 1), none⟩ = some (.int .i32 q.2) ∧ (0 ≤ q.1 ∧ q.1 ≤ 255) ∧ (-2147483648 ≤ q.2 ∧ q.2 ≤ 2147483647)) (fun j hj => by
        obtain ⟨k0, k1, k2, k3⟩ := hcell j (by omega)
        obtain ⟨n0, e0, _, b0⟩ := DataW.trod_int u0 k2
        obtain ⟨n1, e1, _, b1⟩ := DataW.trod_int u1 k3
        have e0' : V0 j = .int .u8 n0 := by simpa using e0
        have e1' : V1 j = .int .i32 n1 := by simpa using e1
        refine ⟨(n0, n1), ?_, ?_, bounds_u8 b0, bounds_i32 b1⟩
        · rw [← add_plain, k0, e0']
        · rw [← add_plain, k1, e1'])
      exact .inr ⟨b, off, rfl, block_lt (hQ 0 (by omega)).1, fun j => (Q j).1, fun j => (Q j).2, fun j hj => hQ j hj⟩
end Go.Proofs.Ymbrbx

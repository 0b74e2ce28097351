import Derived.Test.YmbrbxVerify
import Derived.Test.YmbrbxFBuild2
namespace Go.Proofs.Ymbrbx
open Go.ChangeShapes Go.WideShapes Go.ChangeAt Go.RowKit
set_option linter.unusedVariables false
set_option linter.unusedSimpArgs false

/-! ### Another Arg leaves the heights as they are -/
theorem set_same {α : Type} (l : List α) (k : Nat) (x : α) (h : l[k]? = some x) : l.set k x = l := by
  apply List.ext_getElem?
  intro i
  rw [List.getElem?_set]
  by_cases hi : k = i
  · subst hi
    rw [if_pos rfl, if_pos (List.getElem?_eq_some_iff.1 h).1, h]
  · rw [if_neg hi]
theorem hgt_arg (L : List (Int × Int)) (k : Nat) (op arg t : Int) (h : L[k]? = some (op, arg)) (j : Nat) : hgt (L.set k (op, t)) j = hgt L j := by
  unfold hgt
  rw [List.map_take, List.map_take, List.map_set, set_same (L.map fun q => dlt q.1) k (dlt op) (by rw [List.getElem?_map, h]; rfl)]
def Aims (L : List (Int × Int)) (n k : Nat) : Prop := ∀ j op arg, j < k → L[j]? = some (op, arg) → op = 7 → 0 ≤ arg ∧ arg ≤ n ∧ hgt L arg.toNat = hgt L (j + 1)
theorem Aims.skip {L : List (Int × Int)} {n k : Nat} (h : Aims L n k) (op arg : Int) (hk : L[k]? = some (op, arg)) (h7 : op ≠ 7) : Aims L n (k + 1) := by
  intro j op' arg' hj hl h7'
  by_cases hjk : j = k
  · subst hjk
    rw [hk] at hl
    cases hl
    exact absurd h7' h7
  · exact h j op' arg' (by omega) hl h7'
theorem Aims.next {L : List (Int × Int)} {n k : Nat} (h : Aims L n k) (arg : Int) (t : Nat) (hk : L[k]? = some (7, arg)) (ht : t ≤ n) (he : hgt L t = hgt L (k + 1)) : Aims (L.set k (7, (t : Int))) n (k + 1) := by
  intro j op' arg' hj hl h7'
  rw [hgt_arg L k 7 arg t hk, hgt_arg L k 7 arg t hk]
  rw [List.getElem?_set] at hl
  by_cases hjk : k = j
  · subst hjk
    rw [if_pos rfl, if_pos (List.getElem?_eq_some_iff.1 hk).1] at hl
    cases hl
    exact ⟨by omega, by omega, by rw [Int.toNat_natCast]; exact he⟩
  · rw [if_neg hjk] at hl
    exact h j op' arg' (by omega) hl h7'
theorem Fit.setArg {L : List (Int × Int)} {n k : Nat} (h : Fit L n) (arg t : Int) (hk : L[k]? = some (7, arg)) (ht : -2147483648 ≤ t ∧ t ≤ 2147483647) : Fit (L.set k (7, t)) n := by
  intro j hj hl
  rw [hgt_arg L k 7 arg t hk]
  by_cases hjk : k = j
  · subst hjk
    obtain ⟨hlt, he⟩ := List.getElem?_eq_some_iff.1 hk
    have h1 := h k hj hlt
    rw [he] at h1
    rw [List.getElem_set_self]
    exact ⟨⟨⟨show (0 : Int) ≤ 7 by decide, show (7 : Int) ≤ 255 by decide⟩, ht⟩, show (7 : Int) < 8 by decide, h1.2.2.1, fun _ h => absurd rfl h⟩
  · rw [List.getElem_set_ne hjk]
    exact h j hj (by rw [List.length_set] at hl; exact hl)
theorem Fit.all {L : List (Int × Int)} {n : Nat} (h : Fit L n) (hn : L.length = n) (ha : Aims L n n) : allLeg L := by
  intro i hi
  obtain ⟨h1, h2, h3, h4⟩ := h i (by omega) hi
  refine leg_of L i _ _ (decide_eq_true ?_) h3 fun h7 => ?_
  · by_cases h0 : L[i].1 = 0
    · exact .inl h0
    · by_cases h7 : L[i].1 = 7
      · exact .inr (.inl h7)
      · exact .inr (.inr ⟨h2, h4 h0 h7⟩)
  · have := ha i L[i].1 L[i].2 (by omega) (by rw [List.getElem?_eq_getElem hi]) h7
    rw [hn]
    exact this
theorem Fit.at {L : List (Int × Int)} {n : Nat} (h : Fit L n) (hn : L.length = n) (k : Nat) (hk : k < n) : ∃ op arg, L[k]? = some (op, arg) ∧ okI (op, arg) ∧ op < 8 ∧ effPops op ≤ hgt L k ∧ hgt L (k + 1) = hgt L k + dlt op := by
  have hl : k < L.length := by omega
  obtain ⟨h1, h2, h3, _⟩ := h k hk hl
  exact ⟨L[k].1, L[k].2, List.getElem?_eq_getElem hl, h1, h2, h3, hgt_succ L k hl⟩
theorem Fit.oks {L : List (Int × Int)} {n : Nat} (h : Fit L n) (hn : L.length = n) : ∀ q ∈ L, okI q := by
  intro q hq
  obtain ⟨j, hj, rfl⟩ := List.getElem_of_mem hq
  exact (h j (by omega) hj).1
theorem OwnP.storeArg {base g n : Nat} {w : World} {P : List (Int × Int)} (h : OwnP base w (.slice (some ⟨g, 0, none⟩) n n) P) (hl : P.length = n) (j : Nat) (op arg z : Int) (hj : P[j]? = some (op, arg)) :
    OwnP base (w.setCell ⟨g, j * 2 + 1, none⟩ (.int .i32 z)) (.slice (some ⟨g, 0, none⟩) n n) (P.set j (op, z)) := by
  obtain ⟨hlt, he⟩ := List.getElem?_eq_some_iff.1 hj
  unfold OwnP at h ⊢
  rw [hl] at h
  have h1 := (World.ownsRow.stored h (j * 2 + 1) (.int .i32 z)).1
  rw [List.length_set, hl, pcells_set, set_same (pcells P) (j * 2) (.int .u8 op) (by rw [(pcells_at P j hlt).1, he])]
  exact h1
theorem OwnP.keepB {base : Nat} {w w' : World} {v : Value} {l : List (Int × Int)} (h : OwnP base w v l) (hb : Below w.heap.size w w') : OwnP base w' v l :=
  World.ownsRow.kept (row := none) h ⟨hb.os, hb.tape, hb.output, hb.size, fun j hj _ => hb.block j hj⟩ (by cases hv : v.ownBlock <;> simp)
theorem HtIn.other {w : World} {g : Nat} {P : List (Int × Int)} (h : HtIn w g P) (a : Addr) (ha : g ≠ a.block) (u : Value) : HtIn (w.setCell a u) g P := by
  refine ⟨by simpa [World.setCell] using h.1, fun j hj => ?_⟩
  rw [World.cell?_of_block (w := w) (a := ⟨g, j, none⟩) (Below.heap_setCell w a u g ha)]
  exact h.2 j hj
theorem HtIn.arg {w : World} {g : Nat} {L : List (Int × Int)} (h : HtIn w g L) (k : Nat) (op arg t : Int) (hk : L[k]? = some (op, arg)) : HtIn w g (L.set k (op, t)) := by
  refine ⟨h.1, fun j hj => ?_⟩
  rw [hgt_arg L k op arg t hk]
  exact h.2 j (by rw [List.length_set] at hj; exact hj)
end Go.Proofs.Ymbrbx

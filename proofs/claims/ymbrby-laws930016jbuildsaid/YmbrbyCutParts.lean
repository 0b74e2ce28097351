import Derived.Test.YmbrbyCutField
import Derived.WalkSmall
namespace Go.Proofs.Ymbrby
open Go.ChangeShapes Go.WideShapes Go.ChangeAt Go.RowKit
set_option linter.unusedVariables false
set_option linter.unusedSimpArgs false

/-! ### The plain law of cutField: blanks, the field, the rest -/
theorem tw_mem (p : UInt8 → Bool) : ∀ (l : List UInt8) (c : UInt8), c ∈ l.takeWhile p → p c = true
  | [], c, h => by cases h
  | a :: l, c, h => by
    by_cases ha : p a = true
    · rw [List.takeWhile_cons_of_pos ha] at h
      rcases List.mem_cons.1 h with h | h
      · rw [h]; exact ha
      · exact tw_mem p l c h
    · rw [List.takeWhile_cons_of_neg ha] at h
      cases h
theorem dw_head (p : UInt8 → Bool) : ∀ (l : List UInt8) (c : UInt8) (t : List UInt8), l.dropWhile p = c :: t → p c = false
  | [], c, t, h => by cases h
  | a :: l, c, t, h => by
    by_cases ha : p a = true
    · rw [List.dropWhile_cons_of_pos ha] at h
      exact dw_head p l c t h
    · rw [List.dropWhile_cons_of_neg ha] at h
      injection h with h1 h2
      rw [← h1]
      simpa using ha
theorem cut_parts (l : List UInt8) : ∃ b, l = b ++ ((cutF l).1 ++ (cutF l).2) ∧ (∀ c ∈ b, blk c = true) ∧ (∀ c ∈ (cutF l).1, blk c = false) ∧
    ((cutF l).2 = [] ∨ ∃ c t, (cutF l).2 = c :: t ∧ blk c = true) ∧ ((cutF l).1 = [] → (cutF l).2 = []) := by
  refine ⟨l.takeWhile blk, ?_, ?_, ?_, ?_, ?_⟩
  · show l = l.takeWhile blk ++ ((l.dropWhile blk).takeWhile nbk ++ (l.dropWhile blk).dropWhile nbk)
    rw [List.takeWhile_append_dropWhile, List.takeWhile_append_dropWhile]
  · intro c hc
    exact tw_mem blk l c hc
  · intro c hc
    have h := tw_mem nbk (l.dropWhile blk) c hc
    unfold nbk at h
    simpa using h
  · show (l.dropWhile blk).dropWhile nbk = [] ∨ _
    cases hr : (l.dropWhile blk).dropWhile nbk with
    | nil => exact .inl rfl
    | cons c t =>
      refine .inr ⟨c, t, hr, ?_⟩
      have h := dw_head nbk (l.dropWhile blk) c t hr
      unfold nbk at h
      simpa using h
  · intro h
    show (l.dropWhile blk).dropWhile nbk = []
    cases hd : l.dropWhile blk with
    | nil => rfl
    | cons c t =>
      exfalso
      have hn := dw_head blk l c t hd
      have h2 : (l.dropWhile blk).takeWhile nbk = [] := h
      rw [hd, List.takeWhile_cons_of_pos (by unfold nbk; rw [hn]; rfl)] at h2
      cases h2

/-- The same, by the places of the strings. -/
theorem cut_facts (s : ByteArray) : ∃ (f r : ByteArray) (p : Nat), f = ⟨(cutF s.data.toList).1.toArray⟩ ∧ r = ⟨(cutF s.data.toList).2.toArray⟩ ∧ s.size = p + f.size + r.size ∧
    (∀ j, j < p → (h : j < s.size) → blk s[j] = true) ∧ s.extract p (p + f.size) = f ∧ s.extract (p + f.size) s.size = r ∧ (∀ j, (h : j < f.size) → blk f[j] = false) ∧
    (f.size = 0 → r.size = 0) ∧ ((h : 0 < r.size) → blk r[0] = true) := by
  obtain ⟨b, h1, h2, h3, h4, h5⟩ := cut_parts s.data.toList
  obtain ⟨f, hf⟩ : ∃ f : ByteArray, f = ⟨(cutF s.data.toList).1.toArray⟩ := ⟨_, rfl⟩
  obtain ⟨r, hr⟩ : ∃ r : ByteArray, r = ⟨(cutF s.data.toList).2.toArray⟩ := ⟨_, rfl⟩
  have ef : (cutF s.data.toList).1 = f.data.toList := by rw [hf]
  have er : (cutF s.data.toList).2 = r.data.toList := by rw [hr]
  rw [ef, er] at h1 h5
  rw [er] at h4
  rw [ef] at h3
  have hs : s.data.toList.length = s.size := rfl
  have hfz : f.data.toList.length = f.size := rfl
  have hrz : r.data.toList.length = r.size := rfl
  have hsz : s.size = b.length + f.size + r.size := by rw [← hs, h1, List.length_append, List.length_append, hfz, hrz]; omega
  refine ⟨f, r, b.length, hf, hr, hsz, ?_, ?_, ?_, ?_, ?_, ?_⟩
  · intro j hj h
    refine h2 _ ?_
    have hm : s[j] = (b ++ (f.data.toList ++ r.data.toList))[j]'(by rw [← h1]; exact h) := at_of s j h h1 _
    rw [hm, List.getElem_append_left hj]
    exact List.getElem_mem _
  · refine str_ext ?_
    rw [Go.Lib.extract_data, h1, List.drop_left, show b.length + f.size - b.length = f.data.toList.length from by omega, List.take_left]
  · refine str_ext ?_
    rw [cut_rest, h1, ← List.append_assoc, List.drop_left' (by rw [List.length_append, hfz])]
  · intro j h
    exact h3 _ (List.getElem_mem (by exact h))
  · intro h
    have := h5 (List.eq_nil_of_length_eq_zero (by omega))
    rw [← hrz, this]
    rfl
  · intro h
    rcases h4 with h4 | ⟨c, t, h4, hc⟩
    · rw [← hrz, h4] at h
      cases h
    · rw [at_of r 0 h h4 (by simp)]
      exact hc
theorem blk_int (c : UInt8) (h : blk c = true) : (c.toNat : Int) = 32 ∨ (c.toNat : Int) = 9 := by
  have := of_decide_eq_true h
  omega
theorem nbk_int (c : UInt8) (h : blk c = false) : ¬ (c.toNat : Int) = 32 ∧ ¬ (c.toNat : Int) = 9 := by
  have := of_decide_eq_false h
  omega
end Go.Proofs.Ymbrby

import Derived.Test.YmbrbyCutParts
namespace Go.Proofs.Ymbrby
open Go.ChangeShapes Go.WideShapes Go.ChangeAt Go.RowKit
set_option linter.unusedVariables false
set_option linter.unusedSimpArgs false

/-! ### Blanks, a field, a rest: put together they are cut again -/
theorem dw_all (p : UInt8 → Bool) : ∀ (b l : List UInt8), (∀ c ∈ b, p c = true) → (b ++ l).dropWhile p = l.dropWhile p
  | [], _, _ => rfl
  | c :: b, l, h => by
    rw [List.cons_append, List.dropWhile_cons_of_pos (h c (by simp))]
    exact dw_all p b l (fun c hc => h c (by simp [hc]))
theorem tw_all (p : UInt8 → Bool) : ∀ (b l : List UInt8), (∀ c ∈ b, p c = true) → (b ++ l).takeWhile p = b ++ l.takeWhile p
  | [], _, _ => rfl
  | c :: b, l, h => by
    rw [List.cons_append, List.takeWhile_cons_of_pos (h c (by simp)), tw_all p b l (fun c hc => h c (by simp [hc]))]
    rfl
theorem cutF_of (b f t : List UInt8) (hb : ∀ c ∈ b, blk c = true) (hf : ∀ c ∈ f, blk c = false) (ht : t = [] ∨ ∃ c r, t = c :: r ∧ blk c = true) (hft : f = [] → t = []) : cutF (b ++ (f ++ t)) = (f, t) := by
  have hn : ∀ c ∈ f, nbk c = true := fun c hc => by unfold nbk; rw [hf c hc]; rfl
  unfold cutF
  have e1 : (b ++ (f ++ t)).dropWhile blk = f ++ t := by
    rw [dw_all blk b _ hb]
    cases f with
    | nil => rw [hft rfl]; rfl
    | cons c f =>
      rw [List.cons_append, List.dropWhile_cons_of_neg]
      rw [hf c (by simp)]
      decide
  have e2 : t.takeWhile nbk = [] ∧ t.dropWhile nbk = t := by
    rcases ht with rfl | ⟨c, r, rfl, hc⟩
    · exact ⟨rfl, rfl⟩
    · have hh : ¬ nbk c = true := by unfold nbk; rw [hc]; decide
      exact ⟨List.takeWhile_cons_of_neg hh, List.dropWhile_cons_of_neg hh⟩
  rw [e1, tw_all nbk f t hn, dw_all nbk f t hn, e2.1, e2.2, List.append_nil]

/-! ### By places -/
def bk (s : ByteArray) (j : Nat) : Bool := blk (s.data.toList.getD j 0)
theorem bk_at (s : ByteArray) (j : Nat) (h : j < s.size) : blk s[j] = bk s j := by
  unfold bk
  rw [List.getD_eq_getElem?_getD, List.getElem?_eq_getElem (by exact h)]
  rfl
theorem drop_seg (s : ByteArray) (q e : Nat) (h : q ≤ e) : s.data.toList.drop q = seg s q e ++ s.data.toList.drop e := by
  have h1 : s.data.toList.drop e = (s.data.toList.drop q).drop (e - q) := by
    rw [List.drop_drop]
    congr 1
    omega
  rw [h1]
  unfold seg
  rw [List.drop_take, List.take_append_drop]
theorem seg_all_mem (s : ByteArray) (q : Nat) (v : Bool) : ∀ e, e ≤ s.size → (∀ j, q ≤ j → j < e → bk s j = v) → ∀ c ∈ seg s q e, blk c = v
  | 0, _, _, c, hc => by
    unfold seg at hc
    rw [List.take_zero, List.drop_nil] at hc
    cases hc
  | e + 1, he, h, c, hc => by
    by_cases hq : q ≤ e
    · rw [seg_step s q e hq (by omega), List.mem_append] at hc
      rcases hc with hc | hc
      · exact seg_all_mem s q v e (by omega) (fun j h1 h2 => h j h1 (by omega)) c hc
      · rw [List.mem_singleton] at hc
        rw [hc, bk_at]
        exact h e hq (by omega)
    · have hl := seg_len s q (e + 1) he
      rw [show e + 1 - q = 0 from by omega] at hl
      rw [List.eq_nil_of_length_eq_zero hl] at hc
      cases hc
/-- What cutField gives at a rest of s that begins at q: blanks to st, no blank to e, and then the end or a blank. -/
theorem cut_at (s : ByteArray) (q st e : Nat) (h1 : q ≤ st) (h2 : st < e) (h3 : e ≤ s.size) (hb : ∀ j, q ≤ j → j < st → bk s j = true) (hf : ∀ j, st ≤ j → j < e → bk s j = false) (he : e = s.size ∨ bk s e = true) :
    cutF (s.data.toList.drop q) = (seg s st e, s.data.toList.drop e) := by
  rw [drop_seg s q st h1, drop_seg s st e (by omega)]
  refine cutF_of _ _ _ (seg_all_mem s q true st (by omega) hb) (seg_all_mem s st false e h3 hf) ?_ ?_
  · rcases he with he | he
    · exact .inl (by rw [he]; exact drop_all s)
    · by_cases hlt : e < s.size
      · exact .inr ⟨_, _, drop_at s e hlt, by rw [bk_at]; exact he⟩
      · exact .inl (by rw [show e = s.size from by omega]; exact drop_all s)
  · intro h0
    have := congrArg List.length h0
    rw [seg_len s st e h3] at this
    simp only [List.length_nil] at this
    omega
theorem cut_none (s : ByteArray) (q : Nat) (hq : q ≤ s.size) (hb : ∀ j, q ≤ j → j < s.size → bk s j = true) : cutF (s.data.toList.drop q) = ([], []) := by
  rw [drop_seg s q s.size hq, drop_all]
  exact cutF_of _ [] [] (seg_all_mem s q true s.size (Nat.le_refl _) hb) (by simp) (.inl rfl) (fun _ => rfl)
end Go.Proofs.Ymbrby

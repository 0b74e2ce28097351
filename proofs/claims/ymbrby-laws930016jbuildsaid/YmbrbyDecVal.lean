import Derived.Test.YmbrbyDec
namespace Go.Proofs.Ymbrby
open Go.ChangeShapes Go.WideShapes Go.ChangeAt Go.RowKit
set_option linter.unusedVariables false
set_option linter.unusedSimpArgs false

/-! ### The value of a list of digits -/
def val (l : List UInt8) : Nat := l.foldl (fun v c => v * 10 + (c.toNat - 48)) 0
theorem val_snoc (l : List UInt8) (c : UInt8) : val (l ++ [c]) = val l * 10 + (c.toNat - 48) := by
  unfold val
  rw [List.foldl_append]
  rfl
theorem val_nil : val [] = 0 := rfl
def isDig (c : UInt8) : Prop := 48 ≤ c.toNat ∧ c.toNat ≤ 57
theorem isDig_dg (d : Nat) (h : d < 10) : isDig (dg d) := by
  unfold isDig
  rw [dg_toNat d h]
  omega

theorem decP_all : ∀ f v : Nat, v ≤ f → (∀ c ∈ decP v, isDig c) ∧ val (decP v) = v
  | 0, v, h => by
    obtain rfl : v = 0 := by omega
    rw [decP_zero]
    exact ⟨by simp, rfl⟩
  | f + 1, v, h => by
    by_cases hv : v = 0
    · subst hv
      rw [decP_zero]
      exact ⟨by simp, rfl⟩
    · have ih := decP_all f (v / 10) (by omega)
      rw [decP_step v (by omega)]
      constructor
      · intro c hc
        rw [List.mem_append] at hc
        rcases hc with hc | hc
        · exact ih.1 c hc
        · rw [List.mem_singleton] at hc
          rw [hc]
          exact isDig_dg _ (by omega)
      · rw [val_snoc, ih.2, dg_toNat _ (by omega)]
        omega
theorem dec_dig (v : Nat) : ∀ c ∈ dec v, isDig c := by
  intro c hc
  rw [dec_step, List.mem_append] at hc
  rcases hc with hc | hc
  · exact (decP_all (v / 10) (v / 10) (Nat.le_refl _)).1 c hc
  · rw [List.mem_singleton] at hc
    rw [hc]
    exact isDig_dg _ (by omega)
theorem dec_val (v : Nat) : val (dec v) = v := by
  rw [dec_step, val_snoc, (decP_all (v / 10) (v / 10) (Nat.le_refl _)).2, dg_toNat _ (by omega)]
  omega

/-- No leading zero: the first digit of a positive number is not '0'. -/
theorem decP_head : ∀ f v : Nat, v ≤ f → 0 < v → ∃ c r, decP v = c :: r ∧ 49 ≤ c.toNat
  | 0, v, h, hp => by omega
  | f + 1, v, h, hp => by
    by_cases hb : v < 10
    · refine ⟨dg v, [], by rw [decP_pos v hp, dec_small v hb], ?_⟩
      rw [dg_toNat v hb]
      omega
    · obtain ⟨c, r, e, hc⟩ := decP_head f (v / 10) (by omega) (by omega)
      exact ⟨c, r ++ [dg (v % 10)], by rw [decP_step v hp, e]; rfl, hc⟩
theorem dec_head (v : Nat) (h : 10 ≤ v) : ∃ c r, dec v = c :: r ∧ 49 ≤ c.toNat := by
  obtain ⟨c, r, e, hc⟩ := decP_head v v (Nat.le_refl _) (by omega)
  exact ⟨c, r, by rw [← e, decP_pos v (by omega)], hc⟩

theorem val_lt : ∀ (k : Nat) (l : List UInt8), l.length = k → (∀ c ∈ l, isDig c) → val l < 10 ^ k
  | 0, l, h, _ => by
    rw [List.eq_nil_of_length_eq_zero h]
    decide
  | k + 1, l, h, hd => by
    obtain ⟨r, c, rfl⟩ : ∃ r c, l = r ++ [c] := by
      refine ⟨l.dropLast, l.getLast (by intro e; rw [e] at h; simp at h), ?_⟩
      exact (List.dropLast_concat_getLast _).symm
    have ih := val_lt k r (by simpa using h) (fun c hc => hd c (by simp [hc]))
    have hc := hd c (by simp)
    unfold isDig at hc
    rw [val_snoc, Nat.pow_succ]
    omega

/-! ### Bytes of a string, by their places -/
theorem take_snoc (s : ByteArray) (k : Nat) (h : k < s.size) : s.data.toList.take (k + 1) = s.data.toList.take k ++ [s[k]] := by
  rw [List.take_succ_eq_append_getElem (by simpa using h)]; rfl
/-- The digits from place i to place k. -/
def seg (s : ByteArray) (i k : Nat) : List UInt8 := (s.data.toList.take k).drop i
theorem seg_start (s : ByteArray) (i : Nat) : seg s i i = [] := by unfold seg; rw [List.drop_eq_nil_of_le]; simp; omega
theorem seg_step (s : ByteArray) (i k : Nat) (hi : i ≤ k) (h : k < s.size) : seg s i (k + 1) = seg s i k ++ [s[k]] := by
  unfold seg
  rw [take_snoc s k h, List.drop_append_of_le_length]
  rw [List.length_take]
  have : s.data.toList.length = s.size := rfl
  omega
theorem seg_all (s : ByteArray) (i : Nat) : seg s i s.size = s.data.toList.drop i := by
  unfold seg
  rw [List.take_of_length_le]
  exact Nat.le_refl _
theorem seg_len (s : ByteArray) (i k : Nat) (h : k ≤ s.size) : (seg s i k).length = k - i := by
  unfold seg
  have : s.data.toList.length = s.size := rfl
  rw [List.length_drop, List.length_take]
  omega
theorem seg_mem (s : ByteArray) (i k : Nat) {c : UInt8} (h : c ∈ seg s i k) : c ∈ s.data.toList.drop i := by
  unfold seg at h
  rw [List.drop_take] at h
  exact List.mem_of_mem_take h
theorem at_mem (s : ByteArray) (i k : Nat) (hi : i ≤ k) (h : k < s.size) : s[k] ∈ s.data.toList.drop i := by
  refine seg_mem s i (k + 1) ?_
  rw [seg_step s i k hi h]
  simp

/-- The value read so far, and its bound. -/
def vseg (s : ByteArray) (i k : Nat) : Nat := val (seg s i k)
theorem vseg_lt (s : ByteArray) (i k : Nat) (hk : k ≤ s.size) (hs : k - i ≤ 10) (hd : ∀ c ∈ s.data.toList.drop i, isDig c) : vseg s i k < 10000000000 := by
  have h := val_lt (k - i) (seg s i k) (seg_len s i k hk) (fun c hc => hd c (seg_mem s i k hc))
  have h2 : 10 ^ (k - i) ≤ 10 ^ 10 := Nat.pow_le_pow_right (by omega) hs
  unfold vseg
  omega
theorem vseg_none (s : ByteArray) (i : Nat) : vseg s i i = 0 := by unfold vseg; rw [seg_start]; rfl
theorem vseg_step (s : ByteArray) (i k : Nat) (hi : i ≤ k) (h : k < s.size) : vseg s i (k + 1) = vseg s i k * 10 + (s[k].toNat - 48) := by
  unfold vseg
  rw [seg_step s i k hi h, val_snoc]

theorem at_of (s : ByteArray) (k : Nat) (h : k < s.size) {l : List UInt8} (hl : s.data.toList = l) (h' : k < l.length) : s[k] = l[k] := by
  subst hl; rfl
end Go.Proofs.Ymbrby

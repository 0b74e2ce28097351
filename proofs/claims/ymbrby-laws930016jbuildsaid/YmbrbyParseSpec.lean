import Derived.Test.YmbrbyDecVal
namespace Go.Proofs.Ymbrby
open Go.ChangeShapes Go.WideShapes Go.ChangeAt Go.RowKit
set_option linter.unusedVariables false
set_option linter.unusedSimpArgs false

/-! ### What ParseInt32 answers, as plain Lean -/
def digB (c : UInt8) : Bool := decide (48 ≤ c.toNat ∧ c.toNat ≤ 57)
theorem all_dig (l : List UInt8) : l.all digB = true ↔ ∀ c ∈ l, isDig c := by
  rw [List.all_eq_true]
  constructor
  · intro h c hc
    have hd := h c hc
    unfold digB at hd
    unfold isDig
    exact of_decide_eq_true hd
  · intro h c hc
    have hd := h c hc
    unfold isDig at hd
    exact decide_eq_true hd
def limN (neg : Bool) : Nat := if neg then 2147483648 else 2147483647
def parseB (neg : Bool) (b : List UInt8) : Int × Bool :=
  if b ≠ [] ∧ b.all digB = true ∧ val b ≤ limN neg then ((if neg then -(val b : Int) else (val b : Int)), true) else (0, false)
def parseI (l : List UInt8) : Int × Bool := if l.head? = some 45 then parseB true l.tail else parseB false l

theorem val_mono (a b : List UInt8) : val a ≤ val (a ++ b) := by
  have key : ∀ (l : List UInt8) (v : Nat), v ≤ l.foldl (fun v c => v * 10 + (c.toNat - 48)) v := by
    intro l
    induction l with
    | nil => intro v; exact Nat.le_refl _
    | cons c l ih =>
      intro v
      rw [List.foldl_cons]
      have := ih (v * 10 + (c.toNat - 48))
      omega
  unfold val
  rw [List.foldl_append]
  exact key b _
theorem parseB_nil (neg : Bool) : parseB neg [] = (0, false) := by
  unfold parseB
  rw [if_neg (fun h => h.1 rfl)]
theorem parseB_bad (neg : Bool) (b : List UInt8) (c : UInt8) (hc : c ∈ b) (h : ¬ isDig c) : parseB neg b = (0, false) := by
  unfold parseB
  rw [if_neg (fun hh => h ((all_dig b).1 hh.2.1 c hc))]
theorem parseB_big (neg : Bool) (b : List UInt8) (h : limN neg < val b) : parseB neg b = (0, false) := by
  unfold parseB
  rw [if_neg (fun hh => by have := hh.2.2; omega)]
theorem parseB_ok (neg : Bool) (b : List UInt8) (h0 : b ≠ []) (h1 : ∀ c ∈ b, isDig c) (h2 : val b ≤ limN neg) : parseB neg b = ((if neg then -(val b : Int) else (val b : Int)), true) := by
  unfold parseB
  rw [if_pos ⟨h0, (all_dig b).2 h1, h2⟩]

theorem head_at (s : ByteArray) (h : 0 < s.size) : s.data.toList.head? = some s[0] := by
  rw [List.head?_eq_getElem?, List.getElem?_eq_getElem (by exact h)]
  rfl
theorem parse_neg (s : ByteArray) (h : 0 < s.size) (h45 : (s[0].toNat : Int) = 45) : parseI s.data.toList = parseB true (s.data.toList.drop 1) := by
  unfold parseI
  have e : s[0] = 45 := UInt8.toNat_inj.1 (by show _ = 45; omega)
  rw [head_at s h, e, if_pos rfl, List.drop_one]
theorem parse_pos (s : ByteArray) (h : 0 < s.size) (h45 : ¬ (s[0].toNat : Int) = 45) : parseI s.data.toList = parseB false (s.data.toList.drop 0) := by
  unfold parseI
  have e : ¬ some s[0] = some (45 : UInt8) := fun he => h45 (by injection he with he; rw [he]; rfl)
  rw [head_at s h, if_neg e]
  rfl
theorem parse_none : parseI [] = (0, false) := by decide

/-- The value from place i on is at least that of its first digits. -/
theorem vseg_le (s : ByteArray) (i k : Nat) (hk : k ≤ s.size) : vseg s i k ≤ val (s.data.toList.drop i) := by
  unfold vseg seg
  rw [List.drop_take]
  have h : s.data.toList.drop i = (s.data.toList.drop i).take (k - i) ++ (s.data.toList.drop i).drop (k - i) := (List.take_append_drop _ _).symm
  have h2 := val_mono ((s.data.toList.drop i).take (k - i)) ((s.data.toList.drop i).drop (k - i))
  rw [← h] at h2
  exact h2
theorem vseg_all (s : ByteArray) (i : Nat) : vseg s i s.size = val (s.data.toList.drop i) := by unfold vseg; rw [seg_all]
theorem seg_dig_step (s : ByteArray) (i k : Nat) (hi : i ≤ k) (h : k < s.size) (hd : ∀ c ∈ seg s i k, isDig c) (hc : isDig s[k]) : ∀ c ∈ seg s i (k + 1), isDig c := by
  intro c hm
  rw [seg_step s i k hi h, List.mem_append] at hm
  rcases hm with hm | hm
  · exact hd c hm
  · rw [List.mem_singleton] at hm
    rw [hm]; exact hc
end Go.Proofs.Ymbrby

import Derived.Test.YmbrbxDec
import Derived.Test.YmbrbxOwnBytes
namespace Go.Proofs.Ymbrbx
open Go.ChangeShapes Go.WideShapes Go.ChangeAt Go.RowKit
set_option linter.unusedVariables false
set_option linter.unusedSimpArgs false

/-! ### Digits from the top -/
def topD (v : Nat) : Nat → List UInt8
  | 0 => [dg (v % 10)]
  | j + 1 => dg (v / 10 ^ (j + 1) % 10) :: topD v j
theorem topD_snoc (v : Nat) : ∀ j, topD v (j + 1) = topD (v / 10) j ++ [dg (v % 10)]
  | 0 => by
    show dg (v / 10 ^ 1 % 10) :: [dg (v % 10)] = [dg (v / 10 % 10)] ++ [dg (v % 10)]
    rw [Nat.pow_one]
    rfl
  | j + 1 => by
    show dg (v / 10 ^ (j + 1 + 1) % 10) :: topD v (j + 1) = (dg (v / 10 / 10 ^ (j + 1) % 10) :: topD (v / 10) j) ++ [dg (v % 10)]
    rw [topD_snoc v j, Nat.div_div_eq_div_mul, show 10 * 10 ^ (j + 1) = 10 ^ (j + 1 + 1) from by rw [Nat.pow_succ 10 (j + 1), Nat.mul_comm]]
    rfl
theorem dec_top : ∀ (k v : Nat), v < 10 ^ (k + 1) → (k = 0 ∨ 10 ^ k ≤ v) → dec v = topD v k
  | 0, v, h, _ => by
    rw [dec_small v (by simpa using h)]
    show [dg v] = [dg (v % 10)]
    rw [Nat.mod_eq_of_lt (by simpa using h)]
  | k + 1, v, h, hk => by
    have hk' : 10 ^ (k + 1) ≤ v := by
      rcases hk with h | h
      · omega
      · exact h
    have h10 : 10 ≤ v := by
      have : 10 ^ 1 ≤ 10 ^ (k + 1) := Nat.pow_le_pow_right (by omega) (by omega)
      omega
    have e1 : v / 10 < 10 ^ (k + 1) := by rw [Nat.pow_succ] at h; omega
    have e2 : k = 0 ∨ 10 ^ k ≤ v / 10 := by
      rw [Nat.pow_succ] at hk'
      exact .inr (by omega)
    rw [dec_big v h10, topD_snoc, dec_top k (v / 10) e1 e2]

theorem pow_pos' (j : Nat) : 1 ≤ 10 ^ j := Nat.pow_pos (by omega)
theorem pow_bound (j : Nat) (h : j ≤ 9) : 10 ^ j ≤ 1000000000 := by
  have : 10 ^ j ≤ 10 ^ 9 := Nat.pow_le_pow_right (by omega) h
  omega
theorem topD_len (v : Nat) : ∀ j, (topD v j).length = j + 1
  | 0 => rfl
  | j + 1 => by show (topD v j).length + 1 = _; rw [topD_len v j]
def fmtI (n : Int) : List UInt8 := if n < 0 then 45 :: dec n.natAbs else dec n.natAbs
end Go.Proofs.Ymbrbx

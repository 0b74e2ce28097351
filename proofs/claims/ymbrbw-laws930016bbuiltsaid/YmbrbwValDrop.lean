import Derived.Test.YmbrbwParseSpec
namespace Go.Proofs.Ymbrbw
open Go.ChangeShapes Go.WideShapes Go.ChangeAt Go.RowKit
set_option linter.unusedVariables false
set_option linter.unusedSimpArgs false

/-! ### The value from the last digit on -/
theorem val_from : ∀ (l : List UInt8) (v : Nat), l.foldl (fun v c => v * 10 + (c.toNat - 48)) v = v * 10 ^ l.length + val l
  | [], v => by simp [val]
  | c :: l, v => by
    have e1 := val_from l (v * 10 + (c.toNat - 48))
    have e2 := val_from l (0 * 10 + (c.toNat - 48))
    rw [List.foldl_cons, e1]
    show _ = _ + List.foldl _ (0 * 10 + (c.toNat - 48)) l
    rw [e2, List.length_cons, Nat.pow_succ, Nat.add_mul, Nat.add_mul]
    have : v * 10 * 10 ^ l.length = v * (10 ^ l.length * 10) := by rw [Nat.mul_assoc, Nat.mul_comm 10]
    omega
theorem val_cons (c : UInt8) (l : List UInt8) : val (c :: l) = (c.toNat - 48) * 10 ^ l.length + val l := by
  show List.foldl _ (0 * 10 + (c.toNat - 48)) l = _
  rw [val_from]
  simp
/-- The value of the digits from place j on. -/
def vdrop (b : ByteArray) (j : Nat) : Nat := val (b.data.toList.drop j)
theorem bsize (b : ByteArray) : b.data.toList.length = b.size := rfl
theorem vdrop_end (b : ByteArray) : vdrop b b.size = 0 := by
  unfold vdrop
  rw [List.drop_eq_nil_of_le (Nat.le_of_eq (bsize b))]
  rfl
theorem drop_cons (b : ByteArray) (j : Nat) (h : j < b.size) : b.data.toList.drop j = b[j] :: b.data.toList.drop (j + 1) := by
  rw [List.drop_eq_getElem_cons (by exact h)]
  rfl
theorem vdrop_step (b : ByteArray) (j : Nat) (h : j < b.size) : vdrop b j = (b[j].toNat - 48) * 10 ^ (b.size - (j + 1)) + vdrop b (j + 1) := by
  unfold vdrop
  rw [drop_cons b j h, val_cons, List.length_drop, bsize]
theorem vdrop_lt (b : ByteArray) (j : Nat) (hd : ∀ c ∈ b.data.toList, isDig c) : vdrop b j < 10 ^ (b.size - j) := by
  refine val_lt (b.size - j) _ (by rw [List.length_drop, bsize]) (fun c hc => hd c (List.mem_of_mem_drop hc))
theorem vdrop_zero (b : ByteArray) (j : Nat) (h : j < b.size) (h48 : b[j].toNat = 48) : vdrop b j = vdrop b (j + 1) := by
  rw [vdrop_step b j h, h48]
  simp
theorem vdrop_big (b : ByteArray) (j : Nat) (h : j + 10 < b.size) (h49 : 49 ≤ b[j].toNat) : 10000000000 ≤ vdrop b j := by
  rw [vdrop_step b j (by omega)]
  have h1 : 10 ^ 10 ≤ 10 ^ (b.size - (j + 1)) := Nat.pow_le_pow_right (by omega) (by omega)
  have h2 : 1 * 10 ^ (b.size - (j + 1)) ≤ (b[j].toNat - 48) * 10 ^ (b.size - (j + 1)) := Nat.mul_le_mul_right _ (by omega)
  omega
theorem pow10_succ (n : Nat) : 10 ^ (n + 1) = 10 ^ n * 10 := Nat.pow_succ ..
theorem pow10_le (n : Nat) (h : n ≤ 9) : 10 ^ n ≤ 1000000000 := by
  have : 10 ^ n ≤ 10 ^ 9 := Nat.pow_le_pow_right (by omega) h
  omega
theorem extract_one (s : ByteArray) : (s.extract 1 s.size).data.toList = s.data.toList.drop 1 := by
  rw [Go.Lib.extract_data, List.take_of_length_le]
  rw [List.length_drop, bsize]
  omega
theorem mul_bound (d p : Nat) (h1 : d ≤ 9) (h2 : p ≤ 1000000000) : d * p ≤ 9000000000 := by
  have := Nat.mul_le_mul h1 h2
  omega
end Go.Proofs.Ymbrbw

import Derived.Test.YmbrbxBase
namespace Go.Proofs.Ymbrbx
open Go.ChangeShapes Go.WideShapes Go.ChangeAt Go.RowKit
set_option linter.unusedVariables false
set_option linter.unusedSimpArgs false

/-! ### Decimal digits, the highest first -/
def dg (d : Nat) : UInt8 := UInt8.ofNat (48 + d)
theorem dg_toNat (d : Nat) (h : d < 10) : (dg d).toNat = 48 + d := by
  unfold dg
  rw [UInt8.toNat_ofNat']
  omega

def decF : Nat → Nat → List UInt8
  | 0, v => [dg (v % 10)]
  | f + 1, v => if v < 10 then [dg (v % 10)] else decF f (v / 10) ++ [dg (v % 10)]
/-- The decimal text of v: no leading zeros; "0" for nothing. -/
def dec (v : Nat) : List UInt8 := decF v v

theorem decF_more : ∀ f g v : Nat, v ≤ f → v ≤ g → decF f v = decF g v
  | 0, 0, _, _, _ => rfl
  | 0, g + 1, v, h, _ => by
    show [dg (v % 10)] = if v < 10 then [dg (v % 10)] else _
    rw [if_pos (by omega)]
  | f + 1, 0, v, _, h => by
    show (if v < 10 then [dg (v % 10)] else _) = [dg (v % 10)]
    rw [if_pos (by omega)]
  | f + 1, g + 1, v, h1, h2 => by
    show (if v < 10 then [dg (v % 10)] else decF f (v / 10) ++ [dg (v % 10)]) = if v < 10 then [dg (v % 10)] else decF g (v / 10) ++ [dg (v % 10)]
    by_cases h : v < 10
    · rw [if_pos h, if_pos h]
    · rw [if_neg h, if_neg h, decF_more f g (v / 10) (by omega) (by omega)]

theorem dec_small (v : Nat) (h : v < 10) : dec v = [dg v] := by
  unfold dec
  match v, h with
  | 0, _ => rfl
  | v + 1, h =>
    show (if v + 1 < 10 then [dg ((v + 1) % 10)] else _) = _
    rw [if_pos h, Nat.mod_eq_of_lt h]
theorem dec_big (v : Nat) (h : 10 ≤ v) : dec v = dec (v / 10) ++ [dg (v % 10)] := by
  unfold dec
  match v, h with
  | v + 1, h =>
    show (if v + 1 < 10 then [dg ((v + 1) % 10)] else decF v ((v + 1) / 10) ++ [dg ((v + 1) % 10)]) = _
    rw [if_neg (by omega), decF_more v ((v + 1) / 10) ((v + 1) / 10) (by omega) (Nat.le_refl _)]

/-- The same, but nothing for nothing. -/
def decP (v : Nat) : List UInt8 := if v = 0 then [] else dec v
theorem decP_zero : decP 0 = [] := rfl
theorem decP_pos (v : Nat) (h : 0 < v) : decP v = dec v := by unfold decP; rw [if_neg (by omega)]
theorem decP_step (v : Nat) (h : 0 < v) : decP v = decP (v / 10) ++ [dg (v % 10)] := by
  rw [decP_pos v h]
  by_cases hb : v < 10
  · rw [show v / 10 = 0 from by omega, decP_zero, dec_small v hb, Nat.mod_eq_of_lt hb, List.nil_append]
  · rw [decP_pos (v / 10) (by omega), dec_big v (by omega)]
theorem dec_step (v : Nat) : dec v = decP (v / 10) ++ [dg (v % 10)] := by
  by_cases hb : v < 10
  · rw [show v / 10 = 0 from by omega, decP_zero, dec_small v hb, Nat.mod_eq_of_lt hb, List.nil_append]
  · rw [decP_pos (v / 10) (by omega), dec_big v (by omega)]

theorem dec_len : ∀ k v : Nat, v < 10 ^ (k + 1) → (dec v).length ≤ k + 1
  | 0, v, h => by rw [dec_small v (by simpa using h)]; simp
  | k + 1, v, h => by
    by_cases hb : v < 10
    · rw [dec_small v hb]; simp
    · rw [dec_big v (by omega)]
      have := dec_len k (v / 10) (by rw [Nat.pow_succ] at h; omega)
      simp only [List.length_append, List.length_cons, List.length_nil]
      omega
theorem dec_ne (v : Nat) : 1 ≤ (dec v).length := by rw [dec_step]; simp
theorem decP_ne (v : Nat) (h : 0 < v) : 1 ≤ (decP v).length := by rw [decP_pos v h]; exact dec_ne v

/-! ### "0123456789"[d : d+1] -/
theorem digit_cut : ∀ d, d < 10 → ((⟨#[48, 49, 50, 51, 52, 53, 54, 55, 56, 57]⟩ : ByteArray).extract d (d + 1)).data.toList = [dg d] := by decide
theorem cut_digit (i : Int) (h0 : 0 ≤ i) (h1 : i < 10) (w : World) :
    (Instr.slice 9 (.string ⟨#[48, 49, 50, 51, 52, 53, 54, 55, 56, 57]⟩) (some (.int .i64 i)) (some (.int .i64 (i + 1))) none).run Ybxm.prog w = .ok (.string ⟨#[dg i.toNat]⟩) w := by
  rw [run_slice_string w 9 _ .i64 .i64 i (i + 1) Ybxm.underlying9 h0 (by omega) (by show i + 1 ≤ 10; omega)]
  rw [show (i + 1).toNat = i.toNat + 1 from by omega]
  rw [show (⟨#[48, 49, 50, 51, 52, 53, 54, 55, 56, 57]⟩ : ByteArray).extract i.toNat (i.toNat + 1) = ⟨#[dg i.toNat]⟩ from str_ext (digit_cut _ (by omega))]
theorem dec_more (v d : Nat) (hv : 0 < v) (hd : d < 10) : dec (v * 10 + d) = dec v ++ [dg d] := by
  rw [dec_big _ (by omega), show (v * 10 + d) / 10 = v from by omega, show (v * 10 + d) % 10 = d from by omega]
end Go.Proofs.Ymbrbx

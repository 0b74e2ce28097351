import Derived.Test.YmbrbxCutAll
import Derived.Test.YmbrbxOwnBytes
import Derived.Test.YmbrbxHPartsWalk
namespace Go.Proofs.Ymbrbx
open Go.ChangeShapes Go.WideShapes Go.ChangeAt Go.RowKit
set_option linter.unusedVariables false
set_option linter.unusedSimpArgs false

theorem hblank_any (c : UInt8) (w : World) : Calls Ybxm.prog 29 #[.int .u8 (c.toNat : Int)] w fun e w' => e = .returned (.bool (blk c)) ∧ w' = w := by
  cases h : blk c with
  | true => exact hblank_yes _ (blk_int c h) w
  | false => exact hblank_no _ (nbk_int c h) w

/-! ### What holds at each place of the second loop -/
structure Inv (s : ByteArray) (i q st sv : Nat) : Prop where
  qst : q ≤ st
  sti : st ≤ i
  isz : i ≤ s.size
  blanks : ∀ j, q ≤ j → j < st → bk s j = true
  field : ∀ j, st ≤ j → j < i → bk s j = false
  going : st < i → i < s.size ∧ bk s i = false ∧ sv = st
  fresh : st = i → 0 < i → i = s.size ∨ bk s i = true ∨ bk s (i - 1) = true

theorem Inv.start (s : ByteArray) : Inv s 0 0 0 0 := ⟨by omega, by omega, by omega, fun j _ _ => by omega, fun j _ _ => by omega, fun h => by omega, fun _ h => by omega⟩
theorem Inv.blank {s : ByteArray} {i q st sv : Nat} (h : Inv s i q st sv) (hi : i < s.size) (hb : bk s i = true) : Inv s (i + 1) q (i + 1) sv := by
  have e : st = i := by
    rcases Nat.lt_or_ge st i with h1 | h1
    · have := (h.going h1).2.1
      rw [hb] at this
      cases this
    · have := h.sti; omega
  subst e
  refine ⟨by have := h.qst; omega, by omega, by omega, ?_, fun j _ _ => by omega, fun h => by omega, fun _ _ => .inr (.inr (by rw [Nat.add_sub_cancel]; exact hb))⟩
  intro j h1 h2
  by_cases hj : j = st
  · rw [hj]; exact hb
  · exact h.blanks j h1 (by omega)
theorem Inv.begins {s : ByteArray} {i q st sv : Nat} (h : Inv s i q st sv) (hb : i = 0 ∨ bk s (i - 1) = true) : st = i := by
  have h1 := h.sti
  rcases Nat.lt_or_ge st i with h2 | h2
  · have h3 := h.field (i - 1) (by omega) (by omega)
    rcases hb with hb | hb
    · omega
    · rw [hb] at h3; cases h3
  · omega
theorem Inv.goes {s : ByteArray} {i q st sv : Nat} (h : Inv s i q st sv) (hi : i < s.size) (hn : bk s i = false) (h0 : 0 < i) (hb : bk s (i - 1) = false) : st < i ∧ sv = st := by
  have h1 := h.sti
  rcases Nat.lt_or_ge st i with h2 | h2
  · exact ⟨h2, (h.going h2).2.2⟩
  · rcases h.fresh (by omega) h0 with h3 | h3 | h3
    · omega
    · rw [hn] at h3; cases h3
    · rw [hb] at h3; cases h3
theorem Inv.field' {s : ByteArray} {i q st sv : Nat} (h : Inv s i q st sv) (hn : bk s i = false) : ∀ j, st ≤ j → j < i + 1 → bk s j = false := by
  intro j h1 h2
  by_cases hj : j = i
  · rw [hj]; exact hn
  · exact h.field j h1 (by omega)
theorem Inv.step {s : ByteArray} {i q st sv : Nat} (h : Inv s i q st sv) (hn : bk s i = false) (hi : i + 1 < s.size) (hn2 : bk s (i + 1) = false) : Inv s (i + 1) q st st :=
  ⟨h.qst, by have := h.sti; omega, by omega, h.blanks, h.field' hn, fun _ => ⟨hi, hn2, rfl⟩, fun e => by have := h.sti; omega⟩
theorem Inv.cut {s : ByteArray} {i q st sv : Nat} (h : Inv s i q st sv) (hi : i < s.size) (hn : bk s i = false) (he : i + 1 = s.size ∨ bk s (i + 1) = true) :
    cutF (s.data.toList.drop q) = (seg s st (i + 1), s.data.toList.drop (i + 1)) ∧ Inv s (i + 1) (i + 1) (i + 1) st := by
  refine ⟨cut_at s q st (i + 1) h.qst (by have := h.sti; omega) (by omega) h.blanks (h.field' hn) he, ?_⟩
  refine ⟨by omega, by omega, by omega, fun j _ _ => by omega, fun j _ _ => by omega, fun h => by omega, fun _ _ => ?_⟩
  rcases he with he | he
  · exact .inl he
  · exact .inr (.inl he)
theorem Inv.done {s : ByteArray} {i q st sv : Nat} (h : Inv s i q st sv) (hi : i = s.size) : cutF (s.data.toList.drop q) = ([], []) := by
  have e : st = i := by
    rcases Nat.lt_or_ge st i with h1 | h1
    · have := (h.going h1).1; omega
    · have := h.sti; omega
  refine cut_none s q (by have := h.qst; have := h.sti; omega) (fun j h1 h2 => h.blanks j h1 (by omega))
end Go.Proofs.Ymbrbx

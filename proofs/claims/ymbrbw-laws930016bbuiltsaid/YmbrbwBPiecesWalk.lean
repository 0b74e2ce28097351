import Derived.Test.YmbrbwBAgrees
namespace Go.Proofs.Ymbrbw
open Go.ChangeShapes Go.WideShapes Go.ChangeAt Go.RowKit
set_option linter.unusedVariables false
set_option linter.unusedSimpArgs false

def bcode (k : Int) : Int := if k = 0 then 0 else if k = 1 then 7 else k - 1
theorem bname_any (k : Int) (h0 : 0 ≤ k) (h8 : k < 8) (w : World) :
    Calls Ybwm.prog 19 #[.int .i64 k] w fun e w' => e = .returned (.tuple #[.string (opName (bcode k)), .int .u8 (bcode k)]) ∧ w' = w := by
  obtain h | h | h | h | h | h | h | h : k = 0 ∨ k = 1 ∨ k = 2 ∨ k = 3 ∨ k = 4 ∨ k = 5 ∨ k = 6 ∨ k = 7 := by omega
  all_goals
    subst h
    go_enter Ybwm.func19, Ybwm.ntmps19
    go_wp2
    go_ret2
    exact ⟨rfl, rfl⟩
set_option maxHeartbeats 4000000 in
theorem bpiece_any (p : Int) (h0 : 0 ≤ p) (h8 : p ≤ 255) (w : World) :
    Calls Ybwm.prog 20 #[.int .u8 p] w fun e w' => ∃ t : ByteArray, e = .returned (.string t) ∧ t.size ≤ 12 ∧ w' = w := by
  go_enter Ybwm.func20, Ybwm.ntmps20
  go_wp2
  all_goals
    go_ret
    exact ⟨_, rfl, by decide, rfl⟩

set_option maxHeartbeats 4000000 in
theorem BPieces_walk (a0 : Int) (a1 : Option Addr) (len cap : Nat) (z1 : List Int) (w : World) (w0 : (Lit.int .u8 a0).wf = true) (w1 : IsRow .u8 w a1 len cap z1) :
    Calls Ybwm.prog 7 #[.int .u8 a0, .slice a1 len cap] w fun e w' => e = .returned (.bool true) ∧ Below w.heap.size w w' := by
  obtain ⟨hm, hv⟩ := w1.view
  have b0 := bounds_u8 w0
  unfold maxLen at hm
  by_cases hl : (256 : Int) < (len : Int)
  · clear hv w1
    go_enter Ybwm.func7, Ybwm.ntmps7
    go_wp2
    go_ret
    exact ⟨rfl, Below.refl _ _⟩
  · have HV : Hid (len = 0 ∨ ∃ b off, a1 = some ⟨b, off, none⟩ ∧ b < w.heap.size ∧ ∀ j, j < len → (w.cell? ⟨b, off + j, none⟩ = some (.int .u8 (z1.getD j 0)) ∧ (Lit.int .u8 (z1.getD j 0)).wf = true)) := hv
    have i0 : 0 ≤ a0 % 8 := by omega
    have i8 : a0 % 8 < 8 := by omega
    have hsz := opName_size (bcode (a0 % 8))
    clear hv w1
    go_enter Ybwm.func7, Ybwm.ntmps7
    go_wp2_with (go_at_call 19; refine (bname_any _ i0 i8 _).mono ?_; rintro e w ⟨rfl, rfl⟩)
    go_loop [5, 21] (fun x i => ∃ (k : Nat) (t : ByteArray), k ≤ len ∧ i = .int .i64 k ∧ x = .string t ∧ t.size ≤ 4 + 12 * k) (fun _ i => len - (intOf i).toNat)
    case atStart => exact ⟨0, _, by omega, rfl, rfl, by omega⟩
    case round =>
      obtain ⟨k, t, hk, rfl, rfl, ht⟩ := hrel
      by_cases hlt : k < len
      · rcases HV.out with h | ⟨b, off, rfl, hb, hc⟩
        · omega
        · obtain ⟨hcx, hwf⟩ := hc k hlt
          have hbx := bounds_u8 hwf
          obtain ⟨x, hx⟩ : ∃ x : Int, x = z1.getD k 0 := ⟨_, rfl⟩
          rw [← hx] at hcx hbx
          clear hx hwf hc
          go_wp2_with (go_at_call 20; refine (bpiece_any _ hbx.1 hbx.2 _).mono ?_; rintro e w ⟨p, rfl, hp, rfl⟩)
          go_round
          case rel => exact ⟨k + 1, _, by omega, by go_num, rfl, by rw [ByteArray.size_append]; omega⟩
          case measure => simp [intOf]; omega
      · have h1 := fun w' => bagrees_any t w' (by omega)
        go_wp2_with (go_at_call 18; refine (h1 _).mono ?_; rintro e w' ⟨rfl, hb⟩)
        go_ret
        exact ⟨rfl, hb⟩
end Go.Proofs.Ymbrbw

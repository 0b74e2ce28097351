import Derived.Test.YmbrbxCutParts
namespace Go.Proofs.Ymbrbx
open Go.ChangeShapes Go.WideShapes Go.ChangeAt Go.RowKit
set_option linter.unusedVariables false
set_option linter.unusedSimpArgs false

theorem hblank_yes (x : Int) (h : x = 32 ∨ x = 9) (w : World) : Calls Ybxm.prog 29 #[.int .u8 x] w fun e w' => e = .returned (.bool true) ∧ w' = w := by
  rcases h with h | h
  all_goals
    subst h
    go_enter Ybxm.func29, Ybxm.ntmps29
    go_wp2
    go_ret
    exact ⟨rfl, rfl⟩
theorem hblank_no (x : Int) (h : ¬ x = 32 ∧ ¬ x = 9) (w : World) : Calls Ybxm.prog 29 #[.int .u8 x] w fun e w' => e = .returned (.bool false) ∧ w' = w := by
  have h1 : (x == 32) = false := int_ne h.1
  have h2 : (x == 9) = false := int_ne h.2
  clear h
  go_enter Ybxm.func29, Ybxm.ntmps29
  go_wp2
  go_ret
  exact ⟨rfl, rfl⟩

set_option maxHeartbeats 4000000 in
theorem HParts_walk (s : ByteArray) (w : World) (w0 : s.size ≤ maxLen) :
    Calls Ybxm.prog 10 #[.string s] w fun e w' => e = .returned (.bool true) ∧ Below w.heap.size w w' := by
  have hC := fun w' => cutField_any s w' w0
  obtain ⟨f, r, p, hf, hr, hsz, hblk, hx1, hx2, hfn, hfr, hr0⟩ := cut_facts s
  rw [← hf, ← hr] at hC
  clear hf hr
  unfold maxLen at w0
  have hp : (s.size : Int) - (f.size : Int) - (r.size : Int) = (p : Int) := by omega
  have HSZ : Hid (s.size = p + f.size + r.size) := hsz
  have hps : p + f.size ≤ s.size := by omega
  have hfs : f.size ≤ s.size := by omega
  have hrs : r.size ≤ s.size := by omega
  clear hsz
  go_enter Ybxm.func10, Ybxm.ntmps10
  go_wp2_with (go_at_call 28; refine (hC _).mono ?_; rintro e w' ⟨rfl, nd, rfl⟩)
  go_loop [6] (fun i => ∃ k : Nat, k ≤ p ∧ i = .int .i64 k) (fun i => p - (intOf i).toNat)
  case atStart => exact ⟨0, by omega, rfl⟩
  case round =>
    obtain ⟨k, hk, rfl⟩ := hrel
    by_cases hlt : k < p
    · have hks : k < s.size := by omega
      have hb := blk_int _ (hblk k hlt hks)
      go_wp2_with (go_at_call 29; refine (hblank_yes _ hb _).mono ?_; rintro e w' ⟨rfl, rfl⟩)
      go_round
      case rel => exact ⟨k + 1, by omega, by go_num⟩
      case measure => simp [intOf]; omega
    · obtain rfl : k = p := by omega
      have hs1 : (Instr.slice 9 (.string s) (some (.int .i64 (k : Int))) (some (.int .i64 ((k : Int) + (f.size : Int)))) none).run Ybxm.prog (w.drewN nd) = .ok (.string f) (w.drewN nd) := by
        rw [run_slice_string _ 9 s .i64 .i64 (k : Int) _ Ybxm.underlying9 (by omega) (by omega) (by omega), Int.toNat_natCast, show ((k : Int) + (f.size : Int)).toNat = k + f.size from by omega, hx1]
      have hs2 : (Instr.slice 9 (.string s) (some (.int .i64 ((k : Int) + (f.size : Int)))) none none).run Ybxm.prog (w.drewN nd) = .ok (.string r) (w.drewN nd) := by
        rw [run_slice_string_from_if _ 9 s .i64 _ Ybxm.underlying9, if_pos (by omega), show ((k : Int) + (f.size : Int)).toNat = k + f.size from by omega, hx2]
      have hf0 : (f.size = 0 ∧ f = ⟨#[]⟩ ∧ r = ⟨#[]⟩) ∨ (0 < f.size ∧ (f.toList == []) = false) := by
        by_cases h : f.size = 0
        · exact .inl ⟨h, str_ext (List.eq_nil_of_length_eq_zero h), str_ext (List.eq_nil_of_length_eq_zero (hfr h))⟩
        · refine .inr ⟨by omega, eqb_lit ?_⟩
          intro e
          rw [e] at h
          exact h rfl
      have hr1 : (r = ⟨#[]⟩) ∨ (0 < r.size ∧ (r.toList == []) = false) := by
        by_cases h : r.size = 0
        · exact .inl (str_ext (List.eq_nil_of_length_eq_zero h))
        · refine .inr ⟨by omega, eqb_lit ?_⟩
          intro e
          rw [e] at h
          exact h rfl
      have HFN : Hid (∀ j, (h : j < f.size) → blk f[j] = false) := hfn
      have HR0 : Hid ((h : 0 < r.size) → blk r[0] = true) := hr0
      have HB : Below w.heap.size w (w.drewN nd) := below_drewN (Below.refl _ _) nd
      clear hblk hx1 hx2 hp HSZ hfn hr0 hlt hk hC hfr
      go_wp2
      go_loop [7] (fun i => ∃ k : Nat, k ≤ f.size ∧ i = .int .i64 k) (fun i => f.size - (intOf i).toNat)
      case atStart => exact ⟨0, by omega, rfl⟩
      case round =>
        obtain ⟨j, hj, rfl⟩ := hrel
        by_cases hlt : j < f.size
        · have hb := nbk_int _ (HFN.out j hlt)
          go_wp2_with (go_at_call 29; refine (hblank_no _ hb _).mono ?_; rintro e w' ⟨rfl, rfl⟩)
          go_round
          case rel => exact ⟨j + 1, by omega, by go_num⟩
          case measure => simp [intOf]; omega
        · clear hs1 hs2
          rcases hf0 with ⟨h0, rfl, rfl⟩ | ⟨h0, q0⟩
          · go_wp2
            go_ret
            exact ⟨rfl, HB⟩
          · rcases hr1 with rfl | ⟨h1, q1⟩
            · go_wp2
              go_ret
              exact ⟨rfl, HB⟩
            · have hb := blk_int _ (HR0.out h1)
              go_wp2_with (go_at_call 29; refine (hblank_yes _ hb _).mono ?_; rintro e w' ⟨rfl, rfl⟩)
              go_ret
              exact ⟨rfl, HB⟩
end Go.Proofs.Ymbrbx

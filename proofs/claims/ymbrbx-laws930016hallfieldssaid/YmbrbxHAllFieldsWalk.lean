import Derived.Test.YmbrbxHInv
namespace Go.Proofs.Ymbrbx
open Go.ChangeShapes Go.WideShapes Go.ChangeAt Go.RowKit
set_option linter.unusedVariables false
set_option linter.unusedSimpArgs false

set_option maxRecDepth 100000 in
set_option maxHeartbeats 8000000 in
theorem HAllFields_row (b off len cap : Nat) (w : World) (hm : len ≤ 1024) (hb : b < w.heap.size)
    (hcell : ∀ j, j < len → ∃ x : Int, 0 ≤ x ∧ x ≤ 255 ∧ w.cell? ⟨b, off + j, none⟩ = some (.int .u8 x)) :
    Calls Ybxm.prog 12 #[.slice (some ⟨b, off, none⟩) len cap] w fun e w' => e = .returned (.bool true) ∧ Below w.heap.size w w' := by
  have hl : ¬ ((1024 : Int) < (len : Int)) := by omega
  go_enter Ybxm.func12, Ybxm.ntmps12
  go_wp2_with (at_make; refine wpList_make_bytes rfl (.tmp 17) (.tmp 17) rfl w.heap.size len (len : Int) (len : Int) rfl rfl rfl rfl (by omega) (Nat.le_refl _) ?_)
  intro w1 hown1 hgrow1
  have hbel1 : Below w.heap.size w w1 := (Below.refl _ _).grown hgrow1 (Nat.le_refl _) (fun k hk => by cases hk)
  clear hgrow1
  go_wp2
  go_loopw [4] (fun i wr => ∃ (k : Nat) (l : List UInt8), k ≤ len ∧ i = .int .i64 k ∧ l.length = len ∧ OwnB w.heap.size wr (.slice (some ⟨w.heap.size, 0, none⟩) len len) l ∧ Below w.heap.size w wr) (fun i _ => len - (intOf i).toNat)
  case atStart => exact ⟨0, _, by omega, rfl, by simp, hown1, hbel1⟩
  case round =>
    obtain ⟨k, l, hk, rfl, hll, hown, hbel⟩ := hrel
    by_cases hlt : k < len
    · obtain ⟨x, hx0, hx1, hcx⟩ := hcell k hlt
      obtain ⟨c, rfl⟩ := byte_of x hx0 hx1
      have hcx' : wr.cell? ⟨b, off + k, none⟩ = some (.int .u8 (c.toNat : Int)) := (hbel.cell (p := ⟨b, off + k, none⟩) hb).trans hcx
      have hne : ¬ (⟨w.heap.size, k, none⟩ : Addr) = ⟨b, off + k, none⟩ := by intro e; injection e with e1 _ _; omega
      have hbn : ¬ b = w.heap.size := by omega
      have hbk := hown.at hll k (by omega)
      have hfr := hown.free hll k
      go_wp2
      all_goals
        go_roundw
        case rel =>
          first
            | exact ⟨k + 1, l.set k c, by omega, by go_num, by rw [List.length_set]; exact hll, hown.store hll k c rfl, hbel.setCell (Nat.le_refl _) _⟩
            | exact ⟨k + 1, (l.set k c).set k 9, by omega, by go_num, by rw [List.length_set, List.length_set]; exact hll, (hown.store hll k c rfl).store (by rw [List.length_set]; exact hll) k 9 rfl, (hbel.setCell (Nat.le_refl _) _).setCell (Nat.le_refl _) _⟩
            | exact ⟨k + 1, (l.set k c).set k 32, by omega, by go_num, by rw [List.length_set, List.length_set]; exact hll, (hown.store hll k c rfl).store (by rw [List.length_set]; exact hll) k 32 rfl, (hbel.setCell (Nat.le_refl _) _).setCell (Nat.le_refl _) _⟩
        case measure => simp [intOf]; omega
    · have ht := hown.text
      obtain ⟨s, hs⟩ : ∃ s : ByteArray, s = ⟨l.toArray⟩ := ⟨_, rfl⟩
      rw [← hs] at ht
      have hsz : s.size ≤ 1024 := by
        have : s.size = l.length := by rw [hs]; rfl
        omega
      have hz0 : wr.heap.size ≥ w.heap.size := hbel.size
      obtain ⟨wo, hwo⟩ : ∃ wo : World, wo = wr := ⟨_, rfl⟩
      rw [← hwo] at ht hbel ⊢
      clear hs hcell hown hwo hown1 hbel1 hz0 hll
      go_wp2
      go_loopw [6, 7, 8] (fun x6 x7 x8 wr => ∃ (i q st sv : Nat) (r : ByteArray), x8 = .int .i64 i ∧ x6 = .string r ∧ x7 = .int .i64 sv ∧ Hid (r.data.toList = s.data.toList.drop q) ∧ Inv s i q st sv ∧ Below w.heap.size w wr) (fun _ _ x8 _ => s.size - (intOf x8).toNat)
      case atStart => exact ⟨0, 0, 0, 0, s, rfl, rfl, rfl, rfl, Inv.start s, hbel⟩
      case round =>
        obtain ⟨i, q, st, sv, r, rfl, rfl, rfl, HR, hinv, hbel2⟩ := hrel
        clear ht hbel
        have HI : Hid (Inv s i q st sv) := hinv
        have hi1 := hinv.isz
        have hi2 := hinv.sti
        have hrz : r.size ≤ maxLen := by
          have := congrArg List.length HR.out
          rw [List.length_drop] at this
          have h3 : r.data.toList.length = r.size := rfl
          have h4 : s.data.toList.length = s.size := rfl
          unfold maxLen
          omega
        clear hinv
        by_cases hlt : i < s.size
        · have hbi := bk_at s i hlt
          cases hv : bk s i with
          | true =>
            have HI' : Hid (Inv s (i + 1) q (i + 1) sv) := HI.out.blank hlt hv
            rw [hv] at hbi
            clear hv
            go_wp2_with (go_at_call 29; refine (hblank_any _ _).mono ?_; rintro e w' ⟨rfl, rfl⟩)
            go_roundw
            case rel => exact ⟨i + 1, q, i + 1, sv, r, by go_num, rfl, rfl, HR, HI'.out, hbel2⟩
            case measure => simp [intOf]; omega
          | false =>
            rw [hv] at hbi
            by_cases hi0 : i = 0
            · subst hi0
              obtain rfl : st = 0 := by omega
              by_cases hend : 0 + 1 = s.size
              · have HE : 0 + 1 = s.size ∨ bk s (0 + 1) = true := .inl hend
                have hq1 : Hid (((0 : Int) == (s.size : Int) - 1) = true) := int_eq (by omega)
                have hq2 : (s.size : Int) - 1 = (0 : Int) := by omega
                clear hend
                have hct := HI.out.cut hlt hv HE
                have hC := fun w' => cutField_any r w' hrz
                have e1 : cutF r.data.toList = (seg s 0 (0 + 1), s.data.toList.drop (0 + 1)) := by rw [HR.out]; exact hct.1
                rw [e1] at hC
                obtain ⟨F, hF⟩ : ∃ F : ByteArray, F = ⟨(seg s 0 (0 + 1)).toArray⟩ := ⟨_, rfl⟩
                obtain ⟨R, hR⟩ : ∃ R : ByteArray, R = ⟨(s.data.toList.drop (0 + 1)).toArray⟩ := ⟨_, rfl⟩
                rw [← hF, ← hR] at hC
                have hs1 : ∀ W : World, (Instr.slice 9 (.string s) (some (.int .i64 (0 : Int))) (some (.int .i64 (1 : Int))) none).run Ybxm.prog W = .ok (.string F) W := by
                  intro W
                  have q1 : ((0 : Int)).toNat = 0 := by omega
                  have q2 : ((1 : Int)).toNat = 0 + 1 := by omega
                  rw [run_slice_string W 9 s .i64 .i64 _ _ Ybxm.underlying9 (by omega) (by omega) (by omega), q1, q2]
                  have e2 : s.extract (0) (0 + 1) = F := str_ext (by rw [cut_seg s _ _ (by omega), hF])
                  rw [e2]
                have hs2 : ∀ W : World, (Instr.slice 9 (.string s) (some (.int .i64 (1 : Int))) none none).run Ybxm.prog W = .ok (.string R) W := by
                  intro W
                  have q2 : ((1 : Int)).toNat = 0 + 1 := by omega
                  rw [run_slice_string_from_if W 9 s .i64 _ Ybxm.underlying9, if_pos (by omega), q2]
                  have e2 : s.extract (0 + 1) s.size = R := str_ext (by rw [cut_rest, hR])
                  rw [e2]
                have HR' : Hid (R.data.toList = s.data.toList.drop (0 + 1)) := by show _ = _; rw [hR]
                have HI' : Hid (Inv s (0 + 1) (0 + 1) (0 + 1) 0) := hct.2
                clear hF hR hct e1 hv HR HE HI
                go_wp2_with (first | (go_at_call 29; refine (hblank_any _ _).mono ?_; rintro e w' ⟨rfl, rfl⟩) | (go_at_call 28; refine (hC _).mono ?_; rintro e w' ⟨rfl, nd, rfl⟩))
                go_roundw
                case rel => exact ⟨0 + 1, 0 + 1, 0 + 1, 0, R, by go_num, rfl, by go_num, HR', HI'.out, below_drewN hbel2 _⟩
                case measure => simp [intOf] <;> omega
              · have hlt2 : 0 + 1 < s.size := by omega
                have hq1 : ((0 : Int) == (s.size : Int) - 1) = false := int_ne (by omega)
                clear hend
                have hbi2 := bk_at s (0 + 1) hlt2
                cases hv2 : bk s (0 + 1) with
                | true =>
                  have HE : 0 + 1 = s.size ∨ bk s (0 + 1) = true := .inr hv2
                  rw [hv2] at hbi2
                  clear hv2
                  have hct := HI.out.cut hlt hv HE
                  have hC := fun w' => cutField_any r w' hrz
                  have e1 : cutF r.data.toList = (seg s 0 (0 + 1), s.data.toList.drop (0 + 1)) := by rw [HR.out]; exact hct.1
                  rw [e1] at hC
                  obtain ⟨F, hF⟩ : ∃ F : ByteArray, F = ⟨(seg s 0 (0 + 1)).toArray⟩ := ⟨_, rfl⟩
                  obtain ⟨R, hR⟩ : ∃ R : ByteArray, R = ⟨(s.data.toList.drop (0 + 1)).toArray⟩ := ⟨_, rfl⟩
                  rw [← hF, ← hR] at hC
                  have hs1 : ∀ W : World, (Instr.slice 9 (.string s) (some (.int .i64 (0 : Int))) (some (.int .i64 (1 : Int))) none).run Ybxm.prog W = .ok (.string F) W := by
                    intro W
                    have q1 : ((0 : Int)).toNat = 0 := by omega
                    have q2 : ((1 : Int)).toNat = 0 + 1 := by omega
                    rw [run_slice_string W 9 s .i64 .i64 _ _ Ybxm.underlying9 (by omega) (by omega) (by omega), q1, q2]
                    have e2 : s.extract (0) (0 + 1) = F := str_ext (by rw [cut_seg s _ _ (by omega), hF])
                    rw [e2]
                  have hs2 : ∀ W : World, (Instr.slice 9 (.string s) (some (.int .i64 (1 : Int))) none none).run Ybxm.prog W = .ok (.string R) W := by
                    intro W
                    have q2 : ((1 : Int)).toNat = 0 + 1 := by omega
                    rw [run_slice_string_from_if W 9 s .i64 _ Ybxm.underlying9, if_pos (by omega), q2]
                    have e2 : s.extract (0 + 1) s.size = R := str_ext (by rw [cut_rest, hR])
                    rw [e2]
                  have HR' : Hid (R.data.toList = s.data.toList.drop (0 + 1)) := by show _ = _; rw [hR]
                  have HI' : Hid (Inv s (0 + 1) (0 + 1) (0 + 1) 0) := hct.2
                  clear hF hR hct e1 hv HR HE HI
                  go_wp2_with (first | (go_at_call 29; refine (hblank_any _ _).mono ?_; rintro e w' ⟨rfl, rfl⟩) | (go_at_call 28; refine (hC _).mono ?_; rintro e w' ⟨rfl, nd, rfl⟩))
                  go_roundw
                  case rel => exact ⟨0 + 1, 0 + 1, 0 + 1, 0, R, by go_num, rfl, by go_num, HR', HI'.out, below_drewN hbel2 _⟩
                  case measure => simp [intOf] <;> omega
                | false =>
                  have HI' : Hid (Inv s (0 + 1) q 0 0) := HI.out.step hv hlt2 hv2
                  rw [hv2] at hbi2
                  clear hv hv2 HI
                  go_wp2_with (go_at_call 29; refine (hblank_any _ _).mono ?_; rintro e w' ⟨rfl, rfl⟩)
                  go_roundw
                  case rel => exact ⟨0 + 1, q, 0, 0, r, by go_num, rfl, by go_num, HR, HI'.out, hbel2⟩
                  case measure => simp [intOf] <;> omega
            · obtain ⟨i', rfl⟩ : ∃ i', i = i' + 1 := ⟨i - 1, by omega⟩
              have hbp := bk_at s i' (by omega)
              cases hvp : bk s i' with
              | true =>
                obtain rfl : st = i' + 1 := HI.out.begins (.inr (by rw [Nat.add_sub_cancel]; exact hvp))
                rw [hvp] at hbp
                clear hvp
                by_cases hend : (i' + 1) + 1 = s.size
                · have HE : (i' + 1) + 1 = s.size ∨ bk s ((i' + 1) + 1) = true := .inl hend
                  have hq1 : Hid ((((i' : Int) + 1) == (s.size : Int) - 1) = true) := int_eq (by omega)
                  have hq2 : (s.size : Int) - 1 = (i' : Int) + 1 := by omega
                  clear hend
                  have hct := HI.out.cut hlt hv HE
                  have hC := fun w' => cutField_any r w' hrz
                  have e1 : cutF r.data.toList = (seg s (i' + 1) ((i' + 1) + 1), s.data.toList.drop ((i' + 1) + 1)) := by rw [HR.out]; exact hct.1
                  rw [e1] at hC
                  obtain ⟨F, hF⟩ : ∃ F : ByteArray, F = ⟨(seg s (i' + 1) ((i' + 1) + 1)).toArray⟩ := ⟨_, rfl⟩
                  obtain ⟨R, hR⟩ : ∃ R : ByteArray, R = ⟨(s.data.toList.drop ((i' + 1) + 1)).toArray⟩ := ⟨_, rfl⟩
                  rw [← hF, ← hR] at hC
                  have hs1 : ∀ W : World, (Instr.slice 9 (.string s) (some (.int .i64 ((i' : Int) + 1))) (some (.int .i64 ((i' : Int) + 1 + 1))) none).run Ybxm.prog W = .ok (.string F) W := by
                    intro W
                    have q1 : (((i' : Int) + 1)).toNat = (i' + 1) := by omega
                    have q2 : (((i' : Int) + 1 + 1)).toNat = (i' + 1) + 1 := by omega
                    rw [run_slice_string W 9 s .i64 .i64 _ _ Ybxm.underlying9 (by omega) (by omega) (by omega), q1, q2]
                    have e2 : s.extract ((i' + 1)) ((i' + 1) + 1) = F := str_ext (by rw [cut_seg s _ _ (by omega), hF])
                    rw [e2]
                  have hs2 : ∀ W : World, (Instr.slice 9 (.string s) (some (.int .i64 ((i' : Int) + 1 + 1))) none none).run Ybxm.prog W = .ok (.string R) W := by
                    intro W
                    have q2 : (((i' : Int) + 1 + 1)).toNat = (i' + 1) + 1 := by omega
                    rw [run_slice_string_from_if W 9 s .i64 _ Ybxm.underlying9, if_pos (by omega), q2]
                    have e2 : s.extract ((i' + 1) + 1) s.size = R := str_ext (by rw [cut_rest, hR])
                    rw [e2]
                  have HR' : Hid (R.data.toList = s.data.toList.drop ((i' + 1) + 1)) := by show _ = _; rw [hR]
                  have HI' : Hid (Inv s ((i' + 1) + 1) ((i' + 1) + 1) ((i' + 1) + 1) (i' + 1)) := hct.2
                  clear hF hR hct e1 hv HR HE HI
                  go_wp2_with (first | (go_at_call 29; refine (hblank_any _ _).mono ?_; rintro e w' ⟨rfl, rfl⟩) | (go_at_call 28; refine (hC _).mono ?_; rintro e w' ⟨rfl, nd, rfl⟩))
                  go_roundw
                  case rel => exact ⟨(i' + 1) + 1, (i' + 1) + 1, (i' + 1) + 1, (i' + 1), R, by go_num, rfl, by go_num, HR', HI'.out, below_drewN hbel2 _⟩
                  case measure => simp [intOf] <;> omega
                · have hlt2 : (i' + 1) + 1 < s.size := by omega
                  have hq1 : (((i' : Int) + 1) == (s.size : Int) - 1) = false := int_ne (by omega)
                  clear hend
                  have hbi2 := bk_at s ((i' + 1) + 1) hlt2
                  cases hv2 : bk s ((i' + 1) + 1) with
                  | true =>
                    have HE : (i' + 1) + 1 = s.size ∨ bk s ((i' + 1) + 1) = true := .inr hv2
                    rw [hv2] at hbi2
                    clear hv2
                    have hct := HI.out.cut hlt hv HE
                    have hC := fun w' => cutField_any r w' hrz
                    have e1 : cutF r.data.toList = (seg s (i' + 1) ((i' + 1) + 1), s.data.toList.drop ((i' + 1) + 1)) := by rw [HR.out]; exact hct.1
                    rw [e1] at hC
                    obtain ⟨F, hF⟩ : ∃ F : ByteArray, F = ⟨(seg s (i' + 1) ((i' + 1) + 1)).toArray⟩ := ⟨_, rfl⟩
                    obtain ⟨R, hR⟩ : ∃ R : ByteArray, R = ⟨(s.data.toList.drop ((i' + 1) + 1)).toArray⟩ := ⟨_, rfl⟩
                    rw [← hF, ← hR] at hC
                    have hs1 : ∀ W : World, (Instr.slice 9 (.string s) (some (.int .i64 ((i' : Int) + 1))) (some (.int .i64 ((i' : Int) + 1 + 1))) none).run Ybxm.prog W = .ok (.string F) W := by
                      intro W
                      have q1 : (((i' : Int) + 1)).toNat = (i' + 1) := by omega
                      have q2 : (((i' : Int) + 1 + 1)).toNat = (i' + 1) + 1 := by omega
                      rw [run_slice_string W 9 s .i64 .i64 _ _ Ybxm.underlying9 (by omega) (by omega) (by omega), q1, q2]
                      have e2 : s.extract ((i' + 1)) ((i' + 1) + 1) = F := str_ext (by rw [cut_seg s _ _ (by omega), hF])
                      rw [e2]
                    have hs2 : ∀ W : World, (Instr.slice 9 (.string s) (some (.int .i64 ((i' : Int) + 1 + 1))) none none).run Ybxm.prog W = .ok (.string R) W := by
                      intro W
                      have q2 : (((i' : Int) + 1 + 1)).toNat = (i' + 1) + 1 := by omega
                      rw [run_slice_string_from_if W 9 s .i64 _ Ybxm.underlying9, if_pos (by omega), q2]
                      have e2 : s.extract ((i' + 1) + 1) s.size = R := str_ext (by rw [cut_rest, hR])
                      rw [e2]
                    have HR' : Hid (R.data.toList = s.data.toList.drop ((i' + 1) + 1)) := by show _ = _; rw [hR]
                    have HI' : Hid (Inv s ((i' + 1) + 1) ((i' + 1) + 1) ((i' + 1) + 1) (i' + 1)) := hct.2
                    clear hF hR hct e1 hv HR HE HI
                    go_wp2_with (first | (go_at_call 29; refine (hblank_any _ _).mono ?_; rintro e w' ⟨rfl, rfl⟩) | (go_at_call 28; refine (hC _).mono ?_; rintro e w' ⟨rfl, nd, rfl⟩))
                    go_roundw
                    case rel => exact ⟨(i' + 1) + 1, (i' + 1) + 1, (i' + 1) + 1, (i' + 1), R, by go_num, rfl, by go_num, HR', HI'.out, below_drewN hbel2 _⟩
                    case measure => simp [intOf] <;> omega
                  | false =>
                    have HI' : Hid (Inv s ((i' + 1) + 1) q (i' + 1) (i' + 1)) := HI.out.step hv hlt2 hv2
                    rw [hv2] at hbi2
                    clear hv hv2 HI
                    go_wp2_with (go_at_call 29; refine (hblank_any _ _).mono ?_; rintro e w' ⟨rfl, rfl⟩)
                    go_roundw
                    case rel => exact ⟨(i' + 1) + 1, q, (i' + 1), (i' + 1), r, by go_num, rfl, by go_num, HR, HI'.out, hbel2⟩
                    case measure => simp [intOf] <;> omega
              | false =>
                obtain ⟨hsti, rfl⟩ := HI.out.goes hlt hv (by omega) (by rw [Nat.add_sub_cancel]; exact hvp)
                rw [hvp] at hbp
                clear hvp
                by_cases hend : (i' + 1) + 1 = s.size
                · have HE : (i' + 1) + 1 = s.size ∨ bk s ((i' + 1) + 1) = true := .inl hend
                  have hq1 : Hid ((((i' : Int) + 1) == (s.size : Int) - 1) = true) := int_eq (by omega)
                  have hq2 : (s.size : Int) - 1 = (i' : Int) + 1 := by omega
                  clear hend
                  have hct := HI.out.cut hlt hv HE
                  have hC := fun w' => cutField_any r w' hrz
                  have e1 : cutF r.data.toList = (seg s sv ((i' + 1) + 1), s.data.toList.drop ((i' + 1) + 1)) := by rw [HR.out]; exact hct.1
                  rw [e1] at hC
                  obtain ⟨F, hF⟩ : ∃ F : ByteArray, F = ⟨(seg s sv ((i' + 1) + 1)).toArray⟩ := ⟨_, rfl⟩
                  obtain ⟨R, hR⟩ : ∃ R : ByteArray, R = ⟨(s.data.toList.drop ((i' + 1) + 1)).toArray⟩ := ⟨_, rfl⟩
                  rw [← hF, ← hR] at hC
                  have hs1 : ∀ W : World, (Instr.slice 9 (.string s) (some (.int .i64 (sv : Int))) (some (.int .i64 ((i' : Int) + 1 + 1))) none).run Ybxm.prog W = .ok (.string F) W := by
                    intro W
                    have q1 : ((sv : Int)).toNat = sv := by omega
                    have q2 : (((i' : Int) + 1 + 1)).toNat = (i' + 1) + 1 := by omega
                    rw [run_slice_string W 9 s .i64 .i64 _ _ Ybxm.underlying9 (by omega) (by omega) (by omega), q1, q2]
                    have e2 : s.extract (sv) ((i' + 1) + 1) = F := str_ext (by rw [cut_seg s _ _ (by omega), hF])
                    rw [e2]
                  have hs2 : ∀ W : World, (Instr.slice 9 (.string s) (some (.int .i64 ((i' : Int) + 1 + 1))) none none).run Ybxm.prog W = .ok (.string R) W := by
                    intro W
                    have q2 : (((i' : Int) + 1 + 1)).toNat = (i' + 1) + 1 := by omega
                    rw [run_slice_string_from_if W 9 s .i64 _ Ybxm.underlying9, if_pos (by omega), q2]
                    have e2 : s.extract ((i' + 1) + 1) s.size = R := str_ext (by rw [cut_rest, hR])
                    rw [e2]
                  have HR' : Hid (R.data.toList = s.data.toList.drop ((i' + 1) + 1)) := by show _ = _; rw [hR]
                  have HI' : Hid (Inv s ((i' + 1) + 1) ((i' + 1) + 1) ((i' + 1) + 1) sv) := hct.2
                  clear hF hR hct e1 hv HR HE HI
                  go_wp2_with (first | (go_at_call 29; refine (hblank_any _ _).mono ?_; rintro e w' ⟨rfl, rfl⟩) | (go_at_call 28; refine (hC _).mono ?_; rintro e w' ⟨rfl, nd, rfl⟩))
                  go_roundw
                  case rel => exact ⟨(i' + 1) + 1, (i' + 1) + 1, (i' + 1) + 1, sv, R, by go_num, rfl, by go_num, HR', HI'.out, below_drewN hbel2 _⟩
                  case measure => simp [intOf] <;> omega
                · have hlt2 : (i' + 1) + 1 < s.size := by omega
                  have hq1 : (((i' : Int) + 1) == (s.size : Int) - 1) = false := int_ne (by omega)
                  clear hend
                  have hbi2 := bk_at s ((i' + 1) + 1) hlt2
                  cases hv2 : bk s ((i' + 1) + 1) with
                  | true =>
                    have HE : (i' + 1) + 1 = s.size ∨ bk s ((i' + 1) + 1) = true := .inr hv2
                    rw [hv2] at hbi2
                    clear hv2
                    have hct := HI.out.cut hlt hv HE
                    have hC := fun w' => cutField_any r w' hrz
                    have e1 : cutF r.data.toList = (seg s sv ((i' + 1) + 1), s.data.toList.drop ((i' + 1) + 1)) := by rw [HR.out]; exact hct.1
                    rw [e1] at hC
                    obtain ⟨F, hF⟩ : ∃ F : ByteArray, F = ⟨(seg s sv ((i' + 1) + 1)).toArray⟩ := ⟨_, rfl⟩
                    obtain ⟨R, hR⟩ : ∃ R : ByteArray, R = ⟨(s.data.toList.drop ((i' + 1) + 1)).toArray⟩ := ⟨_, rfl⟩
                    rw [← hF, ← hR] at hC
                    have hs1 : ∀ W : World, (Instr.slice 9 (.string s) (some (.int .i64 (sv : Int))) (some (.int .i64 ((i' : Int) + 1 + 1))) none).run Ybxm.prog W = .ok (.string F) W := by
                      intro W
                      have q1 : ((sv : Int)).toNat = sv := by omega
                      have q2 : (((i' : Int) + 1 + 1)).toNat = (i' + 1) + 1 := by omega
                      rw [run_slice_string W 9 s .i64 .i64 _ _ Ybxm.underlying9 (by omega) (by omega) (by omega), q1, q2]
                      have e2 : s.extract (sv) ((i' + 1) + 1) = F := str_ext (by rw [cut_seg s _ _ (by omega), hF])
                      rw [e2]
                    have hs2 : ∀ W : World, (Instr.slice 9 (.string s) (some (.int .i64 ((i' : Int) + 1 + 1))) none none).run Ybxm.prog W = .ok (.string R) W := by
                      intro W
                      have q2 : (((i' : Int) + 1 + 1)).toNat = (i' + 1) + 1 := by omega
                      rw [run_slice_string_from_if W 9 s .i64 _ Ybxm.underlying9, if_pos (by omega), q2]
                      have e2 : s.extract ((i' + 1) + 1) s.size = R := str_ext (by rw [cut_rest, hR])
                      rw [e2]
                    have HR' : Hid (R.data.toList = s.data.toList.drop ((i' + 1) + 1)) := by show _ = _; rw [hR]
                    have HI' : Hid (Inv s ((i' + 1) + 1) ((i' + 1) + 1) ((i' + 1) + 1) sv) := hct.2
                    clear hF hR hct e1 hv HR HE HI
                    go_wp2_with (first | (go_at_call 29; refine (hblank_any _ _).mono ?_; rintro e w' ⟨rfl, rfl⟩) | (go_at_call 28; refine (hC _).mono ?_; rintro e w' ⟨rfl, nd, rfl⟩))
                    go_roundw
                    case rel => exact ⟨(i' + 1) + 1, (i' + 1) + 1, (i' + 1) + 1, sv, R, by go_num, rfl, by go_num, HR', HI'.out, below_drewN hbel2 _⟩
                    case measure => simp [intOf] <;> omega
                  | false =>
                    have HI' : Hid (Inv s ((i' + 1) + 1) q sv sv) := HI.out.step hv hlt2 hv2
                    rw [hv2] at hbi2
                    clear hv hv2 HI
                    go_wp2_with (go_at_call 29; refine (hblank_any _ _).mono ?_; rintro e w' ⟨rfl, rfl⟩)
                    go_roundw
                    case rel => exact ⟨(i' + 1) + 1, q, sv, sv, r, by go_num, rfl, by go_num, HR, HI'.out, hbel2⟩
                    case measure => simp [intOf] <;> omega
        · -- the end
          have hd := HI.out.done (by omega)
          have hC := fun w' => cutField_any r w' hrz
          have e1 : cutF r.data.toList = ([], []) := by rw [HR.out]; exact hd
          rw [e1] at hC
          clear hd e1
          go_wp2_with (go_at_call 28; refine (hC _).mono ?_; rintro e w' ⟨rfl, nd, rfl⟩)
          go_ret
          exact ⟨rfl, below_drewN hbel2 nd⟩

set_option maxRecDepth 100000 in
set_option maxHeartbeats 4000000 in
theorem HAllFields_nil (a : Option Addr) (cap : Nat) (w : World) :
    Calls Ybxm.prog 12 #[.slice a 0 cap] w fun e w' => e = .returned (.bool true) ∧ Below w.heap.size w w' := by
  have hC := fun w' => cutField_any ⟨#[]⟩ w' (by decide)
  rw [show cutF (⟨#[]⟩ : ByteArray).data.toList = ([], []) from rfl] at hC
  go_enter Ybxm.func12, Ybxm.ntmps12
  go_wp2_with (at_make; refine wpList_make_bytes rfl (.tmp 17) (.tmp 17) rfl w.heap.size 0 0 0 rfl rfl rfl rfl (by omega) (Nat.le_refl _) ?_)
  intro w1 hown1 hgrow1
  have hbel1 : Below w.heap.size w w1 := (Below.refl _ _).grown hgrow1 (Nat.le_refl _) (fun k hk => by cases hk)
  have ht : (convert 22 9 (.slice (some ⟨w.heap.size, 0, none⟩) 0 0)).run Ybxm.prog w1 = .ok (.string ⟨#[]⟩) w1 := hown1.text
  clear hgrow1 hown1
  go_wp2
  refine wp_loop_rounds 1 ?_
  rw [rounds_succ]
  go_wp2
  refine wp_loop_rounds 1 ?_
  rw [rounds_succ]
  go_wp2_with (go_at_call 28; refine (hC _).mono ?_; rintro e w' ⟨rfl, nd, rfl⟩)
  go_ret
  exact ⟨rfl, below_drewN hbel1 nd⟩

set_option maxRecDepth 100000 in
set_option maxHeartbeats 4000000 in
theorem HAllFields_walk (a1 : Option Addr) (len cap : Nat) (z1 : List Int) (w : World) (w1 : IsRow .u8 w a1 len cap z1) :
    Calls Ybxm.prog 12 #[.slice a1 len cap] w fun e w' => e = .returned (.bool true) ∧ Below w.heap.size w w' := by
  obtain ⟨hm, hv⟩ := w1.view
  by_cases hl : (1024 : Int) < (len : Int)
  · unfold maxLen at hm
    clear hv w1
    go_enter Ybxm.func12, Ybxm.ntmps12
    go_wp2
    go_ret
    exact ⟨rfl, Below.refl _ _⟩
  · rcases hv with rfl | ⟨b, off, rfl, hb, hc⟩
    · exact HAllFields_nil a1 cap w
    · have hcell : ∀ j, j < len → ∃ x : Int, 0 ≤ x ∧ x ≤ 255 ∧ w.cell? ⟨b, off + j, none⟩ = some (.int .u8 x) := fun j hj =>
        ⟨_, (bounds_u8 (hc j hj).2).1, (bounds_u8 (hc j hj).2).2, (hc j hj).1⟩
      exact HAllFields_row b off len cap w (by omega) hb hcell
end Go.Proofs.Ymbrbx

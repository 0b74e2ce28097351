import Derived.Test.YmbrbyLStepA
namespace Go.Proofs.Ymbrby
open Go.ChangeShapes Go.WideShapes Go.ChangeAt Go.RowKit
set_option linter.unusedVariables false
set_option linter.unusedSimpArgs false

set_option maxRecDepth 100000 in
set_option maxHeartbeats 32000000 in
theorem LStep_c12 (op : Int) (B : Nat → Bool) (a : Option Addr) (kn : Nat) (pc' : Int) (st' : List Int) (cap : Nat) (w : World) (h0 : 0 ≤ op ∧ op ≤ 255) (hn : (kn + 1) ≤ 1024) (HV : Hid (VB w a (kn + 1) B)) (ho : op < 8) (hEF : ∀ W, Calls Ybym.prog 23 #[.int .u8 op] W fun e w' => e = .returned (.tuple #[.int .i64 1, .int .i64 2, .bool true]) ∧ w' = W) (HLO : Hid (LOut op (bits B (kn + 1)) 0 pc' kn 2 st')) :
    Calls Ybym.prog 11 #[.int .u8 op, .slice a (kn + 1) cap] w fun e w' => e = .returned (.bool true) ∧ Below w.heap.size w w' := by
  have hl : ¬ ((1024 : Int) < (((kn + 1) : Nat) : Int)) := by omega
  have hdo : decide (op < 8) = true := decide_eq_true ho
  have hM0 := MB.new w 0 (.slice none 0 0)
  have hbel0 : Below w.heap.size w (w.alloc (.cells #[.int .i64 0, .slice none 0 0] 53)) := (Below.refl _ _).alloc (Nat.le_refl _) _
  go_enter Ybym.func11, Ybym.ntmps11
  go_wp2_with fail
  go_loopw [7, 23] (fun x i wr => ∃ (k : Nat) (v : Value), k ≤ (kn + 1) ∧ i = .int .i64 k ∧ MB wr w.heap.size 0 v ∧ OwnT w.heap.size wr v (bits B k) ∧ Below w.heap.size w wr) (fun _ i _ => (kn + 1) - (intOf i).toNat)
  case atStart => exact ⟨0, _, by omega, rfl, hM0, OwnT.nil _ _, hbel0⟩
  case round =>
    obtain ⟨k, v, hk, rfl, hM, hO, hbel⟩ := hrel
    clear hM0 hbel0
    have hsz := hbel.size
    obtain ⟨sa, sc, rfl⟩ := hO.form2 (bits_len B k)
    have hne := hM.ne hO
    have m1 := hM.c1
    have f1 := hM.free 1
    by_cases hlt : k < (kn + 1)
    · rcases HV.out with hv0 | ⟨b, off, rfl, hb, hc⟩
      · omega
      have c0 := hc k hlt
      have k0 : wr.cell? ⟨b, off + k, none⟩ = some (.bool (B k)) := (hbel.cell (p := ⟨b, off + k, none⟩) hb).trans c0
      have hgl := hM.lt
      have hgn : ¬ w.heap.size = wr.heap.size := by omega
      clear c0 hc
      cases hB : B k with
      | true =>
        have hBk : (if B k = true then (1 : Int) else 0) = 1 := by rw [hB]; rfl
        rw [hB] at k0
        clear hB
        have hpre := alloc_first wr (.int .i32 1) 21
        go_wp2_with (at_builtin; refine wpList_push_i32 rfl (.tmp 29) (.tmp 30) rfl w.heap.size _ (bits B k) 1 wr.heap.size 1 rfl (by first | rfl | simp [Act.eval, Act.put]) (hO.alloc _) hpre (by rw [← bits_len]; omega) (alloc_le hsz _) ?_)
        intro v' w' hown' hgrow
        obtain ⟨hM', hS'⟩ := pushed (hM.alloc _) hne ((Sel.refl w.heap.size _ wr).alloc _) hgrow
        have hbel' : Below w.heap.size w w' := hbel.trans (hS'.below hsz (Nat.le_refl _) hO.size)
        have hown2 : OwnT w.heap.size w' v' (bits B (k + 1)) := by rw [bits_succ, hBk]; exact hown'
        obtain ⟨sa', sc', rfl⟩ := hown2.form2 (bits_len B (k + 1))
        have hne' := hM'.ne hown2
        have f1' := hM'.free 1
        have r1' := hM'.c1
        have hbel'' := hbel'.setCell (p := ⟨w.heap.size, 1, none⟩) (Nat.le_refl _) (.slice sa' (k + 1) sc')
        have hM'' := hM'.set1 (.slice sa' (k + 1) sc')
        have hO'' := hown2.setG hne' 1 (.slice sa' (k + 1) sc')
        clear hown' hgrow hpre hM hO hbel hM' hS' hbel' hown2 hne m1 f1
        go_wp2_with fail
        go_roundw
        case rel => exact ⟨k + 1, _, by omega, by go_num, hM'', hO'', hbel''⟩
        case measure => simp [intOf]; omega
      | false =>
        have hBk : (if B k = true then (1 : Int) else 0) = 0 := by rw [hB]; rfl
        rw [hB] at k0
        clear hB
        have hpre := alloc_first wr (.int .i32 0) 21
        go_wp2_with (at_builtin; refine wpList_push_i32 rfl (.tmp 34) (.tmp 35) rfl w.heap.size _ (bits B k) 0 wr.heap.size 1 rfl (by first | rfl | simp [Act.eval, Act.put]) (hO.alloc _) hpre (by rw [← bits_len]; omega) (alloc_le hsz _) ?_)
        intro v' w' hown' hgrow
        obtain ⟨hM', hS'⟩ := pushed (hM.alloc _) hne ((Sel.refl w.heap.size _ wr).alloc _) hgrow
        have hbel' : Below w.heap.size w w' := hbel.trans (hS'.below hsz (Nat.le_refl _) hO.size)
        have hown2 : OwnT w.heap.size w' v' (bits B (k + 1)) := by rw [bits_succ, hBk]; exact hown'
        obtain ⟨sa', sc', rfl⟩ := hown2.form2 (bits_len B (k + 1))
        have hne' := hM'.ne hown2
        have f1' := hM'.free 1
        have r1' := hM'.c1
        have hbel'' := hbel'.setCell (p := ⟨w.heap.size, 1, none⟩) (Nat.le_refl _) (.slice sa' (k + 1) sc')
        have hM'' := hM'.set1 (.slice sa' (k + 1) sc')
        have hO'' := hown2.setG hne' 1 (.slice sa' (k + 1) sc')
        clear hown' hgrow hpre hM hO hbel hM' hS' hbel' hown2 hne m1 f1
        go_wp2_with fail
        go_roundw
        case rel => exact ⟨k + 1, _, by omega, by go_num, hM'', hO'', hbel''⟩
        case measure => simp [intOf]; omega
    · obtain rfl : (kn + 1) = k := by omega
      clear hlt
      have hG0 : GS none w w.heap.size wr.heap.size 1 [(op, 0)] w.heap.size (wr.alloc (.cells #[.int .u8 op, .int .i32 0] 25)) 0 (bits B (kn + 1)) :=
        ⟨hbel.alloc hsz _, alloc_le hsz _, Nat.le_refl _, World.ownsRow_lit wr #[.int .u8 op, .int .i32 0] 1 hsz (by unfold maxLen; omega) rfl, rfl, ⟨_, hM.alloc _, hO.alloc _⟩, fun _ _ _ h => by cases h⟩
      have HS1 := Hid.mk3 (HLO.out.stp _ _ _ _ _ _ hG0)
      clear hM hO hbel m1 f1 hne hG0 hsz
      go_wp2_with fail
      refine (hEF _).mono ?_
      rintro e wz ⟨rfl, rfl⟩
      go_wp2_with fail
      refine HS1.out.mono ?_
      rintro e w6 ⟨rfl, hG6⟩
      obtain ⟨v6, hM6, hO6⟩ := hG6.mach
      obtain ⟨sa6, sc6, rfl⟩ := hO6.form2 (n := kn + 2) HLO.out.len
      have r0 := hM6.c0
      have r1 := hM6.c1
      have hbel6 := hG6.bel
      have HRW := Hid.mk3 (read_row hO6 HLO.out.len.symm)
      clear hM6 hO6 hG6 HS1
      go_wp2_with fail
      go_loopw [4, 17] (fun x i wr => ∃ (j : Nat), wr = w6 ∧ j ≤ kn ∧ i = .int .i64 j) (fun _ i _ => kn - (intOf i).toNat)
      case atStart => exact ⟨0, rfl, by omega, rfl⟩
      case round =>
        obtain ⟨j, rfl, hj, rfl⟩ := hrel
        by_cases hlt : j < kn
        · rcases HV.out with hv0 | ⟨b, off, rfl, hb, hc⟩
          · omega
          rcases HRW.out with hv0 | ⟨gb, rfl, hcells⟩
          · omega
          have k0 : wr.cell? ⟨b, off + j, none⟩ = some (.bool (B j)) := (hbel6.cell (p := ⟨b, off + j, none⟩) hb).trans (hc j (by omega))
          have x0 := hcells j _ ((HLO.out.low j hlt).trans (bits_at B _ j (by omega)))
          have hjb : (j : Int) < ((kn + 2 : Nat) : Int) := by omega
          have hjb2 : (j : Int) < (((kn + 1) : Nat) : Int) := by omega
          clear hc hcells
          cases hB : B j with
          | true =>
            rw [hB] at k0 x0
            simp only [if_true] at x0
            clear hB
            go_wp2_with fail
            go_roundw
            case rel => exact ⟨j + 1, by trivial, by omega, by go_num⟩
            case measure => simp [intOf]; omega
          | false =>
            rw [hB] at k0 x0
            simp only [Bool.false_eq_true, if_false] at x0
            clear hB
            go_wp2_with fail
            go_roundw
            case rel => exact ⟨j + 1, by trivial, by omega, by go_num⟩
            case measure => simp [intOf]; omega
        · obtain rfl : j = kn := by omega
          go_wp2_with fail
          go_ret
          exact ⟨rfl, hbel6⟩

set_option maxRecDepth 100000 in
set_option maxHeartbeats 32000000 in
theorem LStep_c22 (op : Int) (B : Nat → Bool) (a : Option Addr) (kn : Nat) (pc' : Int) (st' : List Int) (cap : Nat) (w : World) (h0 : 0 ≤ op ∧ op ≤ 255) (hn : (kn + 2) ≤ 1024) (HV : Hid (VB w a (kn + 2) B)) (ho : op < 8) (hEF : ∀ W, Calls Ybym.prog 23 #[.int .u8 op] W fun e w' => e = .returned (.tuple #[.int .i64 2, .int .i64 2, .bool true]) ∧ w' = W) (HLO : Hid (LOut op (bits B (kn + 2)) 0 pc' kn 2 st')) :
    Calls Ybym.prog 11 #[.int .u8 op, .slice a (kn + 2) cap] w fun e w' => e = .returned (.bool true) ∧ Below w.heap.size w w' := by
  have hl : ¬ ((1024 : Int) < (((kn + 2) : Nat) : Int)) := by omega
  have hdo : decide (op < 8) = true := decide_eq_true ho
  have hM0 := MB.new w 0 (.slice none 0 0)
  have hbel0 : Below w.heap.size w (w.alloc (.cells #[.int .i64 0, .slice none 0 0] 53)) := (Below.refl _ _).alloc (Nat.le_refl _) _
  go_enter Ybym.func11, Ybym.ntmps11
  go_wp2_with fail
  go_loopw [7, 23] (fun x i wr => ∃ (k : Nat) (v : Value), k ≤ (kn + 2) ∧ i = .int .i64 k ∧ MB wr w.heap.size 0 v ∧ OwnT w.heap.size wr v (bits B k) ∧ Below w.heap.size w wr) (fun _ i _ => (kn + 2) - (intOf i).toNat)
  case atStart => exact ⟨0, _, by omega, rfl, hM0, OwnT.nil _ _, hbel0⟩
  case round =>
    obtain ⟨k, v, hk, rfl, hM, hO, hbel⟩ := hrel
    clear hM0 hbel0
    have hsz := hbel.size
    obtain ⟨sa, sc, rfl⟩ := hO.form2 (bits_len B k)
    have hne := hM.ne hO
    have m1 := hM.c1
    have f1 := hM.free 1
    by_cases hlt : k < (kn + 2)
    · rcases HV.out with hv0 | ⟨b, off, rfl, hb, hc⟩
      · omega
      have c0 := hc k hlt
      have k0 : wr.cell? ⟨b, off + k, none⟩ = some (.bool (B k)) := (hbel.cell (p := ⟨b, off + k, none⟩) hb).trans c0
      have hgl := hM.lt
      have hgn : ¬ w.heap.size = wr.heap.size := by omega
      clear c0 hc
      cases hB : B k with
      | true =>
        have hBk : (if B k = true then (1 : Int) else 0) = 1 := by rw [hB]; rfl
        rw [hB] at k0
        clear hB
        have hpre := alloc_first wr (.int .i32 1) 21
        go_wp2_with (at_builtin; refine wpList_push_i32 rfl (.tmp 29) (.tmp 30) rfl w.heap.size _ (bits B k) 1 wr.heap.size 1 rfl (by first | rfl | simp [Act.eval, Act.put]) (hO.alloc _) hpre (by rw [← bits_len]; omega) (alloc_le hsz _) ?_)
        intro v' w' hown' hgrow
        obtain ⟨hM', hS'⟩ := pushed (hM.alloc _) hne ((Sel.refl w.heap.size _ wr).alloc _) hgrow
        have hbel' : Below w.heap.size w w' := hbel.trans (hS'.below hsz (Nat.le_refl _) hO.size)
        have hown2 : OwnT w.heap.size w' v' (bits B (k + 1)) := by rw [bits_succ, hBk]; exact hown'
        obtain ⟨sa', sc', rfl⟩ := hown2.form2 (bits_len B (k + 1))
        have hne' := hM'.ne hown2
        have f1' := hM'.free 1
        have r1' := hM'.c1
        have hbel'' := hbel'.setCell (p := ⟨w.heap.size, 1, none⟩) (Nat.le_refl _) (.slice sa' (k + 1) sc')
        have hM'' := hM'.set1 (.slice sa' (k + 1) sc')
        have hO'' := hown2.setG hne' 1 (.slice sa' (k + 1) sc')
        clear hown' hgrow hpre hM hO hbel hM' hS' hbel' hown2 hne m1 f1
        go_wp2_with fail
        go_roundw
        case rel => exact ⟨k + 1, _, by omega, by go_num, hM'', hO'', hbel''⟩
        case measure => simp [intOf]; omega
      | false =>
        have hBk : (if B k = true then (1 : Int) else 0) = 0 := by rw [hB]; rfl
        rw [hB] at k0
        clear hB
        have hpre := alloc_first wr (.int .i32 0) 21
        go_wp2_with (at_builtin; refine wpList_push_i32 rfl (.tmp 34) (.tmp 35) rfl w.heap.size _ (bits B k) 0 wr.heap.size 1 rfl (by first | rfl | simp [Act.eval, Act.put]) (hO.alloc _) hpre (by rw [← bits_len]; omega) (alloc_le hsz _) ?_)
        intro v' w' hown' hgrow
        obtain ⟨hM', hS'⟩ := pushed (hM.alloc _) hne ((Sel.refl w.heap.size _ wr).alloc _) hgrow
        have hbel' : Below w.heap.size w w' := hbel.trans (hS'.below hsz (Nat.le_refl _) hO.size)
        have hown2 : OwnT w.heap.size w' v' (bits B (k + 1)) := by rw [bits_succ, hBk]; exact hown'
        obtain ⟨sa', sc', rfl⟩ := hown2.form2 (bits_len B (k + 1))
        have hne' := hM'.ne hown2
        have f1' := hM'.free 1
        have r1' := hM'.c1
        have hbel'' := hbel'.setCell (p := ⟨w.heap.size, 1, none⟩) (Nat.le_refl _) (.slice sa' (k + 1) sc')
        have hM'' := hM'.set1 (.slice sa' (k + 1) sc')
        have hO'' := hown2.setG hne' 1 (.slice sa' (k + 1) sc')
        clear hown' hgrow hpre hM hO hbel hM' hS' hbel' hown2 hne m1 f1
        go_wp2_with fail
        go_roundw
        case rel => exact ⟨k + 1, _, by omega, by go_num, hM'', hO'', hbel''⟩
        case measure => simp [intOf]; omega
    · obtain rfl : (kn + 2) = k := by omega
      clear hlt
      have hG0 : GS none w w.heap.size wr.heap.size 1 [(op, 0)] w.heap.size (wr.alloc (.cells #[.int .u8 op, .int .i32 0] 25)) 0 (bits B (kn + 2)) :=
        ⟨hbel.alloc hsz _, alloc_le hsz _, Nat.le_refl _, World.ownsRow_lit wr #[.int .u8 op, .int .i32 0] 1 hsz (by unfold maxLen; omega) rfl, rfl, ⟨_, hM.alloc _, hO.alloc _⟩, fun _ _ _ h => by cases h⟩
      have HS1 := Hid.mk3 (HLO.out.stp _ _ _ _ _ _ hG0)
      clear hM hO hbel m1 f1 hne hG0 hsz
      go_wp2_with fail
      refine (hEF _).mono ?_
      rintro e wz ⟨rfl, rfl⟩
      go_wp2_with fail
      refine HS1.out.mono ?_
      rintro e w6 ⟨rfl, hG6⟩
      obtain ⟨v6, hM6, hO6⟩ := hG6.mach
      obtain ⟨sa6, sc6, rfl⟩ := hO6.form2 (n := kn + 2) HLO.out.len
      have r0 := hM6.c0
      have r1 := hM6.c1
      have hbel6 := hG6.bel
      have HRW := Hid.mk3 (read_row hO6 HLO.out.len.symm)
      clear hM6 hO6 hG6 HS1
      go_wp2_with fail
      go_loopw [4, 17] (fun x i wr => ∃ (j : Nat), wr = w6 ∧ j ≤ kn ∧ i = .int .i64 j) (fun _ i _ => kn - (intOf i).toNat)
      case atStart => exact ⟨0, rfl, by omega, rfl⟩
      case round =>
        obtain ⟨j, rfl, hj, rfl⟩ := hrel
        by_cases hlt : j < kn
        · rcases HV.out with hv0 | ⟨b, off, rfl, hb, hc⟩
          · omega
          rcases HRW.out with hv0 | ⟨gb, rfl, hcells⟩
          · omega
          have k0 : wr.cell? ⟨b, off + j, none⟩ = some (.bool (B j)) := (hbel6.cell (p := ⟨b, off + j, none⟩) hb).trans (hc j (by omega))
          have x0 := hcells j _ ((HLO.out.low j hlt).trans (bits_at B _ j (by omega)))
          have hjb : (j : Int) < ((kn + 2 : Nat) : Int) := by omega
          have hjb2 : (j : Int) < (((kn + 2) : Nat) : Int) := by omega
          clear hc hcells
          cases hB : B j with
          | true =>
            rw [hB] at k0 x0
            simp only [if_true] at x0
            clear hB
            go_wp2_with fail
            go_roundw
            case rel => exact ⟨j + 1, by trivial, by omega, by go_num⟩
            case measure => simp [intOf]; omega
          | false =>
            rw [hB] at k0 x0
            simp only [Bool.false_eq_true, if_false] at x0
            clear hB
            go_wp2_with fail
            go_roundw
            case rel => exact ⟨j + 1, by trivial, by omega, by go_num⟩
            case measure => simp [intOf]; omega
        · obtain rfl : j = kn := by omega
          go_wp2_with fail
          go_ret
          exact ⟨rfl, hbel6⟩
end Go.Proofs.Ymbrby

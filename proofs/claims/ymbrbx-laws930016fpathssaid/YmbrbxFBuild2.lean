import Derived.Test.YmbrbxFBuild0
namespace Go.Proofs.Ymbrbx
open Go.ChangeShapes Go.WideShapes Go.ChangeAt Go.RowKit
set_option linter.unusedVariables false
set_option linter.unusedSimpArgs false

set_option maxRecDepth 100000 in
set_option maxHeartbeats 32000000 in
theorem fbuild_2 (P : List (Int × Int)) (n : Nat) (a : Option Addr) (cap : Nat) (w : World) (HN : Hid (n = P.length)) (hn : n ≤ 1024) (HOK : Hid (∀ q ∈ P, okI q)) (HP : Hid (ProgIn w a P)) :
    Calls Ybxm.prog 18 #[.slice a n cap, .int .i64 2] w fun e w' => ∃ L, e = .returned (.slice (some ⟨w.heap.size, 0, none⟩) n n) ∧ OwnP w.heap.size w' (.slice (some ⟨w.heap.size, 0, none⟩) n n) L ∧ L.length = n ∧ Hid (Fit L n) ∧ Below w.heap.size w w' := by
  go_enter Ybxm.func18, Ybxm.ntmps18
  go_wp2_with (at_make; refine wpList_make_progs rfl (.tmp 12) (.tmp 12) rfl w.heap.size n _ _ rfl rfl (by omega) (by omega) (by omega) (Nat.le_refl _) ?_)
  intro w1 hown1 hgrow1
  have hbel1 : Below w.heap.size w w1 := (Below.refl _ _).grown hgrow1 (Nat.le_refl _) (fun k hk => by cases hk)
  clear hgrow1
  go_wp2
  go_loopw [7, 8] (fun x i wr => ∃ (k : Nat) (L : List (Int × Int)) (h : Int), k ≤ n ∧ i = .int .i64 k ∧ x = .int .i64 h ∧ 0 ≤ h ∧ h ≤ k ∧ Hid (h = hgt L k) ∧ L.length = n ∧ Hid (Fit L k) ∧ OwnP w.heap.size wr (.slice (some ⟨w.heap.size, 0, none⟩) n n) L ∧ Below w.heap.size w wr) (fun _ i _ => n - (intOf i).toNat)
  case atStart => exact ⟨0, _, 0, by omega, rfl, rfl, by omega, by omega, rfl, by simp, fun j hj => by omega, hown1, hbel1⟩
  case round =>
    obtain ⟨k, L, h, hk, rfl, rfl, hh0, hh1, HH, hL, HF, hown, hbel⟩ := hrel
    clear hown1 hbel1
    have hsz := hbel.size
    by_cases hlt : k < n
    · have hkP : k < P.length := by have := HN.out; omega
      rcases HP.out with h0 | ⟨b, off, rfl, hb, hc⟩
      · omega
      obtain ⟨c0, c1⟩ := hc k hkP
      have hokk := HOK.out P[k] (List.getElem_mem hkP)
      obtain ⟨op, hop⟩ : ∃ op, op = P[k].1 := ⟨_, rfl⟩
      obtain ⟨arg, harg⟩ : ∃ arg, arg = P[k].2 := ⟨_, rfl⟩
      unfold okI at hokk
      rw [← hop] at c0 hokk
      rw [← harg] at c1 hokk
      obtain ⟨⟨o0, o1⟩, ⟨g0, g1⟩⟩ := hokk
      have k0 : wr.cell? ⟨b, off + k * 2, none⟩ = some (.int .u8 op) := (hbel.cell (p := ⟨b, off + k * 2, none⟩) hb).trans c0
      have k1 : wr.cell? ⟨b, off + k * 2 + 1, none⟩ = some (.int .i32 arg) := (hbel.cell (p := ⟨b, off + k * 2 + 1, none⟩) hb).trans c1
      have hbn : ¬ b = wr.heap.size := by omega
      have hgl := hown.block.2
      have hgn : ¬ w.heap.size = wr.heap.size := by omega
      have hgm : ¬ wr.heap.size = w.heap.size := by omega
      clear c0 c1 hc hop harg
      have hFN := fun W => fneed_any (op % 8) (by omega) W
      have o8 : 0 ≤ op % 8 ∧ op % 8 < 8 := by omega
      by_cases hlow : h < effPops (op % 8)
      · skip
        obtain ⟨nd, hnd⟩ : ∃ nd, nd = effPops (op % 8) := ⟨_, rfl⟩
        rw [← hnd] at hFN hlow
        have hndb : 0 ≤ nd ∧ nd ≤ 2 := by have := eff_cases (op % 8) (by omega); omega
        have HP2 : effPops 0 ≤ hgt L k := by have := HH.out; have e : effPops 0 = 0 := rfl; omega
        clear hnd
        have hokq : okI (0, arg) := ⟨⟨by first | omega | decide, by first | omega | decide⟩, ⟨by first | omega | decide, by first | omega | decide⟩⟩
        have HF' := Hid.mk2 (HF.out.next (0, arg) hokq (by first | omega | decide) HP2 (by first | omega | (intro _ h; exact absurd rfl h) | (intro h; exact absurd rfl h)))
        have HH' : Hid (h + dlt (0) = hgt (L.set k (0, arg)) (k + 1)) := by show _ = _; rw [hgt_next L k _ (by omega), HH.out]
        have hL' : (L.set k (0, arg)).length = n := by rw [List.length_set]; exact hL
        have hFD := fun W => fdelta_any (0) (by first | omega | decide) W
        have hdb := dlt_bounds (0) (by first | omega | decide)
        obtain ⟨d, hd⟩ : ∃ d, d = dlt (0) := ⟨_, rfl⟩
        have hd0 : 0 ≤ h + dlt (0) := by have h1 := HP2; have h2 := HH.out; have h3 := eff_cases (0) (by first | omega | decide); unfold dlt; omega
        rw [← hd] at hFD hdb HH' hd0
        clear hd hokq HF HH
        clear HP2
        go_wp2_with fail
        refine (hFN _).mono ?_
        rintro e wq ⟨rfl, rfl⟩
        have hownA := hown.alloc (.cells #[.int .u8 (0), .int .i32 (arg)] 38)
        have hbelA := hbel.alloc hsz (.cells #[.int .u8 (0), .int .i32 (arg)] 38)
        obtain ⟨e0, e1⟩ := hownA.at hL k (by omega)
        have f0 := hownA.free hL (k * 2)
        have f1 := hownA.free hL (k * 2 + 1)
        have hown' := hownA.store hL k (0) (arg)
        have hbel' := (hbelA.setCell (p := ⟨w.heap.size, k * 2, none⟩) (Nat.le_refl _) (.int .u8 (0))).setCell (p := ⟨w.heap.size, k * 2 + 1, none⟩) (Nat.le_refl _) (.int .i32 (arg))
        go_wp2_with fail
        refine (hFD _).mono ?_
        rintro e wq ⟨rfl, rfl⟩
        obtain ⟨y0, y1⟩ := al2 wr (.int .u8 (0)) (.int .i32 (arg)) 38
        generalize hW : wr.alloc (.cells #[.int .u8 (0), .int .i32 (arg)] 38) = W at *
        go_wp2_with fail
        go_roundw
        case rel => exact ⟨k + 1, _, h + d, by omega, by go_num, by go_num, by omega, by omega, HH', hL', HF', hown', hbel'⟩
        case measure => simp [intOf]; omega
      have HP0 : Hid (effPops (op % 8) ≤ hgt L k) := by show _ ≤ _; have := HH.out; omega
      obtain ⟨nd, hnd⟩ : ∃ nd, nd = effPops (op % 8) := ⟨_, rfl⟩
      rw [← hnd] at hFN hlow
      have hndb : 0 ≤ nd ∧ nd ≤ 2 := by have := eff_cases (op % 8) (by omega); omega
      clear hnd
      by_cases z0 : op % 8 = 0
      · skip
        have HP2 : effPops 0 ≤ hgt L k := by have := HP0.out; rwa [z0] at this
        rw [z0] at hFN
        have hokq : okI (0, arg) := ⟨⟨by first | omega | decide, by first | omega | decide⟩, ⟨by first | omega | decide, by first | omega | decide⟩⟩
        have HF' := Hid.mk2 (HF.out.next (0, arg) hokq (by first | omega | decide) HP2 (by first | omega | (intro _ h; exact absurd rfl h) | (intro h; exact absurd rfl h)))
        have HH' : Hid (h + dlt (0) = hgt (L.set k (0, arg)) (k + 1)) := by show _ = _; rw [hgt_next L k _ (by omega), HH.out]
        have hL' : (L.set k (0, arg)).length = n := by rw [List.length_set]; exact hL
        have hFD := fun W => fdelta_any (0) (by first | omega | decide) W
        have hdb := dlt_bounds (0) (by first | omega | decide)
        obtain ⟨d, hd⟩ : ∃ d, d = dlt (0) := ⟨_, rfl⟩
        have hd0 : 0 ≤ h + dlt (0) := by have h1 := HP2; have h2 := HH.out; have h3 := eff_cases (0) (by first | omega | decide); unfold dlt; omega
        rw [← hd] at hFD hdb HH' hd0
        clear hd hokq HF HH
        clear HP2 HP0
        go_wp2_with fail
        refine (hFN _).mono ?_
        rintro e wq ⟨rfl, rfl⟩
        have hownA := hown.alloc (.cells #[.int .u8 (0), .int .i32 (arg)] 38)
        have hbelA := hbel.alloc hsz (.cells #[.int .u8 (0), .int .i32 (arg)] 38)
        obtain ⟨e0, e1⟩ := hownA.at hL k (by omega)
        have f0 := hownA.free hL (k * 2)
        have f1 := hownA.free hL (k * 2 + 1)
        have hown' := hownA.store hL k (0) (arg)
        have hbel' := (hbelA.setCell (p := ⟨w.heap.size, k * 2, none⟩) (Nat.le_refl _) (.int .u8 (0))).setCell (p := ⟨w.heap.size, k * 2 + 1, none⟩) (Nat.le_refl _) (.int .i32 (arg))
        go_wp2_with fail
        refine (hFD _).mono ?_
        rintro e wq ⟨rfl, rfl⟩
        obtain ⟨y0, y1⟩ := al2 wr (.int .u8 (0)) (.int .i32 (arg)) 38
        generalize hW : wr.alloc (.cells #[.int .u8 (0), .int .i32 (arg)] 38) = W at *
        go_wp2_with fail
        go_roundw
        case rel => exact ⟨k + 1, _, h + d, by omega, by go_num, by go_num, by omega, by omega, HH', hL', HF', hown', hbel'⟩
        case measure => simp [intOf]; omega
      have q0 : (op % 8 == 0) = false := int_ne z0
      by_cases z7 : op % 8 = 7
      · clear q0 z0
        have HP2 : effPops 7 ≤ hgt L k := by have := HP0.out; rwa [z7] at this
        rw [z7] at hFN
        obtain ⟨A, hA⟩ : ∃ A, arg % 4294967296 % ((n : Int) + 3) - 1 = A := ⟨_, rfl⟩
        have v1 := Int.emod_nonneg (arg % 4294967296) (b := (n : Int) + 3) (by omega)
        have v2 := Int.emod_lt_of_pos (arg % 4294967296) (b := (n : Int) + 3) (by omega)
        have hA1 : -2147483648 ≤ A ∧ A ≤ 2147483647 := by omega
        have HA : Hid (arg % 4294967296 % ((n : Int) + 3) - 1 = A) := hA
        clear hA
        have hokq : okI (7, A) := ⟨⟨by first | omega | decide, by first | omega | decide⟩, ⟨by first | omega | decide, by first | omega | decide⟩⟩
        have HF' := Hid.mk2 (HF.out.next (7, A) hokq (by first | omega | decide) HP2 (by first | omega | (intro _ h; exact absurd rfl h) | (intro h; exact absurd rfl h)))
        have HH' : Hid (h + dlt (7) = hgt (L.set k (7, A)) (k + 1)) := by show _ = _; rw [hgt_next L k _ (by omega), HH.out]
        have hL' : (L.set k (7, A)).length = n := by rw [List.length_set]; exact hL
        have hFD := fun W => fdelta_any (7) (by first | omega | decide) W
        have hdb := dlt_bounds (7) (by first | omega | decide)
        obtain ⟨d, hd⟩ : ∃ d, d = dlt (7) := ⟨_, rfl⟩
        have hd0 : 0 ≤ h + dlt (7) := by have h1 := HP2; have h2 := HH.out; have h3 := eff_cases (7) (by first | omega | decide); unfold dlt; omega
        rw [← hd] at hFD hdb HH' hd0
        clear hd hokq HF HH
        clear HP2 HP0
        go_wp2_with fail
        refine (hFN _).mono ?_
        rintro e wq ⟨rfl, rfl⟩
        have hownA := hown.alloc (.cells #[.int .u8 (7), .int .i32 (A)] 38)
        have hbelA := hbel.alloc hsz (.cells #[.int .u8 (7), .int .i32 (A)] 38)
        obtain ⟨e0, e1⟩ := hownA.at hL k (by omega)
        have f0 := hownA.free hL (k * 2)
        have f1 := hownA.free hL (k * 2 + 1)
        have hown' := hownA.store hL k (7) (A)
        have hbel' := (hbelA.setCell (p := ⟨w.heap.size, k * 2, none⟩) (Nat.le_refl _) (.int .u8 (7))).setCell (p := ⟨w.heap.size, k * 2 + 1, none⟩) (Nat.le_refl _) (.int .i32 (A))
        go_wp2_with fail
        rw [HA.out]
        clear v1 v2
        refine (hFD _).mono ?_
        rintro e wq ⟨rfl, rfl⟩
        obtain ⟨y0, y1⟩ := al2 wr (.int .u8 (7)) (.int .i32 (A)) 38
        generalize hW : wr.alloc (.cells #[.int .u8 (7), .int .i32 (A)] 38) = W at *
        go_wp2_with fail
        go_roundw
        case rel => exact ⟨k + 1, _, h + d, by omega, by go_num, by go_num, by omega, by omega, HH', hL', HF', hown', hbel'⟩
        case measure => simp [intOf]; omega
      clear q0
      obtain ⟨o, ho⟩ : ∃ o, op % 8 = o := ⟨_, rfl⟩
      rw [ho] at z0 z7 HP0 hFN
      have ob : 0 ≤ o ∧ o < 8 := by omega
      have q0 : (o == 0) = false := int_ne z0
      have q7 : (o == 7) = false := int_ne z7
      have b0 : (o != 0) = true := by unfold bne; rw [q0]; rfl
      have b7 : (o != 7) = true := by unfold bne; rw [q7]; rfl
      have HP2 : effPops o ≤ hgt L k := HP0.out
      have hokq : okI (o, 0) := ⟨⟨by first | omega | decide, by first | omega | decide⟩, ⟨by first | omega | decide, by first | omega | decide⟩⟩
      have HF' := Hid.mk2 (HF.out.next (o, 0) hokq (by first | omega | decide) HP2 (by first | omega | (intro _ h; exact absurd rfl h) | (intro h; exact absurd rfl h)))
      have HH' : Hid (h + dlt (o) = hgt (L.set k (o, 0)) (k + 1)) := by show _ = _; rw [hgt_next L k _ (by omega), HH.out]
      have hL' : (L.set k (o, 0)).length = n := by rw [List.length_set]; exact hL
      have hFD := fun W => fdelta_any (o) (by first | omega | decide) W
      have hdb := dlt_bounds (o) (by first | omega | decide)
      obtain ⟨d, hd⟩ : ∃ d, d = dlt (o) := ⟨_, rfl⟩
      have hd0 : 0 ≤ h + dlt (o) := by have h1 := HP2; have h2 := HH.out; have h3 := eff_cases (o) (by first | omega | decide); unfold dlt; omega
      rw [← hd] at hFD hdb HH' hd0
      clear hd hokq HF HH
      clear HP2 HP0 o8
      go_wp2_with fail
      refine (hFN _).mono ?_
      rintro e wq ⟨rfl, rfl⟩
      have hownA := hown.alloc (.cells #[.int .u8 (o), .int .i32 (0)] 38)
      have hbelA := hbel.alloc hsz (.cells #[.int .u8 (o), .int .i32 (0)] 38)
      obtain ⟨e0, e1⟩ := hownA.at hL k (by omega)
      have f0 := hownA.free hL (k * 2)
      have f1 := hownA.free hL (k * 2 + 1)
      have hown' := hownA.store hL k (o) (0)
      have hbel' := (hbelA.setCell (p := ⟨w.heap.size, k * 2, none⟩) (Nat.le_refl _) (.int .u8 (o))).setCell (p := ⟨w.heap.size, k * 2 + 1, none⟩) (Nat.le_refl _) (.int .i32 (0))
      go_wp2_with fail
      refine (hFD _).mono ?_
      rintro e wq ⟨rfl, rfl⟩
      obtain ⟨y0, y1⟩ := al2 wr (.int .u8 (o)) (.int .i32 (0)) 38
      generalize hW : wr.alloc (.cells #[.int .u8 (o), .int .i32 (0)] 38) = W at *
      go_wp2_with fail
      go_roundw
      case rel => exact ⟨k + 1, _, h + d, by omega, by go_num, by go_num, by omega, by omega, HH', hL', HF', hown', hbel'⟩
      case measure => simp [intOf]; omega
    · obtain rfl : k = n := by omega
      go_wp2
      go_ret
      exact ⟨L, rfl, hown, hL, HF, hbel⟩
end Go.Proofs.Ymbrbx

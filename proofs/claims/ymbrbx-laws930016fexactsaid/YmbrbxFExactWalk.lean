import Derived.Test.YmbrbxVerify
import Derived.Test.YmbrbxFBuild1
import Derived.Test.YmbrbxFBuild2
import Derived.Lib.SliceRun
namespace Go.Proofs.Ymbrbx
open Go.ChangeShapes Go.WideShapes Go.ChangeAt Go.RowKit
set_option linter.unusedVariables false
set_option linter.unusedSimpArgs false

theorem fbuild_ok (P : List (Int × Int)) (n : Nat) (a : Option Addr) (cap : Nat) (m : Int) (w : World) (hm : m = 0 ∨ m = 1 ∨ m = 2) (HN : Hid (n = P.length)) (hn : n ≤ 1024) (HOK : Hid (∀ q ∈ P, okI q)) (HP : Hid (ProgIn w a P)) :
    Calls Ybxm.prog 18 #[.slice a n cap, .int .i64 m] w fun e w' => ∃ L, e = .returned (.slice (some ⟨w.heap.size, 0, none⟩) n n) ∧ L.length = n ∧ Hid (∀ q ∈ L, okI q) ∧ Hid (ProgIn w' (some ⟨w.heap.size, 0, none⟩) L) ∧ Below w.heap.size w w' := by
  have key : ∀ (w' : World) (L : List (Int × Int)), OwnP w.heap.size w' (.slice (some ⟨w.heap.size, 0, none⟩) n n) L → ProgIn w' (some ⟨w.heap.size, 0, none⟩) L := by
    intro w' L h
    obtain ⟨a', c', hv, hp⟩ := h.prog
    cases hv
    exact hp
  have key2 : ∀ L : List (Int × Int), L.length = n → Okd L n → ∀ q ∈ L, okI q := by
    intro L hL h q hq
    obtain ⟨j, hj, rfl⟩ := List.getElem_of_mem hq
    exact h j (by omega) hj
  rcases hm with rfl | rfl | rfl
  · refine (fbuild_0 P n a cap w HN hn HOK HP).mono ?_
    rintro e w' ⟨L, rfl, hown, hL, HF, hb⟩
    exact ⟨L, rfl, hL, key2 L hL HF.out, key w' L hown, hb⟩
  · refine (fbuild_1 P n a cap w HN hn HOK HP).mono ?_
    rintro e w' ⟨L, rfl, hown, hL, HF, hb⟩
    exact ⟨L, rfl, hL, key2 L hL HF.out, key w' L hown, hb⟩
  · refine (fbuild_2 P n a cap w HN hn HOK HP).mono ?_
    rintro e w' ⟨L, rfl, hown, hL, HF, hb⟩
    exact ⟨L, rfl, hL, key2 L hL (fun j h1 h2 => (HF.out j h1 h2).1), key w' L hown, hb⟩

set_option maxRecDepth 100000 in
set_option maxHeartbeats 16000000 in
theorem FExact_core (P : List (Int × Int)) (a : Option Addr) (n cap : Nat) (md : Int) (w : World) (hm : 0 ≤ md ∧ md ≤ 255) (hn : n ≤ 1024) (HN : Hid (n = P.length)) (HOK : Hid (∀ q ∈ P, okI q)) (HP : Hid (ProgIn w a P)) :
    Calls Ybxm.prog 5 #[.slice a n cap, .int .u8 md] w fun e w' => e = .returned (.bool true) ∧ Below w.heap.size w w' := by
  have hl : ¬ ((1024 : Int) < (n : Int)) := by omega
  have hFB := fbuild_ok P n a cap (md % 3) w (by omega) HN hn HOK HP
  clear HN HOK HP
  go_enter Ybxm.func5, Ybxm.ntmps5
  go_wp2_with fail
  refine hFB.mono ?_
  rintro e w1 ⟨L, rfl, hL, HO, HP1, hbel1⟩
  have HN : Hid (n = L.length) := hL.symm
  have hFH := fheights_any L n _ n w1 HN hn HO HP1
  clear hFB
  go_wp2_with fail
  refine hFH.mono ?_
  rintro e w2 ⟨Hs, rfl, hown2, hHs, hb2⟩
  have HT2 : Hid (HtIn w2 w1.heap.size L) := hown2.heights HN.out hHs
  have HP2 : Hid (ProgIn w2 (some ⟨w.heap.size, 0, none⟩) L) := HP1.out.below hb2 (Nat.le_refl _)
  have hbel2 : Below w.heap.size w w2 := hbel1.trans (hb2.mono hbel1.size)
  generalize hg2 : w1.heap.size = g2 at HT2
  clear hFH hown2 hHs hb2 hbel1 HP1 hg2
  go_wp2_with fail
  go_loopw [7, 8] (fun x i wr => ∃ (k : Nat) (b : Bool), k ≤ n ∧ i = .int .i64 k ∧ x = .bool b ∧ Hid (b = true ↔ ∀ j, j < k → (h : j < L.length) → legI L j L[j].1 L[j].2 = true) ∧ Hid (HtIn wr g2 L) ∧ Hid (ProgIn wr (some ⟨w.heap.size, 0, none⟩) L) ∧ Below w.heap.size w wr) (fun _ i _ => n - (intOf i).toNat)
  case atStart => exact ⟨0, true, by omega, rfl, rfl, ⟨fun _ j hj => by omega, fun _ => rfl⟩, HT2, HP2, hbel2⟩
  case round =>
    obtain ⟨k, b, hk, rfl, rfl, HB, HT, HPr, hbel⟩ := hrel
    clear HT2 HP2 hbel2
    have hsz := hbel.size
    by_cases hlt : k < n
    · have hkL : k < L.length := by omega
      have hFL := flegal_any L n (some ⟨w.heap.size, 0, none⟩) n g2 k wr HN hn hlt hkL HO HPr HT
      obtain ⟨lg, hlg⟩ : ∃ lg, lg = legI L k L[k].1 L[k].2 := ⟨_, rfl⟩
      rw [← hlg] at hFL
      have HLG : Hid (lg = legI L k L[k].1 L[k].2) := hlg
      clear hlg
      go_wp2_with fail
      refine hFL.mono ?_
      rintro e w3 ⟨rfl, hb3⟩
      have HT3 : Hid (HtIn w3 g2 L) := HT.out.below hb3
      have HP3 : Hid (ProgIn w3 (some ⟨w.heap.size, 0, none⟩) L) := HPr.out.below hb3 (Nat.le_refl _)
      have hbel3 : Below w.heap.size w w3 := hbel.trans (hb3.mono (by omega))
      clear hFL hb3 hbel HPr HT
      have HB' : Hid ((b && lg) = true ↔ ∀ j, j < k + 1 → (h : j < L.length) → legI L j L[j].1 L[j].2 = true) := by
        rw [show (b && lg) = true ↔ b = true ∧ lg = true from Bool.and_eq_true_iff]
        constructor
        · rintro ⟨h1, h2⟩ j hj h
          by_cases hjk : j = k
          · subst hjk; rw [← HLG.out]; exact h2
          · exact HB.out.1 h1 j (by omega) h
        · intro h
          exact ⟨HB.out.2 fun j hj hl => h j (by omega) hl, by rw [HLG.out]; exact h k (by omega) hkL⟩
      clear HB HLG
      cases lg with
      | true =>
        go_wp2_with fail
        go_roundw
        case rel => exact ⟨k + 1, b, by omega, by go_num, rfl, by simpa using HB', HT3, HP3, hbel3⟩
        case measure => simp [intOf]; omega
      | false =>
        go_wp2_with fail
        go_roundw
        case rel => exact ⟨k + 1, false, by omega, by go_num, rfl, by simpa using HB', HT3, HP3, hbel3⟩
        case measure => simp [intOf]; omega
    · obtain rfl : k = n := by omega
      have hVF := verify_any L k (some ⟨w.heap.size, 0, none⟩) k wr HN hn HO HPr
      go_wp2_with fail
      refine hVF.mono ?_
      rintro e w4 ⟨hres, hb4⟩
      have hbel4 : Below w.heap.size w w4 := hbel.trans (hb4.mono hsz)
      have HT4 : Hid (HtIn w4 g2 L) := HT.out.below hb4
      rcases hres with ⟨HA, D, rfl, hownD, hD⟩ | ⟨HA, rfl⟩
      · have hb : b = true := HB.out.2 fun j _ h => HA.out j h
        subst hb
        have HTD : Hid (HtIn w4 wr.heap.size L) := hownD.heights HN.out hD
        generalize hg4 : wr.heap.size = g4 at HTD
        clear hVF hownD hD hb4 HB HA HPr HT hbel hlt
        clear hg4
        go_wp2_with fail
        go_loopw [4, 11] (fun x i wr => ∃ (j : Nat), j ≤ k + 1 ∧ i = .int .i64 j ∧ Hid (HtIn wr g2 L) ∧ Hid (HtIn wr g4 L) ∧ Below w.heap.size w wr) (fun _ i _ => k + 1 - (intOf i).toNat)
        case atStart => exact ⟨0, by omega, rfl, HT4, HTD, hbel4⟩
        case round =>
          obtain ⟨j, hj, rfl, HT5, HT6, hbel5⟩ := hrel
          clear HT4 HTD hbel4
          by_cases hlt : j < k + 1
          · have c1 := HT5.out.2 j (by omega)
            have c2 := HT6.out.2 j (by omega)
            obtain ⟨H, hH⟩ : ∃ H, H = hgt L j := ⟨_, rfl⟩
            rw [← hH] at c1 c2
            have hjb : (j : Int) < (k : Int) + 1 := by omega
            clear hH
            go_wp2_with fail
            go_quiet (fail)
            go_wp2_with fail
            go_roundw
            case rel => exact ⟨j + 1, by omega, by go_num, HT5, HT6, below_drewN hbel5 _⟩
            case measure => simp [intOf]; omega
          · obtain rfl : j = k + 1 := by omega
            go_wp2_with fail
            go_ret
            exact ⟨rfl, hbel5⟩
      · have hb : b = false := by
          cases b with
          | false => rfl
          | true => exact absurd (fun j h => HB.out.1 rfl j (by omega) h) HA.out
        subst hb
        have hnn : (binOp .eql 30 (.slice none 0 0) (.slice none 0 0)).run Ybxm.prog w4 = .ok (.bool true) w4 := Go.Lib.run_eql_slice_nil w4 30 3 none 0 0 0 0 Ybxm.underlying30
        clear hVF hb4 HB HA HPr HT hbel hlt
        go_wp2_with fail
        go_ret
        exact ⟨rfl, hbel4⟩

theorem FExact_walk (a0 : Option Addr) (n cap : Nat) (md : Int) (w : World) (w0 : RecsAt w a0 n) (w1 : (Lit.int .u8 md).wf = true) :
    Calls Ybxm.prog 5 #[.slice a0 n cap, .int .u8 md] w fun e w' => e = .returned (.bool true) ∧ Below w.heap.size w w' := by
  obtain ⟨P, hPl, hok, hpr⟩ := recs_prog w0
  have hm := w0.1
  unfold maxLen at hm
  by_cases hl : (1024 : Int) < (n : Int)
  · clear hpr w0 hok hPl
    go_enter Ybxm.func5, Ybxm.ntmps5
    go_wp2
    go_ret
    exact ⟨rfl, Below.refl _ _⟩
  · exact FExact_core P a0 n cap md w (bounds_u8 w1) (by omega) hPl.symm hok hpr
end Go.Proofs.Ymbrbx

import Derived.Test.YmbrbxGBoth
import Derived.Test.YmbrbxFBuild0
namespace Go.Proofs.Ymbrbx
open Go.ChangeShapes Go.WideShapes Go.ChangeAt Go.RowKit
set_option linter.unusedVariables false
set_option linter.unusedSimpArgs false

set_option maxRecDepth 100000 in
set_option maxHeartbeats 32000000 in
theorem GExact_plain (P : List (Int × Int)) (S : List Int) (a a2 : Option Addr) (n cap m cap2 : Nat) (pc : Int) (w : World) (hn : n ≤ 1024) (hm : m ≤ 1024) (hpc : -9223372036854775808 ≤ pc ∧ pc ≤ 9223372036854775807) (HN : Hid (n = P.length)) (HM : Hid (m = S.length)) (HOK : Hid (∀ q ∈ P, okI q)) (HP : Hid (ProgIn w a P)) (HS : Hid (I32In w a2 S)) (HR : Hid (∀ x ∈ S, -2147483648 ≤ x ∧ x ≤ 2147483647)) :
    Calls Ybxm.prog 7 #[.slice a n cap, .int .i64 pc, .slice a2 m cap2, .bool false] w fun e w' => e = .returned (.bool true) ∧ Below w.heap.size w w' := by
  have hl : ¬ ((1024 : Int) < (n : Int)) := by omega
  have hl2 : ¬ ((1024 : Int) < (m : Int)) := by omega
  go_enter Ybxm.func7, Ybxm.ntmps7
  go_wp2_with (at_make; refine wpList_make_progs rfl (.tmp 27) (.tmp 27) rfl w.heap.size n _ _ rfl rfl (by omega) (by omega) (by omega) (Nat.le_refl _) ?_)
  intro w1 hown1 hgrow1
  have hbel1 : Below w.heap.size w w1 := (Below.refl _ _).grown hgrow1 (Nat.le_refl _) (fun k hk => by cases hk)
  clear hgrow1
  go_wp2_with fail
  go_loopw [10] (fun i wr => ∃ (k : Nat) (L : List (Int × Int)), k ≤ n ∧ i = .int .i64 k ∧ L.length = n ∧ Hid (Okd L k) ∧ OwnP w.heap.size wr (.slice (some ⟨w.heap.size, 0, none⟩) n n) L ∧ Below w.heap.size w wr) (fun i _ => n - (intOf i).toNat)
  case atStart => exact ⟨0, _, by omega, rfl, by simp, fun j hj => by omega, hown1, hbel1⟩
  case round =>
    obtain ⟨k, L, hk, rfl, hL, HF, hown, hbel⟩ := hrel
    clear hown1 hbel1
    have hsz := hbel.size
    by_cases hlt : k < n
    · have hkP : k < P.length := by have := HN.out; omega
      rcases HP.out with h0 | ⟨b, off, rfl, hb, hc⟩
      · omega
      obtain ⟨c0, c1⟩ := hc k hkP
      have hokk := HOK.out P[k] (List.getElem_mem hkP)
      obtain ⟨op, hop⟩ : ∃ op, op = P[k].1 := ⟨_, rfl⟩
      obtain ⟨arg, harg⟩ : ∃ arg, arg = P[k].2 := ⟨_, rfl⟩
      unfold okI at hokk
      rw [← hop] at c0 hokk
      rw [← harg] at c1 hokk
      obtain ⟨⟨o0, o1⟩, ⟨g0, g1⟩⟩ := hokk
      have k0 : wr.cell? ⟨b, off + k * 2, none⟩ = some (.int .u8 op) := (hbel.cell (p := ⟨b, off + k * 2, none⟩) hb).trans c0
      have k1 : wr.cell? ⟨b, off + k * 2 + 1, none⟩ = some (.int .i32 arg) := (hbel.cell (p := ⟨b, off + k * 2 + 1, none⟩) hb).trans c1
      have hbn : ¬ b = w.heap.size := by omega
      have hbn2 : ¬ w.heap.size = b := by omega
      have hokq : okI (op, arg) := ⟨⟨by first | omega | exact Int.emod_nonneg _ (by decide), by first | omega | exact Int.le_trans (Int.le_of_lt (Int.emod_lt_of_pos _ (by decide))) (by decide)⟩, ⟨g0, g1⟩⟩
      have HF' := Hid.mk2 (HF.out.next (op, arg) hokq)
      have hL' : (L.set k (op, arg)).length = n := by rw [List.length_set]; exact hL
      obtain ⟨e0, e1⟩ := hown.at hL k (by omega)
      have f0 := hown.free hL (k * 2)
      have f1 := hown.free hL (k * 2 + 1)
      have hown' := hown.store hL k op arg
      have hbel' := (hbel.setCell (p := ⟨w.heap.size, k * 2, none⟩) (Nat.le_refl _) (.int .u8 op)).setCell (p := ⟨w.heap.size, k * 2 + 1, none⟩) (Nat.le_refl _) (.int .i32 arg)
      clear c0 c1 hc hop harg hokq HF
      go_wp2_with fail
      go_roundw
      case rel => exact ⟨k + 1, _, by omega, by go_num, hL', HF', hown', hbel'⟩
      case measure => simp [intOf]; omega
    · obtain rfl : k = n := by omega
      have HOKL : Hid (∀ q ∈ L, okI q) := by
        intro q hq
        obtain ⟨j, hj, rfl⟩ := List.getElem_of_mem hq
        exact HF.out j (by omega) hj
      clear hlt HF HP HOK HN
      obtain ⟨ans, next, keep, p0, p1, nput, st', hB⟩ := both_any L k (pc) S m hL.symm hn HM.out hm HOKL.out HR.out
      have HGM := Hid.mk3 (hB.gm w.heap.size k a2 cap2 wr (by obtain ⟨a', c', hv, hp⟩ := hown.prog; rw [hL] at hv; cases hv; exact hp) (HS.out.below hbel (Nat.le_refl _)))
      go_wp2_with fail
      refine HGM.out.mono ?_
      rintro e w3 ⟨rfl, hb3⟩
      have hown3 := hown.kept hb3
      have hbel3 : Below w.heap.size w w3 := hbel.trans (hb3.mono hsz)
      have hsz3 := hbel3.size
      have hbel4 := hbel3.alloc hsz3 (.cells #[.int .i32 p0, .int .i32 p1] 44)
      have hown4 := hown3.alloc (.cells #[.int .i32 p0, .int .i32 p1] 44)
      have HQ4 : Hid ((w3.alloc (.cells #[.int .i32 p0, .int .i32 p1] 44)).heap[w3.heap.size]? = some (.cells #[.int .i32 p0, .int .i32 p1] 44 (0, 0))) := heap_alloc_new w3 _
      have hb34 : Below w3.heap.size w3 (w3.alloc (.cells #[.int .i32 p0, .int .i32 p1] 44)) := (Below.refl _ _).alloc (Nat.le_refl _) _
      clear HGM hb3 hown hbel hown3
      go_wp2_with fail
      generalize hW4 : w3.alloc (.cells #[.int .i32 p0, .int .i32 p1] 44) = W4 at *
      generalize hq : w3.heap.size = q at *
      have hqb : w.heap.size ≤ q := by omega
      have hs4 := hbel4.size
      refine (gcopy_any S m a2 cap2 W4 HM hm (HS.out.below hbel4 (Nat.le_refl _)) HR).mono ?_
      rintro e w5 ⟨rfl, hO5, hb5⟩
      have hG0 : GS (some (q, p0, p1)) w w.heap.size w.heap.size k L w5.heap.size (w5.alloc (.cells #[.int .i64 (pc), .slice (some ⟨W4.heap.size, 0, none⟩) m m] 49)) (pc) S := by
        refine ⟨(hbel4.trans (hb5.mono hs4)).alloc (Nat.le_trans hs4 hb5.size) _, alloc_le (Nat.le_trans hs4 hb5.size) _, Nat.le_trans hs4 hb5.size, (hown4.kept hb5).alloc _, hL, ⟨_, MB.new w5 _ _, (hO5.lower hs4).alloc _⟩, ?_⟩
        intro q' a' b' hq'
        cases hq'
        have hlt := lt_of_block HQ4.out
        exact ⟨hqb, (Below.heap_alloc _ _ _ (Nat.lt_of_lt_of_le hlt hb5.size)).trans ((hb5.block _ hlt).trans HQ4.out)⟩
      have HS5 := Hid.mk3 (hB.stp _ _ _ _ _ _ hG0)
      clear hW4 hq hO5 hb5 hown4 hbel4 HQ4 hb34 hG0 hbel3 hsz3 hs4
      go_wp2_with fail
      refine HS5.out.mono ?_
      rintro e w6 ⟨rfl, hG6⟩
      obtain ⟨c0, c1, cq⟩ := hG6.cells
      obtain ⟨v6, hM6, hO6⟩ := hG6.mach
      obtain ⟨sa6, sc6, rfl⟩ := hO6.form2 hB.len
      have r0 := hM6.c0
      have r1 := hM6.c1
      have HT6 : Hid (I32In w6 sa6 st') := hO6.read hB.len.symm
      have HI6 : Hid (I32In w6 a2 S) := HS.out.below hG6.bel (Nat.le_refl _)
      have hbel6 := hG6.bel
      have hkl := hB.kl
      have hpl := hB.pl
      have HHB := Hid.mk3 hB
      clear hM6 hO6 hG6 HS5 hB
      go_wp2_with fail
      refine (gheld_any st' S p0 p1 sa6 a2 (keep + nput) sc6 m cap2 keep nput w6 HHB.out.len HM hm hkl hpl rfl HHB.out.low HHB.out.top HT6 HI6).mono ?_
      rintro e w7 ⟨rfl, hb7⟩
      go_wp2_with fail
      go_ret
      exact ⟨rfl, hbel6.trans (hb7.mono (by have := hbel6.size; omega))⟩
end Go.Proofs.Ymbrbx

import Derived.Test.YmbrbxFPathsPlain
namespace Go.Proofs.Ymbrbx
open Go.ChangeShapes Go.WideShapes Go.ChangeAt Go.RowKit
set_option linter.unusedVariables false
set_option linter.unusedSimpArgs false

set_option maxRecDepth 100000 in
set_option maxHeartbeats 32000000 in
theorem FPaths_core (P : List (Int × Int)) (a a2 : Option Addr) (n cap cn cap2 : Nat) (w : World) (hn : n ≤ 256) (HN : Hid (n = P.length)) (HOK : Hid (∀ q ∈ P, okI q)) (HP : Hid (ProgIn w a P)) (hcn : cn ≤ maxLen) (HC : Hid (cn = 0 ∨ ∃ b off, a2 = some ⟨b, off, none⟩ ∧ b < w.heap.size ∧ ∃ B : Nat → Bool, ∀ j, j < cn → w.cell? ⟨b, off + j, none⟩ = some (.bool (B j)))) :
    Calls Ybxm.prog 6 #[.slice a n cap, .slice a2 cn cap2] w fun e w' => e = .returned (.bool true) ∧ Below w.heap.size w w' := by
  have hl : ¬ ((256 : Int) < (n : Int)) := by omega
  have HFB := Hid.mk2 (fbuild_2 P n a cap w HN (by omega) HOK HP)
  unfold maxLen at hcn
  go_enter Ybxm.func6, Ybxm.ntmps6
  go_wp2_with fail
  refine HFB.out.mono ?_
  rintro e w1 ⟨L0, rfl, hown1, hL0, HF0, hbel1⟩
  have hp1 : ProgIn w1 (some ⟨w.heap.size, 0, none⟩) L0 := by
    obtain ⟨a', c', hv, hp⟩ := hown1.prog
    rw [hL0] at hv
    cases hv
    exact hp
  have HFH := Hid.mk2 (fheights_any L0 n _ n w1 hL0.symm (by omega) (HF0.out.oks hL0) hp1)
  clear HFB
  go_wp2_with fail
  refine HFH.out.mono ?_
  rintro e w2 ⟨Hs, rfl, hown2, hHs, hb2⟩
  have HT2 : Hid (HtIn w2 w1.heap.size L0) := hown2.heights hL0.symm hHs
  have hO2 : OwnP w.heap.size w2 (.slice (some ⟨w.heap.size, 0, none⟩) n n) L0 := hown1.keepB hb2
  have hbel2 : Below w.heap.size w w2 := hbel1.trans (hb2.mono hbel1.size)
  have hg12 : w.heap.size < w1.heap.size := hown1.block.2
  generalize hg2 : w1.heap.size = g2 at *
  have hgne : ¬ g2 = w.heap.size := by omega
  have hgne2 : ¬ w.heap.size = g2 := by omega
  clear HFH hown2 hHs hb2 hbel1 hg2 hown1 hp1
  go_wp2_with fail
  go_loopw [8, 9, 10] (fun i t q wr => ∃ (k : Nat) (L : List (Int × Int)), k ≤ n ∧ i = .int .i64 k ∧ L.length = n ∧ Hid (Fit L n) ∧ Hid (Aims L n k) ∧ Hid (HtIn wr g2 L) ∧ OwnP w.heap.size wr (.slice (some ⟨w.heap.size, 0, none⟩) n n) L ∧ Below w.heap.size w wr) (fun i _ _ _ => n - (intOf i).toNat)
  case atStart => exact ⟨0, L0, by omega, rfl, hL0, HF0, fun j _ _ hj => by omega, HT2, hO2, hbel2⟩
  case round =>
    obtain ⟨k, L, hk, rfl, hL, HF, HA, HT, hown, hbel⟩ := hrel
    clear HT2 hO2 hbel2 HF0 hL0
    have hsz := hbel.size
    by_cases hlt : k < n
    · obtain ⟨op, arg, hLk, hokk, h8, hpops, hsucc⟩ := HF.out.at hL k hlt
      have HLK : Hid (L[k]? = some (op, arg)) := hLk
      obtain ⟨hltL, heL⟩ := List.getElem?_eq_some_iff.1 hLk
      obtain ⟨e0, e1⟩ := hown.at hL k hltL
      rw [heL] at e0 e1
      have f1 := hown.free hL (k * 2 + 1)
      have hgl := hown.block.2
      clear hLk heL hsucc hpops
      by_cases h7 : op = 7
      · subst h7
        have hkP : k < P.length := by have := HN.out; omega
        rcases HP.out with hp0 | ⟨b, off, rfl, hb, hc⟩
        · omega
        obtain ⟨c0, c1⟩ := hc k hkP
        have hokr := (HOK.out P[k] (List.getElem_mem hkP)).2
        obtain ⟨ra, hra⟩ : ∃ ra, P[k].2 = ra := ⟨_, rfl⟩
        rw [hra] at c1 hokr
        have k1 : wr.cell? ⟨b, off + k * 2 + 1, none⟩ = some (.int .i32 ra) := (hbel.cell (p := ⟨b, off + k * 2 + 1, none⟩) hb).trans c1
        have v1 := Int.emod_nonneg (ra % 4294967296) (b := (n : Int) + 1) (by omega)
        have v2 := Int.emod_lt_of_pos (ra % 4294967296) (b := (n : Int) + 1) (by omega)
        obtain ⟨t0, ht0⟩ : ∃ t0 : Nat, ra % 4294967296 % ((n : Int) + 1) = (t0 : Int) := ⟨(ra % 4294967296 % ((n : Int) + 1)).toNat, by omega⟩
        have ht0n : t0 ≤ n := by omega
        have HT0 : Hid (ra % 4294967296 % ((n : Int) + 1) = (t0 : Int)) := ht0
        clear c0 c1 hc hra ht0
        go_wp2_with fail
        rw [HT0.out]
        clear v1 v2 HT0 k1
        have hb1 := hgt_bounds L (HF.out.oks hL) (k + 1) (by omega)
        go_loopw [9, 10] (fun t q wi => ∃ (t' qq : Nat), t = .int .i64 t' ∧ q = .int .i64 qq ∧ t' ≤ n ∧ ((t' ≤ k + 1 ∧ qq + (k + 1 - t') ≤ n) ∨ (k + 1 < t' ∧ qq + (n + 1 - t') + (k + 1) ≤ n)) ∧ Hid (HtIn wi g2 L) ∧ OwnP w.heap.size wi (.slice (some ⟨w.heap.size, 0, none⟩) n n) L ∧ Below w.heap.size w wi) (fun _ q _ => n + 1 - (intOf q).toNat)
        case atStart => exact ⟨t0, 0, rfl, rfl, ht0n, by omega, HT, hown, hbel⟩
        case round =>
          obtain ⟨t', qq, rfl, rfl, htn, hdist, HTi, howni, hbeli⟩ := hrel
          clear HT hown hbel e0 e1 f1
          have hszi := hbeli.size
          have hqn : qq ≤ n := by omega
          obtain ⟨hltL, heL⟩ := List.getElem?_eq_some_iff.1 HLK.out
          obtain ⟨e0, e1⟩ := howni.at hL k hltL
          rw [heL] at e0 e1
          have f1 := howni.free hL (k * 2 + 1)
          have c1 := HTi.out.2 t' (by omega)
          have c2 := HTi.out.2 (k + 1) (by omega)
          have hb2 := hgt_bounds L (HF.out.oks hL) t' (by omega)
          have HQ : Hid (hgt L t' = hgt L (k + 1) → Aims (L.set k (7, (t' : Int))) n (k + 1)) := fun he => HA.out.next arg t' HLK.out htn he
          have hdec : hgt L t' ≠ hgt L (k + 1) → ¬ t' = k + 1 := fun h e => h (by rw [e])
          obtain ⟨H1, hH1⟩ : ∃ H, H = hgt L (k + 1) := ⟨_, rfl⟩
          obtain ⟨H2, hH2⟩ : ∃ H, H = hgt L t' := ⟨_, rfl⟩
          rw [← hH1] at c2 hb1 HQ hdec
          rw [← hH2] at c1 hb2 HQ hdec
          have d1 : decide ((qq : Int) ≤ (n : Int)) = true := decide_eq_true (by omega)
          have d2 : decide (qq ≤ n) = true := decide_eq_true hqn
          have d3 : (qq : Int) ≤ (n : Int) := by omega
          have d4 : (t' : Int) < (n : Int) + 1 := by omega
          have d5 : (k : Int) + 1 < (n : Int) + 1 := by omega
          have d6 : IntKind.i64.wrap ((k : Int) + 1) = (k : Int) + 1 := IntWalk.i64_in _ (by omega)
          have d7 : ((k : Int) + 1).toNat = k + 1 := by omega
          have d8 : (0 : Int) ≤ (k : Int) + 1 := by omega
          clear hH1 hH2 heL
          by_cases he : H2 = H1
          · have HA' : Hid (Aims (L.set k (7, (t' : Int))) n (k + 1)) := HQ.out he
            have HF' : Hid (Fit (L.set k (7, (t' : Int))) n) := HF.out.setArg arg t' HLK.out ⟨by omega, by omega⟩
            have hL' : (L.set k (7, (t' : Int))).length = n := by rw [List.length_set]; exact hL
            have HT' := Hid.mk2 (fun (q : Nat) (u : Value) => ((show HtIn (wr.drewN q) g2 L from HTi.out).other ⟨w.heap.size, k * 2 + 1, none⟩ hgne u).arg k 7 arg t' HLK.out)
            have HO' := Hid.mk2 (fun (q : Nat) => (show OwnP w.heap.size (wr.drewN q) (.slice (some ⟨w.heap.size, 0, none⟩) n n) L from howni).storeArg hL k 7 arg (t' : Int) HLK.out)
            have HB' := Hid.mk2 (fun (q : Nat) => (below_drewN hbeli q).setCell (p := ⟨w.heap.size, k * 2 + 1, none⟩) (Nat.le_refl _) (.int .i32 (t' : Int)))
            have qq1 : (H2 == H1) = true := int_eq he
            clear HQ hdec HA HF
            subst he
            go_wp2_with fail
            go_quiet (fail)
            go_wp2_with fail
            go_roundw
            case rel => exact ⟨k + 1, _, by omega, by go_num, hL', HF', HA', HT'.out _ _, HO'.out _, HB'.out _⟩
            case measure => simp [intOf]; omega
          · have qq1 : (H2 == H1) = false := int_ne he
            have hne : ¬ t' = k + 1 := hdec he
            clear HQ hdec
            by_cases hw : t' < n
            · have d9 : ¬ (n : Int) < (t' : Int) + 1 := by omega
              go_wp2_with fail
              go_quiet (fail)
              go_wp2_with fail
              go_roundw
              case rel => exact ⟨t' + 1, qq + 1, by go_num, by go_num, by omega, by omega, HTi, howni, below_drewN hbeli _⟩
              case measure => simp [intOf]; omega
            · obtain rfl : n = t' := by omega
              have d9 : (n : Int) < (n : Int) + 1 := by omega
              go_wp2_with fail
              go_quiet (fail)
              go_wp2_with fail
              go_roundw
              case rel => exact ⟨0, qq + 1, by go_num, by go_num, by omega, by omega, HTi, howni, below_drewN hbeli _⟩
              case measure => simp [intOf]; omega
      · have q7 : (op == 7) = false := int_ne h7
        have b7 : (op != 7) = true := by unfold bne; rw [q7]; rfl
        have HA' : Hid (Aims L n (k + 1)) := HA.out.skip op arg HLK.out h7
        go_wp2_with fail
        go_roundw
        case rel => exact ⟨k + 1, L, by omega, by go_num, hL, HF, HA', HT, hown, hbel⟩
        case measure => simp [intOf]; omega
    · obtain rfl : n = k := by omega
      have hp : ProgIn wr (some ⟨w.heap.size, 0, none⟩) L := by
        obtain ⟨a', c', hv, hp⟩ := hown.prog
        rw [hL] at hv
        cases hv
        exact hp
      have HVF := Hid.mk2 (verify_any L n (some ⟨w.heap.size, 0, none⟩) n wr hL.symm (by omega) (HF.out.oks hL) hp)
      have HALL := Hid.mk2 (HF.out.all hL HA.out)
      have HPR := Hid.mk2 hp
      clear hp hlt
      go_wp2_with fail
      refine HVF.out.mono ?_
      rintro e w4 ⟨hres, hb4⟩
      rcases hres with ⟨_, D, rfl, hownD, hD⟩ | ⟨HNo, rfl⟩
      · have HTD : Hid (HtIn w4 wr.heap.size L) := hownD.heights hL.symm hD
        have HP4 : Hid (ProgIn w4 (some ⟨w.heap.size, 0, none⟩) L) := HPR.out.below hb4 (Nat.le_refl _)
        have hbel4 : Below w.heap.size w w4 := hbel.trans (hb4.mono hsz)
        generalize hg4 : wr.heap.size = g4 at HTD
        clear HVF hownD hD hb4 HPR hg4 hown hbel HT
        go_wp2_with fail
        go_loopw [4, 13, 14, 15, 16] (fun u4 pc h s inn wr => ∃ (p s' : Nat) (H : Int), pc = .int .i64 p ∧ h = .int .i64 H ∧ s = .int .i64 s' ∧ p ≤ n ∧ s' ≤ 512 ∧ Hid (H = hgt L p) ∧ Hid (HtIn wr g4 L) ∧ Hid (ProgIn wr (some ⟨w.heap.size, 0, none⟩) L) ∧ Below w.heap.size w wr) (fun _ _ _ s _ _ => 512 - (intOf s).toNat)
        case atStart => exact ⟨0, 0, 0, rfl, rfl, rfl, by omega, by omega, (hgt_zero L).symm, HTD, HP4, hbel4⟩
        case round =>
          obtain ⟨p, s', H, rfl, rfl, rfl, hpn, hs', HH, HT, HPr, hbel⟩ := hrel
          clear HTD HP4 hbel4
          have hsz := hbel.size
          by_cases hlt : s' < 512
          · have c1 := HT.out.2 p (by omega)
            have hbH := hgt_bounds L (HF.out.oks hL) p (by omega)
            rw [← HH.out] at c1 hbH
            have dp : (p : Int) < (n : Int) + 1 := by omega
            by_cases hpe : p = n
            · subst hpe
              go_wp2_with fail
              go_ret
              exact ⟨rfl, hbel⟩
            · have hpl : p < n := by omega
              obtain ⟨op, arg, hLp, hokp, h8, hpops, hsucc⟩ := HF.out.at hL p hpl
              have hbN := hgt_bounds L (HF.out.oks hL) (p + 1) (by omega)
              obtain ⟨hltL, heL⟩ := List.getElem?_eq_some_iff.1 hLp
              have hcell : wr.cell? ⟨w.heap.size, 0 + p * 2, none⟩ = some (.int .u8 op) ∧ wr.cell? ⟨w.heap.size, 0 + p * 2 + 1, none⟩ = some (.int .i32 arg) ∧ w.heap.size < wr.heap.size := by
                rcases HPr.out with h0 | ⟨b', off, hq, hb, hc⟩
                · omega
                · cases hq
                  have := hc p hltL
                  rw [heL] at this
                  exact ⟨this.1, this.2, hb⟩
              rw [Nat.zero_add] at hcell
              obtain ⟨k0, k1, hblt⟩ := hcell
              have hbn : ¬ w.heap.size = wr.heap.size := by omega
              unfold okI at hokp
              obtain ⟨⟨o0, o1⟩, ⟨a0, a1⟩⟩ := hokp
              have hFN := fun W => fneed_any op o0 W
              have hFD := fun W => fdelta_any op o0 W
              rw [← HH.out] at hpops hsucc
              obtain ⟨nd, hnd⟩ : ∃ nd, nd = effPops op := ⟨_, rfl⟩
              obtain ⟨d, hd⟩ : ∃ d, d = dlt op := ⟨_, rfl⟩
              have hndb : 0 ≤ nd ∧ nd ≤ 2 := by have := eff_cases op o0; omega
              have hdb := dlt_bounds op o0
              rw [← hnd] at hFN hpops
              rw [← hd] at hFD hsucc hdb
              have HH' : Hid (H + d = hgt L (p + 1)) := hsucc.symm
              have HAim : Hid (op = 7 → 0 ≤ arg ∧ arg ≤ n ∧ hgt L arg.toNat = hgt L (p + 1)) := fun h7 => HA.out p op arg hpl hLp h7
              have hbA : Below wr.heap.size wr (wr.alloc (.cells #[.int .u8 op, .int .i32 arg] 38)) := (Below.refl _ _).alloc (Nat.le_refl _) _
              have HTA : Hid (HtIn (wr.alloc (.cells #[.int .u8 op, .int .i32 arg] 38)) g4 L) := HT.out.below hbA
              have HPA : Hid (ProgIn (wr.alloc (.cells #[.int .u8 op, .int .i32 arg] 38)) (some ⟨w.heap.size, 0, none⟩) L) := HPr.out.below hbA (Nat.le_refl _)
              have hbelA := hbel.alloc hsz (.cells #[.int .u8 op, .int .i32 arg] 38)
              have hnlow : ¬ H < nd := by omega
              clear hLp heL hsucc hnd hd hbA HH
              go_wp2_with fail
              refine (hFN _).mono ?_
              rintro e wz ⟨rfl, rfl⟩
              go_wp2_with fail
              refine (hFD _).mono ?_
              rintro e wz ⟨rfl, rfl⟩
              by_cases h7 : op = 7
              · subst h7
                obtain ⟨ha0, ha1, ha2⟩ := HAim.out rfl
                obtain ⟨t, rfl⟩ : ∃ t : Nat, arg = (t : Int) := ⟨arg.toNat, by omega⟩
                rw [Int.toNat_natCast] at ha2
                have htn : t ≤ n := by omega
                have HHT : Hid (H + d = hgt L t) := HH'.out.trans ha2.symm
                clear ha2 HAim ha0 ha1
                by_cases hc0 : cn = 0
                · subst hc0
                  go_wp2_with fail
                  go_roundw
                  case rel => exact ⟨p + 1, s' + 1, H + d, by go_num, by go_num, by go_num, by omega, by omega, HH', HTA, HPA, hbelA⟩
                  case measure => simp [intOf]; omega
                · rcases HC.out with hh | ⟨cb, coff, rfl, hcb, B, hcc⟩
                  · exact absurd hh hc0
                  obtain ⟨r, hr1, hr2⟩ : ∃ r : Nat, s' % cn = r ∧ r < cn := ⟨s' % cn, rfl, Nat.mod_lt _ (by omega)⟩
                  have q0 : wr.cell? ⟨cb, coff + r, none⟩ = some (.bool (B r)) := (hbel.cell (p := ⟨cb, coff + r, none⟩) hcb).trans (hcc r hr2)
                  have hcbn : ¬ cb = wr.heap.size := by omega
                  have hcbl : cb < wr.heap.size := by omega
                  have q1 : (wr.alloc (.cells #[.int .u8 7, .int .i32 (t : Int)] 38)).cell? ⟨cb, coff + r, none⟩ = some (.bool (B r)) := (hbelA.cell (p := ⟨cb, coff + r, none⟩) hcb).trans (hcc r hr2)
                  have hcp : (0 : Int) < (cn : Int) := by omega
                  have hcpd : decide ((0 : Int) < (cn : Int)) = true := decide_eq_true hcp
                  have hm1 : (s' : Int) % (cn : Int) = (r : Int) := by rw [← Int.natCast_emod, hr1]
                  have hm2 : (s' : Int).tmod (cn : Int) = (r : Int) := by rw [Int.tmod_eq_emod_of_nonneg (by omega)]; exact hm1
                  have hrb : (r : Int) < (cn : Int) := by omega
                  clear hcc hr1
                  cases hB : B r with
                  | true =>
                    rw [hB] at q0 q1
                    clear hB
                    go_wp2_with fail
                    go_roundw
                    case rel => exact ⟨t, s' + 1, H + d, by go_num, by go_num, by go_num, by omega, by omega, HHT, HTA, HPA, hbelA⟩
                    case measure => simp [intOf]; omega
                  | false =>
                    rw [hB] at q0 q1
                    clear hB
                    go_wp2_with fail
                    go_roundw
                    case rel => exact ⟨p + 1, s' + 1, H + d, by go_num, by go_num, by go_num, by omega, by omega, HH', HTA, HPA, hbelA⟩
                    case measure => simp [intOf]; omega
              · have q7 : (op == 7) = false := int_ne h7
                go_wp2_with fail
                go_roundw
                case rel => exact ⟨p + 1, s' + 1, H + d, by go_num, by go_num, by go_num, by omega, by omega, HH', HTA, HPA, hbelA⟩
                case measure => simp [intOf]; omega
          · obtain rfl : s' = 512 := by omega
            go_wp2_with fail
            go_ret
            exact ⟨rfl, hbel⟩
      · exact absurd HALL.out HNo.out

theorem FPaths_walk (a0 : Option Addr) (n cap : Nat) (a1 : Option Addr) (cn cap2 : Nat) (w : World) (w0 : RecsAt w a0 n) (w1 : BoolsAt w a1 cn) :
    Calls Ybxm.prog 6 #[.slice a0 n cap, .slice a1 cn cap2] w fun e w' => e = .returned (.bool true) ∧ Below w.heap.size w w' := by
  obtain ⟨P, hPl, hok, hpr⟩ := recs_prog w0
  have hm := w0.1
  unfold maxLen at hm
  by_cases hl : (256 : Int) < (n : Int)
  · clear hpr w0 hok hPl w1
    go_enter Ybxm.func6, Ybxm.ntmps6
    go_wp2
    go_ret
    exact ⟨rfl, Below.refl _ _⟩
  · exact FPaths_core P a0 a1 n cap cn cap2 w (by omega) hPl.symm hok hpr w1.1 w1.2
end Go.Proofs.Ymbrbx

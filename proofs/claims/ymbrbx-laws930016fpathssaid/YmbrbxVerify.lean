import Derived.Test.YmbrbxFLegal
namespace Go.Proofs.Ymbrbx
open Go.ChangeShapes Go.WideShapes Go.ChangeAt Go.RowKit
set_option linter.unusedVariables false
set_option linter.unusedSimpArgs false

def allLeg (P : List (Int × Int)) : Prop := ∀ i, (h : i < P.length) → legI P i P[i].1 P[i].2 = true
theorem leg_parts (P : List (Int × Int)) (i : Nat) (op arg : Int) (h : legI P i op arg = true) : wfI op arg = true ∧ effPops op ≤ hgt P i ∧ (op = 7 → 0 ≤ arg ∧ arg ≤ P.length ∧ hgt P arg.toNat = hgt P (i + 1)) := by
  have h' := of_decide_eq_true h
  refine ⟨decide_eq_true (by omega), h'.2.1, fun h7 => ?_⟩
  rcases h'.2.2 with h | h | h
  · omega
  · exact h.2
  · exact absurd h7 h.2.1
theorem leg_of (P : List (Int × Int)) (i : Nat) (op arg : Int) (h1 : wfI op arg = true) (h2 : effPops op ≤ hgt P i) (h3 : op = 7 → 0 ≤ arg ∧ arg ≤ P.length ∧ hgt P arg.toNat = hgt P (i + 1)) : legI P i op arg = true := by
  have h1' := of_decide_eq_true h1
  refine decide_eq_true ⟨by omega, h2, ?_⟩
  by_cases h0 : op = 0
  · exact .inl h0
  · by_cases h7 : op = 7
    · exact .inr (.inl ⟨h7, h3 h7⟩)
    · exact .inr (.inr ⟨h0, h7, by omega⟩)

set_option maxRecDepth 100000 in
set_option maxHeartbeats 32000000 in
theorem verify_any (P : List (Int × Int)) (n : Nat) (a : Option Addr) (cap : Nat) (w : World) (HN : Hid (n = P.length)) (hn : n ≤ 1024) (HOK : Hid (∀ q ∈ P, okI q)) (HP : Hid (ProgIn w a P)) :
    Calls Ybxm.prog 21 #[.slice a n cap] w fun e w' => ((Hid (allLeg P) ∧ ∃ L, e = .returned (.tuple #[.slice (some ⟨w.heap.size, 0, none⟩) (n + 1) (n + 1), .bool true]) ∧ OwnI w.heap.size w' (.slice (some ⟨w.heap.size, 0, none⟩) (n + 1) (n + 1)) L ∧ Hts P L) ∨
      (Hid (¬ allLeg P) ∧ e = .returned (.tuple #[.slice none 0 0, .bool false]))) ∧ Below w.heap.size w w' := by
  go_enter Ybxm.func21, Ybxm.ntmps21
  go_wp2_with (at_make; refine wpList_make_ints rfl (.tmp 14) (.tmp 14) rfl w.heap.size (n + 1) _ _ rfl rfl (by omega) (by omega) (by omega) (Nat.le_refl _) ?_)
  intro w1 hown1 hgrow1
  have hbel1 : Below w.heap.size w w1 := (Below.refl _ _).grown hgrow1 (Nat.le_refl _) (fun k hk => by cases hk)
  clear hgrow1
  go_wp2
  go_loopw [2, 18] (fun v i wr => ∃ (k : Nat) (L : List Int), v = .slice (some ⟨w.heap.size, 0, none⟩) (n + 1) (n + 1) ∧ k ≤ n ∧ i = .int .i64 k ∧ L.length = n + 1 ∧ Hid (∀ j, j ≤ k → L[j]? = some (hgt P j)) ∧ Hid (∀ j, j < k → (h : j < P.length) → wfI P[j].1 P[j].2 = true ∧ effPops P[j].1 ≤ hgt P j) ∧ OwnI w.heap.size wr (.slice (some ⟨w.heap.size, 0, none⟩) (n + 1) (n + 1)) L ∧ Below w.heap.size w wr) (fun _ i _ => n - (intOf i).toNat)
  case atStart =>
    refine ⟨0, _, rfl, by omega, rfl, by simp, ?_, fun j hj => by omega, hown1, hbel1⟩
    intro j hj
    obtain rfl : j = 0 := by omega
    rw [hgt_zero]
    simp
  case round =>
    obtain ⟨k, L, rfl, hk, rfl, hL, HL, HW, hown, hbel⟩ := hrel
    clear hown1 hbel1
    have hsz := hbel.size
    by_cases hlt : k < n
    · have hkP : k < P.length := by have := HN.out; omega
      rcases HP.out with h0 | ⟨b, off, rfl, hb, hc⟩
      · omega
      · obtain ⟨c0, c1⟩ := hc k hkP
        have hokk := HOK.out P[k] (List.getElem_mem hkP)
        have hs := hgt_succ P k hkP
        have hbd := hgt_bounds P HOK.out k (by omega)
        have HW0 : Hid (∀ m, wfI P[k].1 P[k].2 = true → effPops P[k].1 ≤ hgt P k → m < k + 1 → (h : m < P.length) → wfI P[m].1 P[m].2 = true ∧ effPops P[m].1 ≤ hgt P m) := by
          intro m h1 h2 hm h
          by_cases hmk : m = k
          · subst hmk; exact ⟨h1, h2⟩
          · exact HW.out m (by omega) h
        have HNL : Hid (allLeg P → wfI P[k].1 P[k].2 = true ∧ effPops P[k].1 ≤ hgt P k) := fun h => ⟨(leg_parts P k _ _ (h k hkP)).1, (leg_parts P k _ _ (h k hkP)).2.1⟩
        obtain ⟨op, hop⟩ : ∃ op, op = P[k].1 := ⟨_, rfl⟩
        obtain ⟨arg, harg⟩ : ∃ arg, arg = P[k].2 := ⟨_, rfl⟩
        unfold okI at hokk
        rw [← hop] at c0 hs hokk HW0 HNL
        rw [← harg] at c1 hokk HW0 HNL
        obtain ⟨⟨o0, o1⟩, ⟨g0, g1⟩⟩ := hokk
        have k0 : wr.cell? ⟨b, off + k * 2, none⟩ = some (.int .u8 op) := (hbel.cell (p := ⟨b, off + k * 2, none⟩) hb).trans c0
        have k1 : wr.cell? ⟨b, off + k * 2 + 1, none⟩ = some (.int .i32 arg) := (hbel.cell (p := ⟨b, off + k * 2 + 1, none⟩) hb).trans c1
        have hbn : ¬ b = wr.heap.size := by omega
        have hEF := fun W => effect_any op o0 W
        have hWF := fun W => wellFormed_any op arg o0 W
        have hec := eff_cases op o0
        obtain ⟨H, hH⟩ : ∃ H, H = hgt P k := ⟨_, rfl⟩
        have hLk := HL.out k (Nat.le_refl _)
        rw [← hH] at hs hbd hLk HW0 HNL
        obtain ⟨p, hp⟩ : ∃ p, p = effPops op := ⟨_, rfl⟩
        obtain ⟨u, hu⟩ : ∃ u, u = effPush op := ⟨_, rfl⟩
        have hd : dlt op = u - p := by rw [hp, hu]; rfl
        rw [hd] at hs
        rw [← hp, ← hu] at hEF hec
        rw [← hp] at HW0 HNL
        have hpb : 0 ≤ p ∧ p ≤ 2 ∧ 0 ≤ u ∧ u ≤ 2 := by omega
        obtain ⟨dd, hdd⟩ : ∃ dd, dd = decide (op < 8) := ⟨_, rfl⟩
        rw [← hdd] at hEF
        have HS : Hid (H - p + u = hgt P (k + 1)) := by show _ = _; rw [hs]; omega
        have HHk : Hid (H = hgt P k) := hH
        obtain ⟨wf, hwf⟩ : ∃ wf, wf = wfI op arg := ⟨_, rfl⟩
        rw [← hwf] at hWF HW0 HNL
        clear c0 c1 hc hop harg hs hec hp hu hd hdd hwf hH HW
        obtain ⟨x, hx⟩ : ∃ x, L[k + 1]? = some x := ⟨L[k + 1], List.getElem?_eq_getElem (by omega)⟩
        have hbelA := (hbel.alloc hsz (.cells #[.int .u8 op, .int .i32 arg] 38)).alloc (alloc_le hsz _) (.cells #[.int .u8 op, .int .i32 arg] 38)
        have hownA := (hown.alloc (.cells #[.int .u8 op, .int .i32 arg] 38)).alloc (.cells #[.int .u8 op, .int .i32 arg] 38)
        go_wp2_with fail
        refine (hEF _).mono ?_
        rintro e wz ⟨rfl, rfl⟩
        go_wp2_with fail
        refine (hWF _).mono ?_
        rintro e wz ⟨rfl, rfl⟩
        generalize hW2 : ((wr.alloc (.cells #[.int .u8 op, .int .i32 arg] 38)).alloc (.cells #[.int .u8 op, .int .i32 arg] 38)) = W2
        rw [hW2] at hbelA hownA
        have e0 := hownA.at hL k H hLk
        have e1 := hownA.at hL (k + 1) x hx
        have e2 := hownA.free hL (k + 1)
        have hown' := hownA.store hL (k + 1) (H - p + u)
        have hbel' := hbelA.setCell (p := ⟨w.heap.size, k + 1, none⟩) (Nat.le_refl _) (.int .i64 (H - p + u))
        clear hW2 hown hbel k0 k1 hEF hWF
        cases wf with
        | false =>
          have HNL' : Hid (¬ allLeg P) := fun h => by cases (HNL.out h).1
          clear hown' hbel'
          go_wp2_with fail
          refine bodyPost_ret (v := .tuple #[.slice none 0 0, .bool false]) (by simp [results, Ybxm.results21, go_sem]) rfl ⟨.inr ⟨HNL', rfl⟩, hbelA⟩
        | true =>
          by_cases hlow : H < p
          · have HNL' : Hid (¬ allLeg P) := fun h => by have := (HNL.out h).2; omega
            clear hown' hbel'
            go_wp2_with fail
            refine bodyPost_ret (v := .tuple #[.slice none 0 0, .bool false]) (by simp [results, Ybxm.results21, go_sem]) rfl ⟨.inr ⟨HNL', rfl⟩, hbelA⟩
          · have HW' : Hid (∀ j, j < k + 1 → (h : j < P.length) → wfI P[j].1 P[j].2 = true ∧ effPops P[j].1 ≤ hgt P j) := fun m hm h => HW0.out m rfl (by omega) hm h
            have hL' : (L.set (k + 1) (H - p + u)).length = n + 1 := by rw [List.length_set]; exact hL
            have HL' : Hid (∀ j, j ≤ k + 1 → (L.set (k + 1) (H - p + u))[j]? = some (hgt P j)) := by
              intro j hj
              rw [List.getElem?_set]
              by_cases hjk : k + 1 = j
              · rw [if_pos hjk, if_pos (by omega), HS.out, hjk]
              · rw [if_neg hjk]
                exact HL.out j (by omega)
            clear HL HW0 HNL hownA hbelA hx hLk
            go_wp2_with fail
            go_roundw
            case rel => exact ⟨k + 1, _, rfl, by omega, by go_num, hL', HL', HW', hown', hbel'⟩
            case measure => simp [intOf]; omega
    · obtain rfl : k = n := by omega
      have hh : Hts P L := ⟨by rw [hL, HN.out], fun j hj => HL.out j (by have := HN.out; omega)⟩
      have HHH : Hid (Hts P L) := hh
      have HTI : Hid (HtIn wr w.heap.size P) := hown.heights HN.out hh
      clear hh HL hlt
      go_wp2
      go_loopw [2, 56] (fun v i wr => ∃ (j : Nat), v = .slice (some ⟨w.heap.size, 0, none⟩) (k + 1) (k + 1) ∧ j ≤ k ∧ i = .int .i64 j ∧ Hid (∀ m, m < j → (h : m < P.length) → P[m].1 = 7 → 0 ≤ P[m].2 ∧ P[m].2 ≤ P.length ∧ hgt P P[m].2.toNat = hgt P (m + 1)) ∧ OwnI w.heap.size wr (.slice (some ⟨w.heap.size, 0, none⟩) (k + 1) (k + 1)) L ∧ Below w.heap.size w wr) (fun _ i _ => k - (intOf i).toNat)
      case atStart => exact ⟨0, rfl, by omega, rfl, fun m hm => by omega, hown, hbel⟩
      case round =>
        obtain ⟨j, rfl, hj, rfl, HJ, hown, hbel⟩ := hrel
        have hsz := hbel.size
        by_cases hjk : j < k
        · have hjP : j < P.length := by have := HN.out; omega
          rcases HP.out with h0 | ⟨b, off, rfl, hb, hc⟩
          · omega
          obtain ⟨c0, c1⟩ := hc j hjP
          have hokk := HOK.out P[j] (List.getElem_mem hjP)
          have HJ0 : Hid ((P[j].1 = 7 → 0 ≤ P[j].2 ∧ P[j].2 ≤ P.length ∧ hgt P P[j].2.toNat = hgt P (j + 1)) → ∀ m, m < j + 1 → (h : m < P.length) → P[m].1 = 7 → 0 ≤ P[m].2 ∧ P[m].2 ≤ P.length ∧ hgt P P[m].2.toNat = hgt P (m + 1)) := by
            intro h1 m hm h
            by_cases hmk : m = j
            · subst hmk; exact h1
            · exact HJ.out m (by omega) h
          have HNL : Hid (allLeg P → P[j].1 = 7 → 0 ≤ P[j].2 ∧ P[j].2 ≤ P.length ∧ hgt P P[j].2.toNat = hgt P (j + 1)) := fun h => (leg_parts P j _ _ (h j hjP)).2.2
          obtain ⟨op, hop⟩ : ∃ op, op = P[j].1 := ⟨_, rfl⟩
          obtain ⟨arg, harg⟩ : ∃ arg, arg = P[j].2 := ⟨_, rfl⟩
          unfold okI at hokk
          rw [← hop] at c0 hokk HJ0 HNL
          rw [← harg] at c1 hokk HJ0 HNL
          obtain ⟨⟨o0, o1⟩, ⟨g0, g1⟩⟩ := hokk
          have k0 : wr.cell? ⟨b, off + j * 2, none⟩ = some (.int .u8 op) := (hbel.cell (p := ⟨b, off + j * 2, none⟩) hb).trans c0
          have k1 : wr.cell? ⟨b, off + j * 2 + 1, none⟩ = some (.int .i32 arg) := (hbel.cell (p := ⟨b, off + j * 2 + 1, none⟩) hb).trans c1
          have hbn : ¬ b = wr.heap.size := by omega
          have hblt : b < wr.heap.size := by omega
          have hbelA := hbel.alloc hsz (.cells #[.int .u8 op, .int .i32 arg] 38)
          have hownA := hown.alloc (.cells #[.int .u8 op, .int .i32 arg] 38)
          have hgl := hown.block.2
          have hgn : ¬ w.heap.size = wr.heap.size := by omega
          have hT := hown.heights HN.out HHH.out
          have t1 := hT.2 (j + 1) (by omega)
          have hb1 := hgt_bounds P HOK.out (j + 1) (by omega)
          clear c0 c1 hc hop harg HJ HTI
          by_cases z7 : op = 7
          · subst z7
            by_cases ha : arg < 0
            · have HNL' : Hid (¬ allLeg P) := fun h => by have := (HNL.out h rfl).1; omega
              have hda : decide (arg < (0 : Int)) = true := decide_eq_true ha
              clear HNL HJ0 hT hown hbel
              go_wp2_with fail
              go_quiet (fail)
              go_wp2_with fail
              refine bodyPost_ret (v := .tuple #[.slice none 0 0, .bool false]) (by simp [results, Ybxm.results21, go_sem]) rfl ⟨.inr ⟨HNL', rfl⟩, below_drewN hbelA _⟩
            have hda : decide (arg < (0 : Int)) = false := decide_eq_false ha
            by_cases hN : (k : Int) < arg
            · have HNL' : Hid (¬ allLeg P) := fun h => by have := (HNL.out h rfl).2.1; have := HN.out; omega
              have hdn : decide ((k : Int) < arg) = true := decide_eq_true hN
              clear HNL HJ0 hT hown hbel
              go_wp2_with fail
              go_quiet (fail)
              go_wp2_with fail
              refine bodyPost_ret (v := .tuple #[.slice none 0 0, .bool false]) (by simp [results, Ybxm.results21, go_sem]) rfl ⟨.inr ⟨HNL', rfl⟩, below_drewN hbelA _⟩
            obtain ⟨t, rfl⟩ : ∃ t : Nat, arg = (t : Int) := ⟨arg.toNat, by omega⟩
            rw [Int.toNat_natCast] at HNL HJ0
            have htn : t ≤ k := by omega
            have t2 := hT.2 t (by have := HN.out; omega)
            have htk : ¬ (k : Int) < (t : Int) := by omega
            have htk2 : decide (k < t) = false := decide_eq_false (by omega)
            have htk3 : decide ((k : Int) < (t : Int)) = false := decide_eq_false htk
            have htb : (t : Int) < (k : Int) + 1 := by omega
            have hjb : (j : Int) + 1 < (k : Int) + 1 := by omega
            have hb2 := hgt_bounds P HOK.out t (by have := HN.out; omega)
            obtain ⟨H1, hH1⟩ : ∃ H, H = hgt P (j + 1) := ⟨_, rfl⟩
            obtain ⟨H2, hH2⟩ : ∃ H, H = hgt P t := ⟨_, rfl⟩
            rw [← hH1] at t1 hb1 HNL HJ0
            rw [← hH2] at t2 hb2 HNL HJ0
            have htk4 : (t : Int) ≤ (k : Int) := by omega
            have htk5 : ¬ k < t := by omega
            have ht0 : ¬ (t : Int) < 0 := by omega
            have ht1 : (0 : Int) ≤ (t : Int) := by omega
            clear hH1 hH2 hT
            by_cases hq : H2 = H1
            · have HJ' := HJ0.out (fun _ => ⟨by omega, by have := HN.out; omega, hq⟩)
              have HJ'' : Hid (∀ m, m < j + 1 → (h : m < P.length) → P[m].1 = 7 → 0 ≤ P[m].2 ∧ P[m].2 ≤ P.length ∧ hgt P P[m].2.toNat = hgt P (m + 1)) := HJ'
              have qq : (H2 == H1) = true := int_eq hq
              clear HJ0 HNL HJ' hown hbel
              subst hq
              go_wp2_with fail
              go_quiet (fail)
              go_wp2_with fail
              go_roundw
              case rel => exact ⟨j + 1, rfl, by omega, by go_num, HJ'', hownA, below_drewN hbelA _⟩
              case measure => simp [intOf]; omega
            · have HNL' : Hid (¬ allLeg P) := fun h => hq (HNL.out h rfl).2.2
              have qq : (H2 == H1) = false := int_ne hq
              clear HJ0 HNL hown hbel
              go_wp2_with fail
              go_quiet (fail)
              go_wp2_with fail
              refine bodyPost_ret (v := .tuple #[.slice none 0 0, .bool false]) (by simp [results, Ybxm.results21, go_sem]) rfl ⟨.inr ⟨HNL', rfl⟩, below_drewN hbelA _⟩
          · have n7 : (op == 7) = false := int_ne z7
            have HJ' := HJ0.out (fun h => absurd h z7)
            have HJ'' : Hid (∀ m, m < j + 1 → (h : m < P.length) → P[m].1 = 7 → 0 ≤ P[m].2 ∧ P[m].2 ≤ P.length ∧ hgt P P[m].2.toNat = hgt P (m + 1)) := HJ'
            clear HJ0 HNL HJ' hT hown hbel z7
            go_wp2_with fail
            go_roundw
            case rel => exact ⟨j + 1, rfl, by omega, by go_num, HJ'', hownA, hbelA⟩
            case measure => simp [intOf]; omega
        · obtain rfl : j = k := by omega
          have HALL : Hid (allLeg P) := by
            intro i hi
            have h1 := HW.out i (by have := HN.out; omega) hi
            exact leg_of P i _ _ h1.1 h1.2 (HJ.out i (by have := HN.out; omega) hi)
          clear HJ HW HTI
          go_wp2_with fail
          refine bodyPost_ret (v := .tuple #[.slice (some ⟨w.heap.size, 0, none⟩) (j + 1) (j + 1), .bool true]) (by simp [results, Ybxm.results21, go_sem]) rfl ⟨.inl ⟨HALL, L, rfl, hown, HHH⟩, hbel⟩
end Go.Proofs.Ymbrbx

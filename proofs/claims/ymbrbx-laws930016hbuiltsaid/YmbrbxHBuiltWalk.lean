import Derived.Test.YmbrbxCutAll
import Derived.Test.YmbrbxOwnBytes
import Derived.Test.YmbrbxHPartsWalk
import Derived.Test.YmbrbxHInv
import Derived.Test.YmbrbxSlices
import Derived.OneCell
namespace Go.Proofs.Ymbrbx
open Go.ChangeShapes Go.WideShapes Go.ChangeAt Go.RowKit
set_option linter.unusedVariables false
set_option linter.unusedSimpArgs false

theorem OwnB.kept {base : Nat} {w w' : World} {g n : Nat} {l : List UInt8} (h : OwnB base w (.slice (some ⟨g, 0, none⟩) n n) l) (hg : w.grownBy w' none) : OwnB base w' (.slice (some ⟨g, 0, none⟩) n n) l :=
  World.ownsRow.kept h hg (.inr (by intro e; cases e))
theorem OwnB.other {base : Nat} {w : World} {g n : Nat} {l : List UInt8} (h : OwnB base w (.slice (some ⟨g, 0, none⟩) n n) l) {a : Addr} (ha : ¬ g = a.block) (u : Value) : OwnB base (w.setCell a u) (.slice (some ⟨g, 0, none⟩) n n) l :=
  ownsRow_setCell_other h (by intro e; exact ha (by injection e)) u

/-- The three answers that the law asks for. -/
theorem built_cuts (P L t : List UInt8) (c : UInt8) (hP : ∀ c ∈ P, blk c = true) (hL : ∀ c ∈ L, blk c = false) (hL0 : L ≠ []) (hc : blk c = true) :
    cutF (P ++ L ++ [c] ++ t) = (L, [c] ++ t) ∧ cutF (P ++ L) = (L, []) ∧ cutF P = ([], []) := by
  refine ⟨?_, ?_, ?_⟩
  · rw [show P ++ L ++ [c] ++ t = P ++ (L ++ (c :: t)) from by simp]
    exact cutF_of P L (c :: t) hP hL (.inr ⟨c, t, rfl, hc⟩) (fun h => absurd h hL0)
  · rw [show P ++ L = P ++ (L ++ []) from by simp]
    exact cutF_of P L [] hP hL (.inl rfl) (fun _ => rfl)
  · have := cutF_of P [] [] hP (by simp) (.inl rfl) (fun _ => rfl)
    simpa using this
theorem set_all {p : UInt8 → Prop} {l : List UInt8} {k : Nat} {c : UInt8} (h : ∀ j, j < k → (hj : j < l.length) → p l[j]) (hc : p c) : ∀ j, j < k + 1 → (hj : j < (l.set k c).length) → p (l.set k c)[j] := by
  intro j hj hl
  rw [List.getElem_set]
  split
  · exact hc
  · exact h j (by omega) (by rw [List.length_set] at hl; exact hl)
theorem all_of_at {p : UInt8 → Prop} {l : List UInt8} (h : ∀ j, j < l.length → (hj : j < l.length) → p l[j]) : ∀ c ∈ l, p c := by
  intro c hc
  obtain ⟨n, hn, rfl⟩ := List.getElem_of_mem hc
  exact h n hn hn

set_option maxRecDepth 100000 in
set_option maxHeartbeats 8000000 in
theorem HBuilt_core (a0 : Option Addr) (n0 c0 : Nat) (x1 : Int) (a2 : Option Addr) (n2 c2 : Nat) (tab : Bool) (t : ByteArray) (w : World)
    (hm0 : n0 ≤ 1024) (hm2 : n2 ≤ 1024) (hmt : t.size ≤ 1024) (h1a : 0 ≤ x1) (h1b : x1 ≤ 255)
    (H0 : Hid (n0 = 0 ∨ ∃ b off, a0 = some ⟨b, off, none⟩ ∧ b < w.heap.size ∧ ∃ B : Nat → Bool, ∀ j, j < n0 → w.cell? ⟨b, off + j, none⟩ = some (.bool (B j))))
    (H2 : Hid (n2 = 0 ∨ ∃ b off, a2 = some ⟨b, off, none⟩ ∧ b < w.heap.size ∧ ∀ j, j < n2 → ∃ x : Int, 0 ≤ x ∧ x ≤ 255 ∧ w.cell? ⟨b, off + j, none⟩ = some (.int .u8 x))) :
    Calls Ybxm.prog 11 #[.slice a0 n0 c0, .int .u8 x1, .slice a2 n2 c2, .bool tab, .string t] w fun e w' => e = .returned (.bool true) ∧ Below w.heap.size w w' := by
  have hl0 : ¬ ((1024 : Int) < (n0 : Int)) := by omega
  have hl2 : ¬ ((1024 : Int) < (n2 : Int)) := by omega
  have hlt : ¬ ((1024 : Int) < (t.size : Int)) := by omega
  obtain ⟨f1, rfl⟩ := byte_of x1 h1a h1b
  go_enter Ybxm.func11, Ybxm.ntmps11
  go_wp2_with (at_make; refine wpList_make_bytes rfl (.tmp 35) (.tmp 35) rfl w.heap.size n0 (n0 : Int) (n0 : Int) rfl rfl rfl rfl (by omega) (Nat.le_refl _) ?_)
  intro w1 hown1 hgrow1
  have hbel1 : Below w.heap.size w w1 := (Below.refl _ _).grown hgrow1 (Nat.le_refl _) (fun k hk => by cases hk)
  clear hgrow1
  go_wp2
  go_loopw [12] (fun i wr => ∃ (k : Nat) (P : List UInt8), k ≤ n0 ∧ i = .int .i64 k ∧ P.length = n0 ∧ OwnB w.heap.size wr (.slice (some ⟨w.heap.size, 0, none⟩) n0 n0) P ∧ (∀ j, j < k → (hj : j < P.length) → blk P[j] = true) ∧ Below w.heap.size w wr) (fun i _ => n0 - (intOf i).toNat)
  case atStart => exact ⟨0, _, by omega, rfl, by simp, hown1, fun j hj => by omega, hbel1⟩
  case round =>
    obtain ⟨k, P, hk, rfl, hPl, hown, hPb, hbel⟩ := hrel
    have HPB : Hid (∀ j, j < k → (hj : j < P.length) → blk P[j] = true) := hPb
    clear hPb
    by_cases hlk : k < n0
    · rcases H0.out with h | ⟨b, off, rfl, hb, B, hB⟩
      · omega
      · have hcx := hB k hlk
        have hcx' : wr.cell? ⟨b, off + k, none⟩ = some (.bool (B k)) := (hbel.cell (p := ⟨b, off + k, none⟩) hb).trans hcx
        have hbn : ¬ b = w.heap.size := by omega
        have hbk := hown.at hPl k (by omega)
        have hfr := hown.free hPl k
        clear hcx hB
        go_wp2
        all_goals
          go_roundw
          case rel =>
            first
              | exact ⟨k + 1, P.set k 32, by omega, by go_num, by rw [List.length_set]; exact hPl, hown.store hPl k 32 rfl, set_all (p := fun c => blk c = true) HPB.out rfl, hbel.setCell (Nat.le_refl _) _⟩
              | exact ⟨k + 1, (P.set k 32).set k 9, by omega, by go_num, by rw [List.length_set, List.length_set]; exact hPl, (hown.store hPl k 32 rfl).store (by rw [List.length_set]; exact hPl) k 9 rfl, by rw [List.set_set]; exact set_all (p := fun c => blk c = true) HPB.out rfl, (hbel.setCell (Nat.le_refl _) _).setCell (Nat.le_refl _) _⟩
          case measure => simp [intOf]; omega
    · obtain rfl : k = n0 := by omega
      have hsz := hbel.size
      obtain ⟨wo, hwo⟩ : ∃ wo : World, wo = wr := ⟨_, rfl⟩
      rw [← hwo] at hown hbel hsz ⊢
      clear hwo hown1 hbel1
      go_wp2_with (at_make; refine wpList_make_bytes rfl (.tmp 55) (.tmp 55) rfl wo.heap.size (n2 + 1) ((n2 : Int) + 1) ((n2 : Int) + 1) rfl rfl rfl rfl (by omega) (Nat.le_refl _) ?_)
      intro w2 hownL hgrow2
      have hP2 := hown.kept hgrow2
      have hbel2 : Below w.heap.size w w2 := hbel.grown hgrow2 hbel.size (fun k hk => by cases hk)
      have hB01 : w.heap.size < wo.heap.size := by
        rcases hown.2 with ⟨hh, _⟩ | ⟨g, cap, cur, hh, _, hg, _⟩
        · cases hh
        · simp only [Value.slice.injEq, Option.some.injEq, Addr.mk.injEq, and_true, true_and] at hh
          obtain ⟨rfl, _⟩ := hh
          rcases Nat.lt_or_ge w.heap.size wo.heap.size with h | h
          · exact h
          · rw [Array.getElem?_eq_none (by simpa using h)] at hg
            cases hg
      obtain ⟨B1, hB1⟩ : ∃ B1, B1 = wo.heap.size := ⟨_, rfl⟩
      rw [← hB1] at hownL hB01 ⊢
      have hbk0 := hownL.at (by simp) 0 (by simp)
      have hfr0 := hownL.free (by simp) 0
      have hL1 := hownL.store (by simp) 0 f1 rfl
      have hP3 := hP2.other (a := ⟨B1, 0, none⟩) (by show ¬ w.heap.size = B1; omega) (.int .u8 (f1.toNat : Int))
      have hbel3 : Below w.heap.size w (w2.setCell ⟨B1, 0, none⟩ (.int .u8 (f1.toNat : Int))) := hbel2.setCell (by show w.heap.size ≤ B1; omega) _
      have hLl : ((List.replicate (n2 + 1) (0 : UInt8)).set 0 f1).length = n2 + 1 := by simp
      clear hgrow2 hown hbel hB1 hsz hP2 hownL
      go_wp2
      go_loopw [14] (fun i wr => ∃ (j : Nat) (L : List UInt8), j ≤ n2 ∧ i = .int .i64 j ∧ L.length = n2 + 1 ∧ OwnB B1 wr (.slice (some ⟨B1, 0, none⟩) (n2 + 1) (n2 + 1)) L ∧ OwnB w.heap.size wr (.slice (some ⟨w.heap.size, 0, none⟩) k k) P ∧ Below w.heap.size w wr) (fun i _ => n2 - (intOf i).toNat)
      case atStart => exact ⟨0, _, by omega, rfl, hLl, hL1, hP3, hbel3⟩
      case round =>
        obtain ⟨j, L, hj, rfl, hLl, hownL, hownP, hbel⟩ := hrel
        clear hL1 hP3 hbel3 hbel2 hbk0 hfr0
        by_cases hlj : j < n2
        · rcases H2.out with h | ⟨b, off, rfl, hb, hX⟩
          · omega
          · obtain ⟨x, hx0, hx1, hcx⟩ := hX j hlj
            obtain ⟨c, rfl⟩ := byte_of x hx0 hx1
            have hcx' : wr.cell? ⟨b, off + j, none⟩ = some (.int .u8 (c.toNat : Int)) := (hbel.cell (p := ⟨b, off + j, none⟩) hb).trans hcx
            have hbk := hownL.at hLl (j + 1) (by omega)
            have hfr := hownL.free hLl (j + 1)
            have hL2 := hownL.store hLl (j + 1) c rfl
            have hP4 := hownP.other (a := ⟨B1, j + 1, none⟩) (by show ¬ w.heap.size = B1; omega) (.int .u8 (c.toNat : Int))
            have hbel4 : Below w.heap.size w (wr.setCell ⟨B1, j + 1, none⟩ (.int .u8 (c.toNat : Int))) := hbel.setCell (by show w.heap.size ≤ B1; omega) _
            clear hX hcx
            go_wp2
            go_roundw
            case rel => exact ⟨j + 1, _, by omega, by go_num, by rw [List.length_set]; exact hLl, hL2, hP4, hbel4⟩
            case measure => simp [intOf]; omega
        · obtain ⟨wq, hwq⟩ : ∃ wq : World, wq = wr := ⟨_, rfl⟩
          rw [← hwq] at hownL hownP hbel ⊢
          clear hwq
          go_wp2
          go_loopw [15] (fun i wr => ∃ (j : Nat) (L : List UInt8), j ≤ n2 + 1 ∧ i = .int .i64 j ∧ L.length = n2 + 1 ∧ OwnB B1 wr (.slice (some ⟨B1, 0, none⟩) (n2 + 1) (n2 + 1)) L ∧ (∀ q, q < j → (hq : q < L.length) → blk L[q] = false) ∧ OwnB w.heap.size wr (.slice (some ⟨w.heap.size, 0, none⟩) k k) P ∧ Below w.heap.size w wr) (fun i _ => n2 + 1 - (intOf i).toNat)
          case atStart => exact ⟨0, L, by omega, rfl, hLl, hownL, fun q hq => by omega, hownP, hbel⟩
          case round =>
            obtain ⟨j, L, hj, rfl, hLl, hownL, hLb, hownP, hbel⟩ := hrel
            have HLB : Hid (∀ q, q < j → (hq : q < L.length) → blk L[q] = false) := hLb
            clear hLb
            by_cases hlj : j < n2 + 1
            · have hbk := hownL.at hLl j (by omega)
              have hfr := hownL.free hLl j
              cases hv : blk (L[j]'(by omega)) with
              | true =>
                have hL2 := hownL.store hLl j 120 rfl
                have hP4 := hownP.other (a := ⟨B1, j, none⟩) (by show ¬ w.heap.size = B1; omega) (.int .u8 120)
                have hbel4 : Below w.heap.size w (wr.setCell ⟨B1, j, none⟩ (.int .u8 120)) := hbel.setCell (by show w.heap.size ≤ B1; omega) _
                go_wp2_with (go_at_call 29; refine (hblank_any _ _).mono ?_; rintro e w' ⟨rfl, rfl⟩)
                go_roundw
                case rel => exact ⟨j + 1, L.set j 120, by omega, by go_num, by rw [List.length_set]; exact hLl, hL2, set_all (p := fun c => blk c = false) HLB.out rfl, hP4, hbel4⟩
                case measure => simp [intOf]; omega
              | false =>
                have HLB2 : Hid (∀ q, q < j + 1 → (hq : q < L.length) → blk L[q] = false) := by
                  intro q hq hql
                  by_cases hqj : q = j
                  · subst hqj; exact hv
                  · exact HLB.out q (by omega) hql
                go_wp2_with (go_at_call 29; refine (hblank_any _ _).mono ?_; rintro e w' ⟨rfl, rfl⟩)
                go_roundw
                case rel => exact ⟨j + 1, L, by omega, by go_num, hLl, hownL, HLB2.out, hownP, hbel⟩
                case measure => simp [intOf]; omega
            · have hPt := hownP.text
              have hLt := hownL.text
              obtain ⟨ps, hps⟩ : ∃ s : ByteArray, s = ⟨P.toArray⟩ := ⟨_, rfl⟩
              obtain ⟨ws, hws⟩ : ∃ s : ByteArray, s = ⟨L.toArray⟩ := ⟨_, rfl⟩
              rw [← hps] at hPt
              rw [← hws] at hLt
              have hpz : ps.size = P.length := by rw [hps]; rfl
              have hwz : ws.size = L.length := by rw [hws]; rfl
              have hpd : ps.data.toList = P := by rw [hps]
              have hwd : ws.data.toList = L := by rw [hws]
              have hpz' : ps.size ≤ 1024 := by omega
              have hwz' : ws.size ≤ 1025 := by omega
              have hPall : ∀ c ∈ P, blk c = true := all_of_at (p := fun c => blk c = true) (fun q hq hq' => HPB.out q (by omega) hq')
              have hLall : ∀ c ∈ L, blk c = false := all_of_at (p := fun c => blk c = false) (fun q hq hq' => HLB.out q (by omega) hq')
              have hL0 : L ≠ [] := by intro h; rw [h] at hLl; simp at hLl
              cases tab with
              | true =>
                obtain ⟨e1, e2, e3⟩ := built_cuts P L t.data.toList 9 hPall hLall hL0 rfl
                have hC1 := fun w' => cutField_any (ps ++ ws ++ ⟨#[9]⟩ ++ t) w' (by unfold maxLen; simp only [ByteArray.size_append]; have : (⟨#[9]⟩ : ByteArray).size = 1 := rfl; omega)
                have hC2 := fun w' => cutField_any (ps ++ ws) w' (by unfold maxLen; simp only [ByteArray.size_append]; omega)
                have hC3 := fun w' => cutField_any ps w' (by unfold maxLen; omega)
                rw [show (ps ++ ws ++ ⟨#[9]⟩ ++ t).data.toList = P ++ L ++ [9] ++ t.data.toList from by simp only [ByteArray.data_append, Array.toList_append, hpd, hwd], e1] at hC1
                rw [show (ps ++ ws).data.toList = P ++ L from by simp only [ByteArray.data_append, Array.toList_append, hpd, hwd], e2] at hC2
                rw [hpd, e3] at hC3
                dsimp only at hC1 hC2 hC3
                have eR : (⟨(([9] : List UInt8) ++ t.data.toList).toArray⟩ : ByteArray) = ⟨#[9]⟩ ++ t := str_ext (by simp only [ByteArray.data_append, Array.toList_append])
                rw [← hws, eR] at hC1
                clear eR
                rw [← hws] at hC2
                have hbelF := hbel
                clear e1 e2 e3 hPall hLall hL0 hpd hwd hws hps hownP hownL HLB HPB H0 H2 hbel
                go_wp2_with fail
                refine (hC1 _).mono ?_
                rintro e w1 ⟨rfl, n1, rfl⟩
                go_wp2_with fail
                refine (hC2 _).mono ?_
                rintro e w2 ⟨rfl, n2', rfl⟩
                go_wp2_with fail
                refine (hC3 _).mono ?_
                rintro e w3 ⟨rfl, n3, rfl⟩
                go_wp2_with fail
                go_ret
                exact ⟨rfl, below_drewN hbelF _⟩
              | false =>
                obtain ⟨e1, e2, e3⟩ := built_cuts P L t.data.toList 32 hPall hLall hL0 rfl
                have hC1 := fun w' => cutField_any (ps ++ ws ++ ⟨#[32]⟩ ++ t) w' (by unfold maxLen; simp only [ByteArray.size_append]; have : (⟨#[32]⟩ : ByteArray).size = 1 := rfl; omega)
                have hC2 := fun w' => cutField_any (ps ++ ws) w' (by unfold maxLen; simp only [ByteArray.size_append]; omega)
                have hC3 := fun w' => cutField_any ps w' (by unfold maxLen; omega)
                rw [show (ps ++ ws ++ ⟨#[32]⟩ ++ t).data.toList = P ++ L ++ [32] ++ t.data.toList from by simp only [ByteArray.data_append, Array.toList_append, hpd, hwd], e1] at hC1
                rw [show (ps ++ ws).data.toList = P ++ L from by simp only [ByteArray.data_append, Array.toList_append, hpd, hwd], e2] at hC2
                rw [hpd, e3] at hC3
                dsimp only at hC1 hC2 hC3
                have eR : (⟨(([32] : List UInt8) ++ t.data.toList).toArray⟩ : ByteArray) = ⟨#[32]⟩ ++ t := str_ext (by simp only [ByteArray.data_append, Array.toList_append])
                rw [← hws, eR] at hC1
                clear eR
                rw [← hws] at hC2
                have hbelF := hbel
                clear e1 e2 e3 hPall hLall hL0 hpd hwd hws hps hownP hownL HLB HPB H0 H2 hbel
                go_wp2_with fail
                refine (hC1 _).mono ?_
                rintro e w1 ⟨rfl, n1, rfl⟩
                go_wp2_with fail
                refine (hC2 _).mono ?_
                rintro e w2 ⟨rfl, n2', rfl⟩
                go_wp2_with fail
                refine (hC3 _).mono ?_
                rintro e w3 ⟨rfl, n3, rfl⟩
                go_wp2_with fail
                go_ret
                exact ⟨rfl, below_drewN hbelF _⟩

set_option maxRecDepth 100000 in
set_option maxHeartbeats 4000000 in
theorem HBuilt_walk (a0 : Option Addr) (n0 c0 : Nat) (x1 : Int) (a2 : Option Addr) (n2 c2 : Nat) (z2 : List Int) (tab : Bool) (t : ByteArray) (w : World)
    (w0 : BoolsAt w a0 n0) (w1 : (Lit.int .u8 x1).wf = true) (w2 : IsRow .u8 w a2 n2 c2 z2) (w4 : t.size ≤ maxLen) :
    Calls Ybxm.prog 11 #[.slice a0 n0 c0, .int .u8 x1, .slice a2 n2 c2, .bool tab, .string t] w fun e w' => e = .returned (.bool true) ∧ Below w.heap.size w w' := by
  obtain ⟨hm0, hv0⟩ := w0
  obtain ⟨hm2, hv2⟩ := w2.view
  have b1 := bounds_u8 w1
  unfold maxLen at hm0 hm2 w4
  by_cases hl0 : (1024 : Int) < (n0 : Int)
  · clear hv0 hv2 w2
    go_enter Ybxm.func11, Ybxm.ntmps11
    go_wp2
    go_ret
    exact ⟨rfl, Below.refl _ _⟩
  by_cases hl2 : (1024 : Int) < (n2 : Int)
  · clear hv0 hv2 w2
    go_enter Ybxm.func11, Ybxm.ntmps11
    go_wp2
    go_ret
    exact ⟨rfl, Below.refl _ _⟩
  by_cases hlt : (1024 : Int) < (t.size : Int)
  · clear hv0 hv2 w2
    go_enter Ybxm.func11, Ybxm.ntmps11
    go_wp2
    go_ret
    exact ⟨rfl, Below.refl _ _⟩
  refine HBuilt_core a0 n0 c0 x1 a2 n2 c2 tab t w (by omega) (by omega) (by omega) b1.1 b1.2 hv0 ?_
  rcases hv2 with h | ⟨b, off, rfl, hb, hc⟩
  · exact .inl h
  · exact .inr ⟨b, off, rfl, hb, fun j hj => ⟨_, (bounds_u8 (hc j hj).2).1, (bounds_u8 (hc j hj).2).2, (hc j hj).1⟩⟩
end Go.Proofs.Ymbrbx

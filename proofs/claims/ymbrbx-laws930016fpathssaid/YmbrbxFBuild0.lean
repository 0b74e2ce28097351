import Derived.Test.YmbrbxFBuild
import Derived.WalkSmall
namespace Go.Proofs.Ymbrbx
open Go.ChangeShapes Go.WideShapes Go.ChangeAt Go.RowKit
set_option linter.unusedVariables false
set_option linter.unusedSimpArgs false
theorem Hid.mk2 {p : Prop} (h : p) : Hid p := h
theorem al2 (w : World) (u v : Value) (t : TypeId) : (w.alloc (.cells #[u, v] t)).cell? ⟨w.heap.size, 0, none⟩ = some u ∧ (w.alloc (.cells #[u, v] t)).cell? ⟨w.heap.size, 1, none⟩ = some v := by
  rw [World.cell?_alloc_mark, World.cell?_alloc_mark]
  exact ⟨rfl, rfl⟩

/-! ### What fbuild gives: a program of well-ranged instructions; in mode 2 more -/
theorem hgt_set (L : List (Int × Int)) (k : Nat) (q : Int × Int) (j : Nat) (h : j ≤ k) : hgt (L.set k q) j = hgt L j := by
  unfold hgt
  rw [List.take_set_of_le h]
def Fit (L : List (Int × Int)) (k : Nat) : Prop := ∀ j, j < k → (h : j < L.length) → okI L[j] ∧ L[j].1 < 8 ∧ effPops L[j].1 ≤ hgt L j ∧ (L[j].1 ≠ 0 → L[j].1 ≠ 7 → L[j].2 = 0)
def Okd (L : List (Int × Int)) (k : Nat) : Prop := ∀ j, j < k → (h : j < L.length) → okI L[j]
theorem Okd.next {L : List (Int × Int)} {k : Nat} (h : Okd L k) (q : Int × Int) (hq : okI q) : Okd (L.set k q) (k + 1) := by
  intro j hj hl
  rw [List.getElem_set]
  split
  · exact hq
  · exact h j (by omega) (by rw [List.length_set] at hl; exact hl)
theorem Fit.next {L : List (Int × Int)} {k : Nat} (h : Fit L k) (q : Int × Int) (hq : okI q) (h8 : q.1 < 8) (hp : effPops q.1 ≤ hgt L k) (h0 : q.1 ≠ 0 → q.1 ≠ 7 → q.2 = 0) : Fit (L.set k q) (k + 1) := by
  intro j hj hl
  rw [hgt_set L k q j (by omega)]
  by_cases hjk : k = j
  · subst hjk
    rw [List.getElem_set_self]
    exact ⟨hq, h8, hp, h0⟩
  · rw [List.getElem_set_ne hjk]
    exact h j (by omega) (by rw [List.length_set] at hl; exact hl)
theorem hgt_next (L : List (Int × Int)) (k : Nat) (q : Int × Int) (h : k < L.length) : hgt (L.set k q) (k + 1) = hgt L k + dlt q.1 := by
  rw [hgt_succ _ k (by rw [List.length_set]; exact h), hgt_set L k q k (Nat.le_refl _), List.getElem_set_self]

set_option maxRecDepth 100000 in
set_option maxHeartbeats 32000000 in
theorem fbuild_0 (P : List (Int × Int)) (n : Nat) (a : Option Addr) (cap : Nat) (w : World) (HN : Hid (n = P.length)) (hn : n ≤ 1024) (HOK : Hid (∀ q ∈ P, okI q)) (HP : Hid (ProgIn w a P)) :
    Calls Ybxm.prog 18 #[.slice a n cap, .int .i64 0] w fun e w' => ∃ L, e = .returned (.slice (some ⟨w.heap.size, 0, none⟩) n n) ∧ OwnP w.heap.size w' (.slice (some ⟨w.heap.size, 0, none⟩) n n) L ∧ L.length = n ∧ Hid (Okd L n) ∧ Below w.heap.size w w' := by
  go_enter Ybxm.func18, Ybxm.ntmps18
  go_wp2_with (at_make; refine wpList_make_progs rfl (.tmp 12) (.tmp 12) rfl w.heap.size n _ _ rfl rfl (by omega) (by omega) (by omega) (Nat.le_refl _) ?_)
  intro w1 hown1 hgrow1
  have hbel1 : Below w.heap.size w w1 := (Below.refl _ _).grown hgrow1 (Nat.le_refl _) (fun k hk => by cases hk)
  clear hgrow1
  go_wp2
  go_loopw [7, 8] (fun x i wr => ∃ (k : Nat) (L : List (Int × Int)) (h : Int), k ≤ n ∧ i = .int .i64 k ∧ x = .int .i64 h ∧ -(k : Int) ≤ h ∧ h ≤ k ∧ Hid (h = hgt L k) ∧ L.length = n ∧ Hid (Okd L k) ∧ OwnP w.heap.size wr (.slice (some ⟨w.heap.size, 0, none⟩) n n) L ∧ Below w.heap.size w wr) (fun _ i _ => n - (intOf i).toNat)
  case atStart => exact ⟨0, _, 0, by omega, rfl, rfl, by omega, by omega, rfl, by simp, fun j hj => by omega, hown1, hbel1⟩
  case round =>
    obtain ⟨k, L, h, hk, rfl, rfl, hh0, hh1, HH, hL, HF, hown, hbel⟩ := hrel
    clear hown1 hbel1
    have hsz := hbel.size
    by_cases hlt : k < n
    · have hkP : k < P.length := by have := HN.out; omega
      rcases HP.out with h0 | ⟨b, off, rfl, hb, hc⟩
      · omega
      obtain ⟨c0, c1⟩ := hc k hkP
      have hokk := HOK.out P[k] (List.getElem_mem hkP)
      obtain ⟨op, hop⟩ : ∃ op, op = P[k].1 := ⟨_, rfl⟩
      obtain ⟨arg, harg⟩ : ∃ arg, arg = P[k].2 := ⟨_, rfl⟩
      unfold okI at hokk
      rw [← hop] at c0 hokk
      rw [← harg] at c1 hokk
      obtain ⟨⟨o0, o1⟩, ⟨g0, g1⟩⟩ := hokk
      have k0 : wr.cell? ⟨b, off + k * 2, none⟩ = some (.int .u8 op) := (hbel.cell (p := ⟨b, off + k * 2, none⟩) hb).trans c0
      have k1 : wr.cell? ⟨b, off + k * 2 + 1, none⟩ = some (.int .i32 arg) := (hbel.cell (p := ⟨b, off + k * 2 + 1, none⟩) hb).trans c1
      have hbn : ¬ b = wr.heap.size := by omega
      have hgl := hown.block.2
      have hgn : ¬ w.heap.size = wr.heap.size := by omega
      have hgm : ¬ wr.heap.size = w.heap.size := by omega
      clear c0 c1 hc hop harg
      have hokq : okI (op, arg) := ⟨⟨by first | omega | decide, by first | omega | decide⟩, ⟨by first | omega | decide, by first | omega | decide⟩⟩
      have HF' := Hid.mk2 (HF.out.next (op, arg) hokq )
      have HH' : Hid (h + dlt (op) = hgt (L.set k (op, arg)) (k + 1)) := by show _ = _; rw [hgt_next L k _ (by omega), HH.out]
      have hL' : (L.set k (op, arg)).length = n := by rw [List.length_set]; exact hL
      have hFD := fun W => fdelta_any (op) (by first | omega | decide) W
      have hdb := dlt_bounds (op) (by first | omega | decide)
      obtain ⟨d, hd⟩ : ∃ d, d = dlt (op) := ⟨_, rfl⟩
      rw [← hd] at hFD hdb HH'
      clear hd hokq HF HH
      have hownA := hown.alloc (.cells #[.int .u8 (op), .int .i32 (arg)] 38)
      have hbelA := hbel.alloc hsz (.cells #[.int .u8 (op), .int .i32 (arg)] 38)
      obtain ⟨e0, e1⟩ := hownA.at hL k (by omega)
      have f0 := hownA.free hL (k * 2)
      have f1 := hownA.free hL (k * 2 + 1)
      have hown' := hownA.store hL k (op) (arg)
      have hbel' := (hbelA.setCell (p := ⟨w.heap.size, k * 2, none⟩) (Nat.le_refl _) (.int .u8 (op))).setCell (p := ⟨w.heap.size, k * 2 + 1, none⟩) (Nat.le_refl _) (.int .i32 (arg))
      go_wp2_with fail
      refine (hFD _).mono ?_
      rintro e wq ⟨rfl, rfl⟩
      obtain ⟨y0, y1⟩ := al2 wr (.int .u8 (op)) (.int .i32 (arg)) 38
      generalize hW : wr.alloc (.cells #[.int .u8 (op), .int .i32 (arg)] 38) = W at *
      go_wp2_with fail
      go_roundw
      case rel => exact ⟨k + 1, _, h + d, by omega, by go_num, by go_num, by omega, by omega, HH', hL', HF', hown', hbel'⟩
      case measure => simp [intOf]; omega
    · obtain rfl : k = n := by omega
      go_wp2
      go_ret
      exact ⟨L, rfl, hown, hL, HF, hbel⟩
end Go.Proofs.Ymbrbx

import Derived.Test.YmbrbwDec
import Derived.Laws.IdiomStrings
namespace Go.Proofs.Ymbrbw
open Go.ChangeShapes Go.WideShapes Go.ChangeAt Go.RowKit
set_option linter.unusedVariables false
set_option linter.unusedSimpArgs false

/-- What FormatInt32 writes. -/
def fmt32 (n : Int) : List UInt8 := if n < 0 then 45 :: dec n.natAbs else dec n.natAbs

/-- The buffer in block B: eleven cells that may be written; the bytes t lie from cell i to its end. -/
def Buf (B i : Nat) (t : List UInt8) (wr : World) : Prop :=
  i + t.length = 11 ∧ (∀ j, j < 11 → (wr.cell? ⟨B, j, none⟩).isSome = true) ∧ (∀ j, j < 11 → wr.frozen? ⟨B, j, none⟩ = false) ∧
  ∀ j (h : j < t.length), wr.cell? ⟨B, i + j, none⟩ = some (.int .u8 (t[j].toNat : Int))

theorem Buf.push {B i : Nat} {t : List UInt8} {wr : World} (hb : Buf B (i + 1) t wr) (d : UInt8) {x : Int} (hx : x = (d.toNat : Int)) :
    Buf B i (d :: t) (wr.setCell ⟨B, i, none⟩ (.int .u8 x)) := by
  obtain ⟨h1, h2, h3, h4⟩ := hb
  refine ⟨by simp only [List.length_cons]; omega, ?_, ?_, ?_⟩
  · intro j hj
    obtain ⟨v, hv⟩ := Option.isSome_iff_exists.1 (h2 j hj)
    obtain ⟨v', hv'⟩ := cell?_setCell_some (p := ⟨B, i, none⟩) (x := .int .u8 x) hv
    rw [hv']; rfl
  · intro j hj
    rw [World.frozen?_setCell]
    exact h3 j hj
  · intro j hj
    match j, hj with
    | 0, _ =>
      obtain ⟨v, hv⟩ := Option.isSome_iff_exists.1 (h2 i (by omega))
      rw [Nat.add_zero, World.cell?_setCell_same _ _ _ hv, hx]
      rfl
    | j + 1, hj =>
      have hj' : j < t.length := by simpa using hj
      rw [World.cell?_setCell_other _ _ _ _ (by intro e; injection e with _ e2; omega), show i + (j + 1) = i + 1 + j from by omega, h4 j hj']
      rfl

theorem Buf.text {B i : Nat} {t : List UInt8} {wr : World} (hb : Buf B i t wr) :
    (convert 30 9 (.slice (some ⟨B, i, none⟩) (11 - i) (11 - i))).run Ybwm.prog wr = .ok (.string ⟨t.toArray⟩) wr := by
  have e : 11 - i = t.length := by have := hb.1; omega
  rw [e]
  exact run_convert_bytes_back wr 30 9 5 ⟨B, i, none⟩ _ t Ybwm.underlying30 Ybwm.underlying5 Ybwm.underlying9 (fun j hj => by rw [add_plain]; exact hb.2.2.2 j hj)

theorem alen60 : Ybwm.prog.arrayLen 60 = 11 := by kernel_rfl
theorem elem60 : Ybwm.prog.elem 60 = 5 := by kernel_rfl
theorem under60 : Ybwm.prog.underlying 60 = some (.array (Ybwm.prog.arrayLen 60) (Ybwm.prog.elem 60)) := by rw [alen60, elem60]; exact Ybwm.underlying60
theorem size5 (w : World) : (sizeOf 5).run Ybwm.prog w = .ok 1 w := by simp [go_sem]
theorem buf_slice (B k : Nat) (hk : k < 11) (wr : World) :
    (Instr.sliceAt 60 (.pointer (some ⟨B, 0, none⟩)) (some (.int .i64 (k : Int))) none none).run Ybwm.prog wr = .ok (.slice (some ⟨B, k, none⟩) (11 - k) (11 - k)) wr := by
  rw [run_sliceAt_array_l wr 60 ⟨B, 0, none⟩ under60 .i64 k (by omega) (by rw [alen60]; omega), alen60, elem60, size5]
  simp only [Result.andThen, slicedAt, Int.toNat_natCast]
  rw [if_neg (by omega), add_plain]
  simp

/-- The first digit is laid, and no other yet. -/
theorem Buf.start (w : World) (m : Nat) {x : Int} (hx : x = ((dg (m % 10)).toNat : Int)) :
    Buf w.heap.size 10 [dg (m % 10)] (w.alloc (.cells #[.int .u8 0, .int .u8 0, .int .u8 0, .int .u8 0, .int .u8 0, .int .u8 0, .int .u8 0, .int .u8 0, .int .u8 0, .int .u8 0, .int .u8 x] 60)) := by
  refine ⟨rfl, ?_, ?_, ?_⟩
  · intro j hj
    rw [World.cell?_alloc_mark]
    simp [hj]
  · intro j hj
    rw [World.frozen?_alloc_mark]
    simp
  · intro j hj
    have : j = 0 := by simp at hj; omega
    subst this
    rw [World.cell?_alloc_mark, hx]
    rfl

theorem dg_cast (v : Nat) : (48 + (v : Int) % 10) = ((dg (v % 10)).toNat : Int) := by
  rw [dg_toNat _ (by omega)]
  omega

set_option maxHeartbeats 4000000 in
theorem formatInt32_neg (m : Nat) (h0 : 0 < m) (h1 : m ≤ 2147483648) (w : World) :
    Calls Ybwm.prog 28 #[.int .i32 (-(m : Int))] w fun e w' => e = .returned (.string ⟨(45 :: dec m).toArray⟩) ∧ Below w.heap.size w w' := by
  have hl : (dec m).length ≤ 10 := dec_len 9 m (by omega)
  go_enter Ybwm.func28, Ybwm.ntmps28
  go_wp2
  go_loopw [3, 5] (fun x i wr => ∃ (v k : Nat) (t : List UInt8), x = .int .i64 v ∧ v ≤ 2147483648 ∧ i = .int .i64 k ∧ Hid (dec m = decP v ++ t) ∧ Buf w.heap.size k t wr ∧ Below w.heap.size w wr) (fun x _ _ => (intOf x).toNat)
  case atStart => exact ⟨m / 10, 10, [dg (m % 10)], by go_num, by omega, rfl, dec_step m, Buf.start w m (dg_cast m), (Below.refl _ _).alloc (Nat.le_refl _) _⟩
  case round =>
    obtain ⟨v, k, t, rfl, hv, rfl, H, hb, hbel⟩ := hrel
    have hlen := congrArg List.length H.out
    rw [List.length_append] at hlen
    have hk := hb.1
    by_cases hpos : 0 < v
    · have hp := decP_ne v hpos
      obtain ⟨k', rfl⟩ : ∃ k', k = k' + 1 := ⟨k - 1, by omega⟩
      have hc := hb.2.1 k' (by omega)
      have hf := hb.2.2.1 k' (by omega)
      have hk1 : (0 : Int) ≤ k' := by omega
      have hk2 : (k' : Int) < 11 := by omega
      have H2 : Hid (dec m = decP (v / 10) ++ (dg (v % 10) :: t)) := by
        have h := H.out
        rw [decP_step v hpos] at h
        show _ = _
        rw [h, List.append_assoc]
        rfl
      obtain ⟨c, hc⟩ := Option.isSome_iff_exists.1 hc
      clear hlen hk hp H
      go_wp2
      go_roundw
      case rel => exact ⟨v / 10, k', dg (v % 10) :: t, by go_num, by omega, rfl, H2, hb.push _ (dg_cast v), hbel.setCell (Nat.le_refl _) _⟩
      case measure => simp [intOf]; omega
    · obtain rfl : v = 0 := by omega
      rw [decP_zero] at H hlen
      obtain ⟨k', rfl⟩ : ∃ k', k = k' + 1 := ⟨k - 1, by simp at hlen; omega⟩
      have hc := hb.2.1 k' (by omega)
      have hf := hb.2.2.1 k' (by omega)
      have hk1 : (0 : Int) ≤ k' := by omega
      have hk2 : (k' : Int) < 11 := by omega
      have ht := (hb.push 45 (x := 45) rfl).text
      have hs := buf_slice w.heap.size k' (by omega) (wr.setCell ⟨w.heap.size, k', none⟩ (.int .u8 45))
      obtain ⟨c, hc⟩ := Option.isSome_iff_exists.1 hc
      have hbel' := hbel.setCell (p := ⟨w.heap.size, k', none⟩) (Nat.le_refl _) (.int .u8 45)
      have H2 : Hid (dec m = t) := H
      clear hlen hbel H hb hk
      go_wp2
      go_ret
      exact ⟨by rw [H2.out]; rfl, hbel'⟩

set_option maxHeartbeats 4000000 in
theorem formatInt32_pos (m : Nat) (h1 : m ≤ 2147483647) (w : World) :
    Calls Ybwm.prog 28 #[.int .i32 (m : Int)] w fun e w' => e = .returned (.string ⟨(dec m).toArray⟩) ∧ Below w.heap.size w w' := by
  have hl : (dec m).length ≤ 10 := dec_len 9 m (by omega)
  go_enter Ybwm.func28, Ybwm.ntmps28
  go_wp2
  go_loopw [3, 5] (fun x i wr => ∃ (v k : Nat) (t : List UInt8), x = .int .i64 v ∧ v ≤ 2147483648 ∧ i = .int .i64 k ∧ Hid (dec m = decP v ++ t) ∧ Buf w.heap.size k t wr ∧ Below w.heap.size w wr) (fun x _ _ => (intOf x).toNat)
  case atStart => exact ⟨m / 10, 10, [dg (m % 10)], by go_num, by omega, rfl, dec_step m, Buf.start w m (dg_cast m), (Below.refl _ _).alloc (Nat.le_refl _) _⟩
  case round =>
    obtain ⟨v, k, t, rfl, hv, rfl, H, hb, hbel⟩ := hrel
    have hlen := congrArg List.length H.out
    rw [List.length_append] at hlen
    have hk := hb.1
    by_cases hpos : 0 < v
    · have hp := decP_ne v hpos
      obtain ⟨k', rfl⟩ : ∃ k', k = k' + 1 := ⟨k - 1, by omega⟩
      have hc := hb.2.1 k' (by omega)
      have hf := hb.2.2.1 k' (by omega)
      have hk1 : (0 : Int) ≤ k' := by omega
      have hk2 : (k' : Int) < 11 := by omega
      have H2 : Hid (dec m = decP (v / 10) ++ (dg (v % 10) :: t)) := by
        have h := H.out
        rw [decP_step v hpos] at h
        show _ = _
        rw [h, List.append_assoc]
        rfl
      obtain ⟨c, hc⟩ := Option.isSome_iff_exists.1 hc
      clear hlen hk hp H
      go_wp2
      go_roundw
      case rel => exact ⟨v / 10, k', dg (v % 10) :: t, by go_num, by omega, rfl, H2, hb.push _ (dg_cast v), hbel.setCell (Nat.le_refl _) _⟩
      case measure => simp [intOf]; omega
    · obtain rfl : v = 0 := by omega
      rw [decP_zero] at H hlen
      have ht := hb.text
      have htl : 1 ≤ t.length := by have := dec_ne m; simp at hlen; omega
      have hs := buf_slice w.heap.size k (by omega) wr
      have H2 : Hid (dec m = t) := H
      clear hlen H hb hk
      go_wp2
      go_ret
      exact ⟨by rw [H2.out]; rfl, hbel⟩

theorem formatInt32_any (n : Int) (h1 : -2147483648 ≤ n) (h2 : n ≤ 2147483647) (w : World) :
    Calls Ybwm.prog 28 #[.int .i32 n] w fun e w' => e = .returned (.string ⟨(fmt32 n).toArray⟩) ∧ Below w.heap.size w w' := by
  by_cases hn : n < 0
  · obtain ⟨m, rfl⟩ : ∃ m : Nat, n = -(m : Int) := ⟨n.natAbs, by omega⟩
    have e : fmt32 (-(m : Int)) = 45 :: dec m := by unfold fmt32; rw [if_pos hn, Int.natAbs_neg, Int.natAbs_natCast]
    rw [e]
    exact formatInt32_neg m (by omega) (by omega) w
  · obtain ⟨m, rfl⟩ : ∃ m : Nat, n = (m : Int) := ⟨n.natAbs, by omega⟩
    have e : fmt32 (m : Int) = dec m := by unfold fmt32; rw [if_neg hn, Int.natAbs_natCast]
    rw [e]
    exact formatInt32_pos m (by omega) w
end Go.Proofs.Ymbrbw

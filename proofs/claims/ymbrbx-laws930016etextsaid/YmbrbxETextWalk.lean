import Derived.Test.YmbrbxESpec
import Derived.Test.YmbrbxParseInt32
import Derived.Test.YmbrbxOwnBytes
namespace Go.Proofs.Ymbrbx
open Go.ChangeShapes Go.WideShapes Go.ChangeAt Go.RowKit
set_option linter.unusedVariables false
set_option linter.unusedSimpArgs false

/-- The two readers agree on whatever text. -/
theorem readers_agree (s : ByteArray) (hs : s.size ≤ maxLen) : ∃ P : Int × Bool, (∀ w, Calls Ybxm.prog 15 #[.string s] w fun e w' => e = .returned (.tuple #[.int .i32 P.1, .bool P.2]) ∧ w' = w) ∧
    (∀ w, Calls Ybxm.prog 16 #[.string s] w fun e w' => e = .returned (.tuple #[.int .i32 P.1, .bool P.2]) ∧ w' = w) :=
  ⟨parseI s.data.toList, fun w => espec_any s w hs, fun w => parseInt32_any s w hs⟩


set_option maxHeartbeats 4000000 in
theorem EText_false (b off len cap : Nat) (w : World) (hm : len ≤ 1024) (hb : b < w.heap.size)
    (hcell : ∀ j, j < len → ∃ x : Int, 0 ≤ x ∧ x ≤ 255 ∧ w.cell? ⟨b, off + j, none⟩ = some (.int .u8 x)) :
    Calls Ybxm.prog 3 #[.bool false, .slice (some ⟨b, off, none⟩) len cap] w fun e w' => e = .returned (.bool true) ∧ Below w.heap.size w w' := by
  have hl : ¬ ((1024 : Int) < (len : Int)) := by omega
  go_enter Ybxm.func3, Ybxm.ntmps3
  go_wp2
  go_loopw [5, 6] (fun v i wr => ∃ (k : Nat) (l : List UInt8), k ≤ len ∧ i = .int .i64 k ∧ OwnB w.heap.size wr v l ∧ l.length ≤ k + 1 ∧ Below w.heap.size w wr) (fun _ i _ => len - (intOf i).toNat)
  case atStart => exact ⟨0, [], by omega, rfl, OwnB.nil _ _, by simp, Below.refl _ _⟩
  case round =>
    obtain ⟨k, l, hk, rfl, hown, hll, hbel⟩ := hrel
    by_cases hlt : k < len
    · obtain ⟨x, hx0, hx1, hcx⟩ := hcell k hlt
      have hcx' : wr.cell? ⟨b, off + k, none⟩ = some (.int .u8 x) := (hbel.cell (p := ⟨b, off + k, none⟩) hb).trans hcx
      have hi : (x % 24).toNat < (⟨#[48, 49, 50, 51, 52, 53, 54, 55, 56, 57, 48, 49, 50, 51, 52, 53, 54, 55, 56, 57, 45, 43, 47, 58]⟩ : ByteArray).size := by show _ < 24; omega
      obtain ⟨c, hcc⟩ : ∃ c, (⟨#[48, 49, 50, 51, 52, 53, 54, 55, 56, 57, 48, 49, 50, 51, 52, 53, 54, 55, 56, 57, 45, 43, 47, 58]⟩ : ByteArray)[(x % 24).toNat]'hi = c := ⟨_, rfl⟩
      go_wp2_with (at_builtin; refine wpList_push_byte rfl (.tmp 25) (.tmp 33) rfl w.heap.size _ l c (c.toNat : Int) wr.heap.size 1 rfl rfl (hown.alloc _) ?c1 ?c2 ?c3 ?c4 ?_)
      case c1 => rw [World.cell?_alloc_mark]; rfl
      case c2 => rfl
      case c3 => omega
      case c4 => have := hbel.size; simp; omega
      intro v' w1 hown' hgrow
      have hbel' : Below w.heap.size w w1 := (hbel.alloc hbel.size _).grown hgrow (by have := hbel.size; simp; omega) (hown.size)
      clear hown hgrow hbel hcx hcx' hcell
      go_wp2
      go_roundw
      case rel => exact ⟨k + 1, _, by omega, by go_num, hown', by simp; omega, hbel'⟩
      case measure => simp [intOf]; omega
    · have ht := hown.text
      obtain ⟨s, hs⟩ : ∃ s : ByteArray, s = ⟨l.toArray⟩ := ⟨_, rfl⟩
      rw [← hs] at ht
      have hsz : s.size ≤ maxLen := by
        have : s.size = l.length := by rw [hs]; rfl
        unfold maxLen; omega
      obtain ⟨⟨P, ok⟩, h1, h2⟩ := readers_agree s hsz
      clear hs hcell hown
      go_wp2_with (first | (go_at_call 15; refine (h1 _).mono ?_; rintro e w' ⟨rfl, rfl⟩) | (go_at_call 16; refine (h2 _).mono ?_; rintro e w' ⟨rfl, rfl⟩))
      go_ret
      exact ⟨rfl, hbel⟩

set_option maxHeartbeats 4000000 in
theorem EText_true (b off len cap : Nat) (w : World) (hm : len ≤ 1024) (hb : b < w.heap.size)
    (hcell : ∀ j, j < len → ∃ x : Int, 0 ≤ x ∧ x ≤ 255 ∧ w.cell? ⟨b, off + j, none⟩ = some (.int .u8 x)) :
    Calls Ybxm.prog 3 #[.bool true, .slice (some ⟨b, off, none⟩) len cap] w fun e w' => e = .returned (.bool true) ∧ Below w.heap.size w w' := by
  have hl : ¬ ((1024 : Int) < (len : Int)) := by omega
  go_enter Ybxm.func3, Ybxm.ntmps3
  go_wp2_with (at_builtin; refine wpList_push_byte rfl (.tmp 16) (.tmp 17) rfl w.heap.size _ [] 45 45 w.heap.size 1 rfl rfl ((OwnB.nil _ _).alloc _) ?d1 ?d2 ?d3 ?d4 ?_)
  intro v0 w0 hown0 hgrow0
  have hbel0 : Below w.heap.size w w0 := ((Below.refl _ _).alloc (Nat.le_refl _) _).grown hgrow0 (by simp) (by intro k hk; simp [Value.ownBlock] at hk)
  clear hgrow0
  go_wp2
  go_loopw [5, 6] (fun v i wr => ∃ (k : Nat) (l : List UInt8), k ≤ len ∧ i = .int .i64 k ∧ OwnB w.heap.size wr v l ∧ l.length ≤ k + 1 ∧ Below w.heap.size w wr) (fun _ i _ => len - (intOf i).toNat)
  case atStart => exact ⟨0, _, by omega, rfl, hown0, by simp, hbel0⟩
  case round =>
    obtain ⟨k, l, hk, rfl, hown, hll, hbel⟩ := hrel
    by_cases hlt : k < len
    · obtain ⟨x, hx0, hx1, hcx⟩ := hcell k hlt
      have hcx' : wr.cell? ⟨b, off + k, none⟩ = some (.int .u8 x) := (hbel.cell (p := ⟨b, off + k, none⟩) hb).trans hcx
      have hi : (x % 24).toNat < (⟨#[48, 49, 50, 51, 52, 53, 54, 55, 56, 57, 48, 49, 50, 51, 52, 53, 54, 55, 56, 57, 45, 43, 47, 58]⟩ : ByteArray).size := by show _ < 24; omega
      obtain ⟨c, hcc⟩ : ∃ c, (⟨#[48, 49, 50, 51, 52, 53, 54, 55, 56, 57, 48, 49, 50, 51, 52, 53, 54, 55, 56, 57, 45, 43, 47, 58]⟩ : ByteArray)[(x % 24).toNat]'hi = c := ⟨_, rfl⟩
      go_wp2_with (at_builtin; refine wpList_push_byte rfl (.tmp 25) (.tmp 33) rfl w.heap.size _ l c (c.toNat : Int) wr.heap.size 1 rfl rfl (hown.alloc _) ?c1 ?c2 ?c3 ?c4 ?_)
      case c1 => rw [World.cell?_alloc_mark]; rfl
      case c2 => rfl
      case c3 => omega
      case c4 => have := hbel.size; simp; omega
      intro v' w1 hown' hgrow
      have hbel' : Below w.heap.size w w1 := (hbel.alloc hbel.size _).grown hgrow (by have := hbel.size; simp; omega) (hown.size)
      clear hown hgrow hbel hcx hcx' hcell
      go_wp2
      go_roundw
      case rel => exact ⟨k + 1, _, by omega, by go_num, hown', by simp; omega, hbel'⟩
      case measure => simp [intOf]; omega
    · have ht := hown.text
      obtain ⟨s, hs⟩ : ∃ s : ByteArray, s = ⟨l.toArray⟩ := ⟨_, rfl⟩
      rw [← hs] at ht
      have hsz : s.size ≤ maxLen := by
        have : s.size = l.length := by rw [hs]; rfl
        unfold maxLen; omega
      obtain ⟨⟨P, ok⟩, h1, h2⟩ := readers_agree s hsz
      clear hs hcell hown
      go_wp2_with (first | (go_at_call 15; refine (h1 _).mono ?_; rintro e w' ⟨rfl, rfl⟩) | (go_at_call 16; refine (h2 _).mono ?_; rintro e w' ⟨rfl, rfl⟩))
      go_ret
      exact ⟨rfl, hbel⟩

set_option maxHeartbeats 4000000 in
theorem EText_nil (neg : Bool) (a : Option Addr) (cap : Nat) (w : World) :
    Calls Ybxm.prog 3 #[.bool neg, .slice a 0 cap] w fun e w' => e = .returned (.bool true) ∧ Below w.heap.size w w' := by
  cases neg with
  | false =>
    have ht := (OwnB.nil w.heap.size w).text
    obtain ⟨s, hs⟩ : ∃ s : ByteArray, s = ⟨([] : List UInt8).toArray⟩ := ⟨_, rfl⟩
    rw [← hs] at ht
    have hsz : s.size ≤ maxLen := by rw [hs]; decide
    obtain ⟨⟨P, ok⟩, h1, h2⟩ := readers_agree s hsz
    clear hs
    go_enter Ybxm.func3, Ybxm.ntmps3
    go_wp2
    refine wp_loop_rounds 1 ?_
    rw [rounds_succ]
    go_wp2_with (first | (go_at_call 15; refine (h1 _).mono ?_; rintro e w' ⟨rfl, rfl⟩) | (go_at_call 16; refine (h2 _).mono ?_; rintro e w' ⟨rfl, rfl⟩))
    go_ret
    exact ⟨rfl, Below.refl _ _⟩
  | true =>
    go_enter Ybxm.func3, Ybxm.ntmps3
    go_wp2_with (at_builtin; refine wpList_push_byte rfl (.tmp 16) (.tmp 17) rfl w.heap.size _ [] 45 45 w.heap.size 1 rfl rfl ((OwnB.nil _ _).alloc _) ?d1 ?d2 ?d3 ?d4 ?_)
    case d1 => rw [World.cell?_alloc_mark]; rfl
    case d2 => rfl
    case d3 => decide
    case d4 => simp
    intro v0 w0 hown0 hgrow0
    have hbel0 : Below w.heap.size w w0 := ((Below.refl _ _).alloc (Nat.le_refl _) _).grown hgrow0 (by simp) (by intro k hk; simp [Value.ownBlock] at hk)
    have ht := hown0.text
    obtain ⟨s, hs⟩ : ∃ s : ByteArray, s = ⟨#[45]⟩ := ⟨_, rfl⟩
    rw [← hs] at ht
    have hsz : s.size ≤ maxLen := by rw [hs]; decide
    obtain ⟨⟨P, ok⟩, h1, h2⟩ := readers_agree s hsz
    clear hs hgrow0 hown0
    go_wp2
    refine wp_loop_rounds 1 ?_
    rw [rounds_succ]
    go_wp2_with (first | (go_at_call 15; refine (h1 _).mono ?_; rintro e w' ⟨rfl, rfl⟩) | (go_at_call 16; refine (h2 _).mono ?_; rintro e w' ⟨rfl, rfl⟩))
    go_ret
    exact ⟨rfl, hbel0⟩

set_option maxHeartbeats 4000000 in
theorem EText_walk (neg : Bool) (a1 : Option Addr) (len cap : Nat) (z1 : List Int) (w : World) (w1 : IsRow .u8 w a1 len cap z1) :
    Calls Ybxm.prog 3 #[.bool neg, .slice a1 len cap] w fun e w' => e = .returned (.bool true) ∧ Below w.heap.size w w' := by
  obtain ⟨hm, hv⟩ := w1.view
  by_cases hl : (1024 : Int) < (len : Int)
  · unfold maxLen at hm
    clear hv w1
    go_enter Ybxm.func3, Ybxm.ntmps3
    go_wp2
    go_ret
    exact ⟨rfl, Below.refl _ _⟩
  · rcases hv with rfl | ⟨b, off, rfl, hb, hc⟩
    · exact EText_nil neg a1 cap w
    · have hcell : ∀ j, j < len → ∃ x : Int, 0 ≤ x ∧ x ≤ 255 ∧ w.cell? ⟨b, off + j, none⟩ = some (.int .u8 x) := fun j hj =>
        ⟨_, (bounds_u8 (hc j hj).2).1, (bounds_u8 (hc j hj).2).2, (hc j hj).1⟩
      cases neg with
      | true => exact EText_true b off len cap w (by omega) hb hcell
      | false => exact EText_false b off len cap w (by omega) hb hcell
end Go.Proofs.Ymbrbx

import Derived.Test.YmbrbwFields
namespace Go.Proofs.Ymbrbw
open Go.ChangeShapes Go.WideShapes Go.ChangeAt Go.RowKit
set_option linter.unusedVariables false
set_option linter.unusedSimpArgs false

/-! ### What holds at each place of the scan: the fields before q are done; blanks to st; from st to i no blank -/
structure Scan (s : ByteArray) (i q st : Nat) (out : List (List UInt8)) : Prop where
  qst : q ≤ st
  sti : st ≤ i
  isz : i ≤ s.size
  blanks : ∀ j, q ≤ j → j < st → bk s j = true
  field : ∀ j, st ≤ j → j < i → bk s j = false
  all : fields s.data.toList = out ++ fields (s.data.toList.drop q)
  few : out.length ≤ q
theorem Scan.start (s : ByteArray) : Scan s 0 0 0 [] := ⟨by omega, by omega, by omega, fun j _ _ => by omega, fun j _ _ => by omega, by rw [List.drop_zero]; rfl, by simp⟩
/-- a blank outside a field -/
theorem Scan.blank {s : ByteArray} {i q : Nat} {out : List (List UInt8)} (h : Scan s i q i out) (hi : i < s.size) (hb : bk s i = true) : Scan s (i + 1) q (i + 1) out :=
  ⟨by have := h.qst; omega, by omega, by omega, fun j h1 h2 => by
    by_cases hj : j = i
    · rw [hj]; exact hb
    · exact h.blanks j h1 (by omega), fun j _ _ => by omega, h.all, h.few⟩
/-- no blank -/
theorem Scan.goes {s : ByteArray} {i q st : Nat} {out : List (List UInt8)} (h : Scan s i q st out) (hi : i < s.size) (hb : bk s i = false) : Scan s (i + 1) q st out :=
  ⟨h.qst, by have := h.sti; omega, by omega, h.blanks, fun j h1 h2 => by
    by_cases hj : j = i
    · rw [hj]; exact hb
    · exact h.field j h1 (by omega), h.all, h.few⟩
/-- the field ends at i -/
theorem Scan.ends {s : ByteArray} {i q st : Nat} {out : List (List UInt8)} (h : Scan s i q st out) (hst : st < i) (he : i = s.size ∨ bk s i = true) :
    fields s.data.toList = (out ++ [seg s st i]) ++ fields (s.data.toList.drop i) ∧ (out ++ [seg s st i]).length ≤ i := by
  have hc := cut_at s q st i h.qst hst h.isz h.blanks h.field he
  have hne : (cutF (s.data.toList.drop q)).1 ≠ [] := by
    rw [hc]
    intro h0
    have := congrArg List.length h0
    rw [seg_len s st i h.isz] at this
    simp only [List.length_nil] at this
    omega
  constructor
  · rw [h.all, fields_some _ hne, hc]
    simp
  · rw [List.length_append, List.length_singleton]
    have := h.few
    have := h.qst
    omega
theorem Scan.cut {s : ByteArray} {i q st : Nat} {out : List (List UInt8)} (h : Scan s i q st out) (hst : st < i) (hi : i < s.size) (hb : bk s i = true) : Scan s (i + 1) i (i + 1) (out ++ [seg s st i]) := by
  obtain ⟨h1, h2⟩ := h.ends hst (.inr hb)
  exact ⟨by omega, by omega, by omega, fun j h1 h2 => by rw [show j = i from by omega]; exact hb, fun j _ _ => by omega, h1, h2⟩
theorem Scan.last {s : ByteArray} {q st : Nat} {out : List (List UInt8)} (h : Scan s s.size q st out) (hst : st < s.size) : fields s.data.toList = out ++ [seg s st s.size] := by
  have h1 := (h.ends hst (.inl rfl)).1
  rw [drop_all] at h1
  rw [h1, fields_none [] rfl, List.append_nil]
theorem Scan.none {s : ByteArray} {q : Nat} {out : List (List UInt8)} (h : Scan s s.size q s.size out) : fields s.data.toList = out := by
  have h1 := cut_none s q h.qst h.blanks
  rw [h.all, fields_none _ (by rw [h1]), List.append_nil]

set_option maxRecDepth 100000 in
set_option maxHeartbeats 8000000 in
theorem bfields_any (s : ByteArray) (w : World) (hs : s.size ≤ 100000) :
    Calls Ybwm.prog 35 #[.string s] w fun e w' => ∃ v, e = .returned v ∧ OwnS w.heap.size w' v (fields s.data.toList) ∧ Below w.heap.size w w' := by
  go_enter Ybwm.func35, Ybwm.ntmps35
  go_wp2
  go_loopw [3, 4, 5] (fun v x i wr => ∃ (k q st : Nat) (out : List (List UInt8)), i = .int .i64 k ∧ Hid (Scan s k q st out) ∧ k ≤ s.size ∧ ((st = k ∧ x = .int .i64 (-1)) ∨ (st < k ∧ x = .int .i64 st)) ∧ OwnS w.heap.size wr v out ∧ Below w.heap.size w wr) (fun _ _ i _ => s.size - (intOf i).toNat)
  case atStart => exact ⟨0, 0, 0, [], rfl, Scan.start s, by omega, .inl ⟨rfl, rfl⟩, OwnS.nil _ _, Below.refl _ _⟩
  case round =>
    obtain ⟨k, q, st, out, rfl, HS, hk, hx, hown, hbel⟩ := hrel
    have hfew : out.length < 1000000 := by have := HS.out.few; have := HS.out.qst; have := HS.out.sti; omega
    have hsz := hbel.size
    by_cases hlt : k < s.size
    · have hbi := bk_at s k hlt
      cases hv : bk s k with
      | true =>
        rw [hv] at hbi
        have hbi' := blk_int _ hbi
        clear hbi
        rcases hx with ⟨rfl, rfl⟩ | ⟨hst, rfl⟩
        · have HS' : Hid (Scan s (st + 1) q (st + 1) out) := HS.out.blank hlt hv
          by_cases h32 : (s[st].toNat : Int) = 32
          · have q1 : ((s[st].toNat : Int) == 32) = true := int_eq h32
            clear h32 hbi' hv
            go_wp2
            go_roundw
            case rel => exact ⟨st + 1, q, st + 1, out, by go_num, HS', by omega, .inl ⟨rfl, rfl⟩, hown, hbel⟩
            case measure => simp [intOf]; omega
          · have q1 : ((s[st].toNat : Int) == 32) = false := int_ne h32
            have q2 : ((s[st].toNat : Int) == 9) = true := int_eq (by omega)
            clear h32 hbi' hv
            go_wp2
            go_roundw
            case rel => exact ⟨st + 1, q, st + 1, out, by go_num, HS', by omega, .inl ⟨rfl, rfl⟩, hown, hbel⟩
            case measure => simp [intOf]; omega
        · have HS' : Hid (Scan s (k + 1) k (k + 1) (out ++ [seg s st k])) := HS.out.cut hst hlt hv
          have hcut : (s.extract st k).data.toList = seg s st k := cut_seg s st k hk
          obtain ⟨t, ht⟩ : ∃ t : ByteArray, t = s.extract st k := ⟨_, rfl⟩
          rw [← ht] at hcut
          have hsl : (Instr.slice 9 (.string s) (some (.int .i64 (st : Int))) (some (.int .i64 (k : Int))) none).run Ybwm.prog wr = .ok (.string t) wr := by
            rw [run_slice_string wr 9 s .i64 .i64 (st : Int) (k : Int) Ybwm.underlying9 (by omega) (by omega) (by omega), ht]
            rfl
          have HC : Hid (t.data.toList = seg s st k) := hcut
          have hst0 : (0 : Int) ≤ (st : Int) := by omega
          clear hcut ht
          by_cases h32 : (s[k].toNat : Int) = 32
          · have q1 : ((s[k].toNat : Int) == 32) = true := int_eq h32
            clear h32 hbi' hv
            go_wp2_with (at_builtin; refine wpList_push_str rfl (.tmp 28) (.tmp 33) rfl w.heap.size _ out t wr.heap.size 1 rfl rfl (hown.alloc _) (alloc_first _ _ _) hfew (alloc_le hsz _) ?_)
            intro v' w1 hown' hgrow
            have hbel' : Below w.heap.size w w1 := (hbel.alloc hsz _).grown hgrow (alloc_le hsz _) hown.size
            rw [HC.out] at hown'
            clear hown hgrow hbel hsl
            go_wp2
            go_roundw
            case rel => exact ⟨k + 1, k, k + 1, _, by go_num, HS', by omega, .inl ⟨rfl, rfl⟩, hown', hbel'⟩
            case measure => simp [intOf]; omega
          · have q1 : ((s[k].toNat : Int) == 32) = false := int_ne h32
            have q2 : ((s[k].toNat : Int) == 9) = true := int_eq (by omega)
            clear h32 hbi' hv
            go_wp2_with (at_builtin; refine wpList_push_str rfl (.tmp 28) (.tmp 33) rfl w.heap.size _ out t wr.heap.size 1 rfl rfl (hown.alloc _) (alloc_first _ _ _) hfew (alloc_le hsz _) ?_)
            intro v' w1 hown' hgrow
            have hbel' : Below w.heap.size w w1 := (hbel.alloc hsz _).grown hgrow (alloc_le hsz _) hown.size
            rw [HC.out] at hown'
            clear hown hgrow hbel hsl
            go_wp2
            go_roundw
            case rel => exact ⟨k + 1, k, k + 1, _, by go_num, HS', by omega, .inl ⟨rfl, rfl⟩, hown', hbel'⟩
            case measure => simp [intOf]; omega
      | false =>
        rw [hv] at hbi
        have hbi' := nbk_int _ hbi
        have q1 : ((s[k].toNat : Int) == 32) = false := int_ne hbi'.1
        have q2 : ((s[k].toNat : Int) == 9) = false := int_ne hbi'.2
        clear hbi hbi'
        have HS' : Hid (Scan s (k + 1) q st out) := HS.out.goes hlt hv
        clear hv
        rcases hx with ⟨hst, rfl⟩ | ⟨hst, rfl⟩
        · subst hst
          go_wp2
          go_roundw
          case rel => exact ⟨st + 1, q, st, out, by go_num, HS', by omega, .inr ⟨by omega, rfl⟩, hown, hbel⟩
          case measure => simp [intOf]; omega
        · have hst0 : (0 : Int) ≤ (st : Int) := by omega
          go_wp2
          go_roundw
          case rel => exact ⟨k + 1, q, st, out, by go_num, HS', by omega, .inr ⟨by omega, rfl⟩, hown, hbel⟩
          case measure => simp [intOf]; omega
    · obtain rfl : k = s.size := by omega
      rcases hx with ⟨hst, rfl⟩ | ⟨hst, rfl⟩
      · subst hst
        have e : Hid (fields s.data.toList = out) := HS.out.none
        go_wp2
        go_ret
        exact ⟨_, rfl, by rw [e.out]; exact hown, hbel⟩
      · have e : Hid (fields s.data.toList = out ++ [seg s st s.size]) := HS.out.last hst
        have hcut : (s.extract st s.size).data.toList = seg s st s.size := cut_seg s st s.size (Nat.le_refl _)
        obtain ⟨t, ht⟩ : ∃ t : ByteArray, t = s.extract st s.size := ⟨_, rfl⟩
        rw [← ht] at hcut
        have hsl : (Instr.slice 9 (.string s) (some (.int .i64 (st : Int))) none none).run Ybwm.prog wr = .ok (.string t) wr := by
          rw [run_slice_string_from_if wr 9 s .i64 (st : Int) Ybwm.underlying9, if_pos (by omega), ht]
          rfl
        have HC : Hid (t.data.toList = seg s st s.size) := hcut
        have hst0 : (0 : Int) ≤ (st : Int) := by omega
        clear hcut ht
        go_wp2_with (at_builtin; refine wpList_push_str rfl (.tmp 44) (.tmp 48) rfl w.heap.size _ out t wr.heap.size 1 rfl rfl (hown.alloc _) (alloc_first _ _ _) hfew (alloc_le hsz _) ?_)
        intro v' w1 hown' hgrow
        have hbel' : Below w.heap.size w w1 := (hbel.alloc hsz _).grown hgrow (alloc_le hsz _) hown.size
        rw [HC.out] at hown'
        clear hown hgrow hbel hsl
        go_wp2
        go_ret
        exact ⟨_, rfl, by rw [e.out]; exact hown', hbel'⟩
end Go.Proofs.Ymbrbw

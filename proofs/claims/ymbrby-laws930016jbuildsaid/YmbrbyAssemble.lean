import Derived.Test.YmbrbyOwnProg
import Derived.Test.YmbrbyParseLine
import Derived.Test.YmbrbyCutAll
namespace Go.Proofs.Ymbrby
open Go.ChangeShapes Go.WideShapes Go.ChangeAt Go.RowKit
set_option linter.unusedVariables false
set_option linter.unusedSimpArgs false

/-! ### The lines of a text, and what Assemble makes of them -/
def onto (c : List UInt8) : List (List UInt8) → List (List UInt8)
  | [] => [c]
  | h :: r => (c ++ h) :: r
def linesOf : List UInt8 → List (List UInt8)
  | [] => [[]]
  | c :: t => if c = 10 then [] :: linesOf t else onto [c] (linesOf t)
def asmLs : List (List UInt8) → Int → List (Int × Int) → List (Int × Int) × Int
  | [], _, acc => (acc, 0)
  | h :: t, n, acc => if (parseL h).2.2 = 2 then ([], n) else asmLs t (n + 1) (if (parseL h).2.2 = 1 then acc ++ [((parseL h).1, (parseL h).2.1)] else acc)
def asmT (l : List UInt8) : List (Int × Int) × Int := asmLs (linesOf l) 1 []

theorem parseL_kind (l : List UInt8) : (parseL l).2.2 = 0 ∨ (parseL l).2.2 = 1 ∨ (parseL l).2.2 = 2 := by
  unfold parseL
  repeat' split
  all_goals first | exact .inl rfl | exact .inr (.inl rfl) | exact .inr (.inr rfl)
theorem linesOf_ne (l : List UInt8) : linesOf l ≠ [] := by
  cases l with
  | nil => intro h; cases h
  | cons c t =>
    intro h
    unfold linesOf at h
    split at h
    · cases h
    · cases hl : linesOf t with
      | nil => rw [hl] at h; cases h
      | cons a b => rw [hl] at h; cases h
theorem onto_nil {L : List (List UInt8)} (h : L ≠ []) : onto [] L = L := by
  cases L with
  | nil => exact absurd rfl h
  | cons a b => rfl
theorem onto_onto (a b : List UInt8) (L : List (List UInt8)) : onto a (onto b L) = onto (a ++ b) L := by
  cases L with
  | nil => rfl
  | cons h r => show (a ++ (b ++ h)) :: r = _; rw [← List.append_assoc]; rfl
def remL (s : ByteArray) (st i : Nat) : List (List UInt8) := if i ≤ s.size then onto (seg s st i) (linesOf (s.data.toList.drop i)) else []
theorem remL_goes (s : ByteArray) (st i : Nat) (hst : st ≤ i) (hi : i < s.size) (hc : ¬ s[i] = 10) : remL s st i = remL s st (i + 1) := by
  unfold remL
  rw [if_pos (by omega), if_pos (by omega), drop_at s i hi, seg_step s st i hst hi]
  show onto _ (if s[i] = 10 then _ else _) = _
  rw [if_neg hc, onto_onto]
theorem remL_cut (s : ByteArray) (st i : Nat) (h : i = s.size ∨ ∃ hi : i < s.size, s[i] = 10) : remL s st i = seg s st i :: remL s (i + 1) (i + 1) := by
  rcases h with rfl | ⟨hi, hc⟩
  · unfold remL
    rw [if_pos (by omega), if_neg (by omega), drop_all]
    show [seg s st s.size ++ []] = _
    rw [List.append_nil]
  · unfold remL
    rw [if_pos (by omega), if_pos (by omega), drop_at s i hi, seg_start, onto_nil (linesOf_ne _)]
    show onto _ (if s[i] = 10 then _ else _) = _
    rw [if_pos hc]
    show (seg s st i ++ []) :: _ = _
    rw [List.append_nil]
theorem remL_start (s : ByteArray) : remL s 0 0 = linesOf s.data.toList := by
  unfold remL
  rw [if_pos (by omega), seg_start, onto_nil (linesOf_ne _)]
  rfl

theorem OwnP.below {base : Nat} {w w' : World} {v : Value} {P : List (Int × Int)} (h : OwnP base w v P) (hb : Below w.heap.size w w') : OwnP base w' v P :=
  World.ownsRow.kept (row := none) h ⟨hb.os, hb.tape, hb.output, hb.size, fun j hj _ => hb.block j hj⟩ (by cases hv : v.ownBlock <;> simp)
theorem alloc_two (w : World) (u v : Value) (t : TypeId) : (w.alloc (.cells #[u, v] t)).cell? ⟨w.heap.size, 0, none⟩ = some u ∧ (w.alloc (.cells #[u, v] t)).cell? ⟨w.heap.size, 1, none⟩ = some v := by
  rw [World.cell?_alloc_mark, World.cell?_alloc_mark]
  exact ⟨rfl, rfl⟩
set_option maxRecDepth 100000 in
set_option maxHeartbeats 8000000 in
theorem assemble_any (s : ByteArray) (w : World) (hs : s.size ≤ 100000) :
    Calls Ybym.prog 19 #[.string s] w fun e w' => ∃ v, e = .returned (.tuple #[v, .int .i64 (asmT s.data.toList).2]) ∧ OwnP w.heap.size w' v (asmT s.data.toList).1 ∧ Below w.heap.size w w' ∧ ((asmT s.data.toList).2 ≠ 0 → v = .slice none 0 0) := by
  obtain ⟨R, hR⟩ : ∃ R, R = asmT s.data.toList := ⟨_, rfl⟩
  rw [← hR]
  have HR0 : Hid (R = asmLs (remL s 0 0) 1 []) := by show _ = _; rw [hR, remL_start]; rfl
  clear hR
  go_enter Ybym.func19, Ybym.ntmps19
  go_wp2
  go_loopw [2, 4, 5, 6] (fun v x y i wr => ∃ (k st ln : Nat) (acc : List (Int × Int)), i = .int .i64 k ∧ x = .int .i64 st ∧ y = .int .i64 ln ∧ st ≤ k ∧ ln ≤ k + 1 ∧ 1 ≤ ln ∧ acc.length ≤ k ∧ k ≤ s.size + 1 ∧ (k = s.size + 1 → st = k) ∧ Hid (R = asmLs (remL s st k) ln acc) ∧ OwnP w.heap.size wr v acc ∧ Below w.heap.size w wr) (fun _ _ _ i _ => s.size + 1 - (intOf i).toNat)
  case atStart => exact ⟨0, 0, 1, [], rfl, rfl, rfl, by omega, by omega, by omega, by simp, by omega, by omega, HR0, OwnP.nil _ _, Below.refl _ _⟩
  case round =>
    obtain ⟨k, st, ln, acc, rfl, rfl, rfl, hst, hln, hln1, hacc, hk, hend, HR, hown, hbel⟩ := hrel
    clear HR0
    have hsz := hbel.size
    by_cases hlt : k ≤ s.size
    · by_cases hgo : ∃ hi : k < s.size, ¬ s[k] = 10
      · obtain ⟨hi, hc⟩ := hgo
        have HR' : Hid (R = asmLs (remL s st (k + 1)) ln acc) := by show _ = _; rw [← remL_goes s st k hst hi hc]; exact HR.out
        have q10 : ((s[k].toNat : Int) == 10) = false := int_ne (fun h => hc (UInt8.toNat.inj (by show _ = 10; omega)))
        clear hc HR hend
        go_wp2
        go_roundw
        case rel => exact ⟨k + 1, st, ln, acc, by go_num, rfl, rfl, by omega, by omega, by omega, by omega, by omega, by omega, HR', hown, hbel⟩
        case measure => simp [intOf]; omega
      · have he : k = s.size ∨ ∃ hi : k < s.size, s[k] = 10 := by
          by_cases hi : k < s.size
          · refine .inr ⟨hi, ?_⟩
            by_cases hc : s[k] = 10
            · exact hc
            · exact absurd ⟨hi, hc⟩ hgo
          · exact .inl (by omega)
        clear hgo hend
        have hcut : (s.extract st k).data.toList = seg s st k := cut_seg s st k hlt
        obtain ⟨t, ht⟩ : ∃ t : ByteArray, t = s.extract st k := ⟨_, rfl⟩
        rw [← ht] at hcut
        have hsl : (Instr.slice 9 (.string s) (some (.int .i64 (st : Int))) (some (.int .i64 (k : Int))) none).run Ybym.prog wr = .ok (.string t) wr := by
          rw [run_slice_string wr 9 s .i64 .i64 (st : Int) (k : Int) Ybym.underlying9 (by omega) (by omega) (by omega), ht]
          rfl
        have htl : t.size ≤ maxLen := by
          have h1 := congrArg List.length hcut
          rw [seg_len s st k hlt] at h1
          have h2 : t.data.toList.length = t.size := rfl
          unfold maxLen
          omega
        have hPL := fun w' => parseLine_any t w' htl
        rw [hcut] at hPL
        have hkind := parseL_kind (seg s st k)
        have HR' := HR.out
        rw [remL_cut s st k he] at HR'
        unfold asmLs at HR'
        obtain ⟨op, hop⟩ : ∃ op, op = (parseL (seg s st k)).1 := ⟨_, rfl⟩
        obtain ⟨arg, harg⟩ : ∃ arg, arg = (parseL (seg s st k)).2.1 := ⟨_, rfl⟩
        obtain ⟨kd, hkd⟩ : ∃ kd, kd = (parseL (seg s st k)).2.2 := ⟨_, rfl⟩
        rw [← hop, ← harg, ← hkd] at hPL
        rw [← hop, ← harg, ← hkd] at HR'
        rw [← hkd] at hkind
        clear hop harg hkd hcut ht HR htl
        have hst0 : (0 : Int) ≤ (st : Int) := by omega
        rcases hkind with rfl | rfl | rfl
        · rw [if_neg (by omega), if_neg (by omega)] at HR'
          have HR2 : Hid (R = asmLs (remL s (k + 1) (k + 1)) ((ln + 1 : Nat) : Int) acc) := by show _ = _; rw [HR']; rfl
          clear HR'
          rcases he with rfl | ⟨hi, hc⟩
          · go_wp2_with fail
            refine (hPL _).mono ?_
            rintro e w2 ⟨rfl, hb2⟩
            have hsz2 := Nat.le_trans hsz hb2.size
            have hown2 := (hown.below hb2).alloc (.cells #[.int .u8 op, .int .i32 arg] 25)
            have hbel2 := (hbel.trans (hb2.mono hsz)).alloc hsz2 (.cells #[.int .u8 op, .int .i32 arg] 25)
            clear hb2 hown hbel hsl hPL
            go_wp2
            go_roundw
            case rel => exact ⟨s.size + 1, s.size + 1, ln + 1, acc, by go_num, by go_num, by go_num, by omega, by omega, by omega, by omega, by omega, fun _ => rfl, HR2, hown2, hbel2⟩
            case measure => simp [intOf]
          · have q10 : ((s[k].toNat : Int) == 10) = true := int_eq (by rw [hc]; rfl)
            clear hc
            go_wp2_with fail
            refine (hPL _).mono ?_
            rintro e w2 ⟨rfl, hb2⟩
            have hsz2 := Nat.le_trans hsz hb2.size
            have hown2 := (hown.below hb2).alloc (.cells #[.int .u8 op, .int .i32 arg] 25)
            have hbel2 := (hbel.trans (hb2.mono hsz)).alloc hsz2 (.cells #[.int .u8 op, .int .i32 arg] 25)
            clear hb2 hown hbel hsl hPL
            go_wp2
            go_roundw
            case rel => exact ⟨k + 1, k + 1, ln + 1, acc, by go_num, by go_num, by go_num, by omega, by omega, by omega, by omega, by omega, fun _ => rfl, HR2, hown2, hbel2⟩
            case measure => simp [intOf]; omega
        · rw [if_neg (by omega), if_pos rfl] at HR'
          have HR2 : Hid (R = asmLs (remL s (k + 1) (k + 1)) ((ln + 1 : Nat) : Int) (acc ++ [(op, arg)])) := by show _ = _; rw [HR']; rfl
          clear HR'
          rcases he with rfl | ⟨hi, hc⟩
          · go_wp2_with fail
            refine (hPL _).mono ?_
            rintro e w2 ⟨rfl, hb2⟩
            have hsz2 := Nat.le_trans hsz hb2.size
            have hown2 := (hown.below hb2).alloc (.cells #[.int .u8 op, .int .i32 arg] 25)
            have hsz3 := alloc_le hsz2 (.cells #[.int .u8 op, .int .i32 arg] 25)
            have hbel2 := (hbel.trans (hb2.mono hsz)).alloc hsz2 (.cells #[.int .u8 op, .int .i32 arg] 25)
            have hp := alloc_two (w2.alloc (.cells #[.int .u8 op, .int .i32 arg] 25)) (.int .u8 op) (.int .i32 arg) 25
            rw [show (w2.alloc (.cells #[.int .u8 op, .int .i32 arg] 25)).heap.size = w2.heap.size + 1 from by show (w2.heap.push _).size = _; rw [Array.size_push]] at hp
            have hsr := hown.size
            clear hb2 hown hbel hsl hPL
            go_wp2_with (at_builtin; refine wpList_push_instr rfl (.tmp 38) (.tmp 40) rfl w.heap.size _ acc op arg (w2.heap.size + 1) 1 rfl (by first | rfl | simp [Act.eval, Act.put]) (hown2.alloc _) hp.1 hp.2 (by omega) (alloc_le hsz3 _) ?_)
            intro v' w3 hown' hgrow
            have hbel' : Below w.heap.size w w3 := (hbel2.alloc hsz3 _).grown hgrow (alloc_le hsz3 _) hsr
            clear hown2 hgrow hbel2 hp
            go_wp2
            go_roundw
            case rel => exact ⟨s.size + 1, s.size + 1, ln + 1, _, by go_num, by go_num, by go_num, by omega, by omega, by omega, by rw [List.length_append, List.length_singleton]; omega, by omega, fun _ => rfl, HR2, hown', hbel'⟩
            case measure => simp [intOf]
          · have q10 : ((s[k].toNat : Int) == 10) = true := int_eq (by rw [hc]; rfl)
            clear hc
            go_wp2_with fail
            refine (hPL _).mono ?_
            rintro e w2 ⟨rfl, hb2⟩
            have hsz2 := Nat.le_trans hsz hb2.size
            have hown2 := (hown.below hb2).alloc (.cells #[.int .u8 op, .int .i32 arg] 25)
            have hsz3 := alloc_le hsz2 (.cells #[.int .u8 op, .int .i32 arg] 25)
            have hbel2 := (hbel.trans (hb2.mono hsz)).alloc hsz2 (.cells #[.int .u8 op, .int .i32 arg] 25)
            have hp := alloc_two (w2.alloc (.cells #[.int .u8 op, .int .i32 arg] 25)) (.int .u8 op) (.int .i32 arg) 25
            rw [show (w2.alloc (.cells #[.int .u8 op, .int .i32 arg] 25)).heap.size = w2.heap.size + 1 from by show (w2.heap.push _).size = _; rw [Array.size_push]] at hp
            have hsr := hown.size
            clear hb2 hown hbel hsl hPL
            go_wp2_with (at_builtin; refine wpList_push_instr rfl (.tmp 38) (.tmp 40) rfl w.heap.size _ acc op arg (w2.heap.size + 1) 1 rfl (by first | rfl | simp [Act.eval, Act.put]) (hown2.alloc _) hp.1 hp.2 (by omega) (alloc_le hsz3 _) ?_)
            intro v' w3 hown' hgrow
            have hbel' : Below w.heap.size w w3 := (hbel2.alloc hsz3 _).grown hgrow (alloc_le hsz3 _) hsr
            clear hown2 hgrow hbel2 hp
            go_wp2
            go_roundw
            case rel => exact ⟨k + 1, k + 1, ln + 1, _, by go_num, by go_num, by go_num, by omega, by omega, by omega, by rw [List.length_append, List.length_singleton]; omega, by omega, fun _ => rfl, HR2, hown', hbel'⟩
            case measure => simp [intOf]; omega
        · rw [if_pos rfl] at HR'
          have HR2 : Hid (R = ([], (ln : Int))) := HR'
          clear HR'
          rcases he with rfl | ⟨hi, hc⟩
          · go_wp2_with fail
            refine (hPL _).mono ?_
            rintro e w2 ⟨rfl, hb2⟩
            have hsz2 := Nat.le_trans hsz hb2.size
            have hbel2 := (hbel.trans (hb2.mono hsz)).alloc hsz2 (.cells #[.int .u8 op, .int .i32 arg] 25)
            clear hb2 hown hbel hsl hPL
            go_wp2
            refine bodyPost_ret (v := .tuple #[.slice none 0 0, .int .i64 ln]) (by simp [results, Ybym.results19, go_sem]) rfl ?_
            rw [HR2.out]
            exact ⟨_, rfl, OwnP.nil _ _, hbel2, fun _ => rfl⟩
          · have q10 : ((s[k].toNat : Int) == 10) = true := int_eq (by rw [hc]; rfl)
            clear hc
            go_wp2_with fail
            refine (hPL _).mono ?_
            rintro e w2 ⟨rfl, hb2⟩
            have hsz2 := Nat.le_trans hsz hb2.size
            have hbel2 := (hbel.trans (hb2.mono hsz)).alloc hsz2 (.cells #[.int .u8 op, .int .i32 arg] 25)
            clear hb2 hown hbel hsl hPL
            go_wp2
            refine bodyPost_ret (v := .tuple #[.slice none 0 0, .int .i64 ln]) (by simp [results, Ybym.results19, go_sem]) rfl ?_
            rw [HR2.out]
            exact ⟨_, rfl, OwnP.nil _ _, hbel2, fun _ => rfl⟩
    · obtain rfl : k = s.size + 1 := by omega
      have HR2 : Hid (R = (acc, 0)) := by
        show _ = _
        rw [HR.out]
        unfold remL
        rw [if_neg hlt]
        rfl
      clear HR hend
      go_wp2
      refine bodyPost_ret (v := .tuple #[_, .int .i64 0]) (by simp [results, Ybym.results19, go_sem]; rfl) rfl ?_
      rw [HR2.out]
      exact ⟨_, rfl, hown, hbel, fun h => absurd rfl h⟩
end Go.Proofs.Ymbrby

import Derived.Test.YmbrbyAssemble
namespace Go.Proofs.Ymbrby
open Go.ChangeShapes Go.WideShapes Go.ChangeAt Go.RowKit
set_option linter.unusedVariables false
set_option linter.unusedSimpArgs false

/-! ### The first bad line, and the instructions, of a list of lines -/
def badAt : List (List UInt8) → Int → Int
  | [], _ => 0
  | h :: t, n => if (parseL h).2.2 = 2 then n else badAt t (n + 1)
def insOf : List (List UInt8) → List (Int × Int)
  | [] => []
  | h :: t => if (parseL h).2.2 = 1 then ((parseL h).1, (parseL h).2.1) :: insOf t else insOf t
theorem asmLs_is : ∀ (L : List (List UInt8)) (n : Int) (acc : List (Int × Int)), 1 ≤ n → asmLs L n acc = if badAt L n = 0 then (acc ++ insOf L, 0) else ([], badAt L n)
  | [], n, acc, _ => by
    show (acc, (0 : Int)) = if (0 : Int) = 0 then (acc ++ [], 0) else _
    rw [if_pos rfl, List.append_nil]
  | h :: t, n, acc, hn => by
    show (if (parseL h).2.2 = 2 then ([], n) else asmLs t (n + 1) (if (parseL h).2.2 = 1 then acc ++ [((parseL h).1, (parseL h).2.1)] else acc)) = if (if (parseL h).2.2 = 2 then n else badAt t (n + 1)) = 0 then (acc ++ (if (parseL h).2.2 = 1 then ((parseL h).1, (parseL h).2.1) :: insOf t else insOf t), 0) else ([], if (parseL h).2.2 = 2 then n else badAt t (n + 1))
    by_cases h2 : (parseL h).2.2 = 2
    · rw [if_pos h2, if_pos h2, if_neg (by omega)]
    · rw [if_neg h2, if_neg h2, asmLs_is t (n + 1) _ (by omega)]
      by_cases h1 : (parseL h).2.2 = 1
      · rw [if_pos h1, if_pos h1, List.append_assoc]
        rfl
      · rw [if_neg h1, if_neg h1]
theorem asmT_is (l : List UInt8) : asmT l = if badAt (linesOf l) 1 = 0 then (insOf (linesOf l), 0) else ([], badAt (linesOf l) 1) := asmLs_is _ 1 [] (by omega)
theorem insOf_len : ∀ L : List (List UInt8), (insOf L).length ≤ L.length
  | [] => Nat.le_refl _
  | h :: t => by
    have := insOf_len t
    show (if (parseL h).2.2 = 1 then ((parseL h).1, (parseL h).2.1) :: insOf t else insOf t).length ≤ _
    split
    · rw [List.length_cons, List.length_cons]; omega
    · rw [List.length_cons]; omega
theorem onto_len (c : List UInt8) (L : List (List UInt8)) (h : L ≠ []) : (onto c L).length = L.length := by
  cases L with
  | nil => exact absurd rfl h
  | cons a b => rfl
theorem linesOf_len : ∀ l : List UInt8, (linesOf l).length ≤ l.length + 1
  | [] => Nat.le_refl _
  | c :: t => by
    have := linesOf_len t
    show (if c = 10 then [] :: linesOf t else onto [c] (linesOf t)).length ≤ _
    split
    · rw [List.length_cons, List.length_cons]; omega
    · rw [onto_len _ _ (linesOf_ne t), List.length_cons]; omega
theorem linesOf_join : ∀ a b : List UInt8, linesOf (a ++ 10 :: b) = linesOf a ++ linesOf b
  | [], b => by
    show (if (10 : UInt8) = 10 then [] :: linesOf b else _) = _
    rw [if_pos rfl]
    rfl
  | c :: a, b => by
    show (if c = 10 then [] :: linesOf (a ++ 10 :: b) else onto [c] (linesOf (a ++ 10 :: b))) = (if c = 10 then [] :: linesOf a else onto [c] (linesOf a)) ++ linesOf b
    rw [linesOf_join a b]
    split
    · rfl
    · cases hl : linesOf a with
      | nil => exact absurd hl (linesOf_ne a)
      | cons x y => rfl
theorem linesOf_one : ∀ b : List UInt8, (∀ c ∈ b, ¬ c = 10) → linesOf b = [b]
  | [], _ => rfl
  | c :: b, h => by
    show (if c = 10 then _ else onto [c] (linesOf b)) = _
    rw [if_neg (h c (by simp)), linesOf_one b (fun x hx => h x (by simp [hx]))]
    rfl
/-- The lines of the first k bytes, one byte more. -/
theorem lines_snoc_len (l : List UInt8) (c : UInt8) : (linesOf (l ++ [c])).length = (linesOf l).length + (if c = 10 then 1 else 0) := by
  by_cases h : c = 10
  · rw [h, if_pos rfl, linesOf_join l [], List.length_append]
    rfl
  · rw [if_neg h]
    induction l with
    | nil => show (if c = 10 then _ else onto [c] [[]]).length = _; rw [if_neg h]; rfl
    | cons d t ih =>
      show (if d = 10 then [] :: linesOf (t ++ [c]) else onto [d] (linesOf (t ++ [c]))).length = (if d = 10 then [] :: linesOf t else onto [d] (linesOf t)).length + 0
      split
      · rw [List.length_cons, List.length_cons, ih]
      · rw [onto_len _ _ (linesOf_ne _), onto_len _ _ (linesOf_ne _), ih]
theorem lines_take_len (s : ByteArray) (k : Nat) (h : k < s.size) : (linesOf (s.data.toList.take (k + 1))).length = (linesOf (s.data.toList.take k)).length + (if s[k] = 10 then 1 else 0) := by
  have e : s.data.toList.take (k + 1) = s.data.toList.take k ++ [s[k]] := take_snoc s k h
  rw [e, lines_snoc_len]

/-! ### The walk from the last line to the first -/
structure Back (s : ByteArray) (j e m : Nat) (suf : List (List UInt8)) : Prop where
  je : j ≤ e
  en : e ≤ s.size
  all : linesOf s.data.toList = linesOf (s.data.toList.take e) ++ suf
  none : ∀ c ∈ seg s j e, ¬ c = 10
  num : m = (linesOf (s.data.toList.take e)).length
theorem Back.start (s : ByteArray) : Back s s.size s.size (linesOf s.data.toList).length [] := by
  have e : s.data.toList.take s.size = s.data.toList := List.take_of_length_le (Nat.le_refl _)
  exact ⟨Nat.le_refl _, Nat.le_refl _, by rw [e, List.append_nil], by rw [seg_start]; simp, by rw [e]⟩
theorem seg_cons (s : ByteArray) (j e : Nat) (h : j < e) (he : e ≤ s.size) : seg s j e = s[j] :: seg s (j + 1) e := by
  have h1 := drop_seg s j e (by omega)
  have h2 := drop_seg s (j + 1) e (by omega)
  rw [drop_at s j (by omega), h2, ← List.cons_append] at h1
  exact (List.append_cancel_right h1).symm
theorem Back.goes {s : ByteArray} {j e m : Nat} {suf : List (List UInt8)} (h : Back s (j + 1) e m suf) (hj : j < s.size) (hc : ¬ s[j] = 10) : Back s j e m suf :=
  ⟨by have := h.je; omega, h.en, h.all, by
    rw [seg_cons s j e (by have := h.je; omega) h.en]
    intro c hm
    rcases List.mem_cons.1 hm with h1 | h1
    · rw [h1]; exact hc
    · exact h.none c h1, h.num⟩
theorem take_split (s : ByteArray) (j e : Nat) (h : j < e) (he : e ≤ s.size) : s.data.toList.take e = s.data.toList.take j ++ s[j] :: seg s (j + 1) e := by
  have hj : j < s.size := by omega
  have e1 : s.data.toList.take (j + 1) = s.data.toList.take j ++ [s[j]] := take_snoc s j hj
  have e2 : s.data.toList.take e = (s.data.toList.take e).take (j + 1) ++ (s.data.toList.take e).drop (j + 1) := (List.take_append_drop _ _).symm
  rw [e2, List.take_take, Nat.min_eq_left (by omega), e1]
  simp [seg]
theorem Back.cut {s : ByteArray} {j e m : Nat} {suf : List (List UInt8)} (h : Back s (j + 1) e m suf) (hj : j < s.size) (hc : s[j] = 10) : Back s j j (m - 1) (seg s (j + 1) e :: suf) ∧ 1 ≤ m - 1 := by
  have hl : linesOf (s.data.toList.take e) = linesOf (s.data.toList.take j) ++ [seg s (j + 1) e] := by
    rw [take_split s j e (by have := h.je; omega) h.en, hc, linesOf_join, linesOf_one _ h.none]
  have hm := h.num
  rw [hl, List.length_append, List.length_singleton] at hm
  have hne : 1 ≤ (linesOf (s.data.toList.take j)).length := by
    cases hq : linesOf (s.data.toList.take j) with
    | nil => exact absurd hq (linesOf_ne _)
    | cons a b => rw [List.length_cons]; omega
  refine ⟨⟨Nat.le_refl _, by omega, ?_, by rw [seg_start]; simp, by omega⟩, by omega⟩
  rw [h.all, hl, List.append_assoc]
  rfl
theorem Back.last {s : ByteArray} {e m : Nat} {suf : List (List UInt8)} (h : Back s 0 e m suf) : linesOf s.data.toList = seg s 0 e :: suf ∧ m = 1 := by
  have e1 : s.data.toList.take e = seg s 0 e := rfl
  have hl : linesOf (s.data.toList.take e) = [seg s 0 e] := by rw [e1, linesOf_one _ h.none]
  refine ⟨by rw [h.all, hl]; rfl, by rw [h.num, hl]; rfl⟩
theorem Back.few {s : ByteArray} {j e m : Nat} {suf : List (List UInt8)} (h : Back s j e m suf) : suf.length ≤ s.size + 1 ∧ m ≤ s.size + 1 ∧ 1 ≤ m := by
  have h1 := linesOf_len s.data.toList
  rw [h.all, List.length_append, ← h.num] at h1
  have h2 : s.data.toList.length = s.size := rfl
  refine ⟨by omega, by omega, ?_⟩
  rw [h.num]
  cases hq : linesOf (s.data.toList.take e) with
  | nil => exact absurd hq (linesOf_ne _)
  | cons a b => rw [List.length_cons]; omega

set_option maxHeartbeats 4000000 in
theorem jlines_any (s : ByteArray) (w : World) (hs : s.size ≤ 100000) :
    Calls Ybym.prog 21 #[.string s] w fun e w' => e = .returned (.int .i64 ((linesOf s.data.toList).length : Nat)) ∧ w' = w := by
  obtain ⟨R, hR⟩ : ∃ R, R = (linesOf s.data.toList).length := ⟨_, rfl⟩
  rw [← hR]
  have HR : Hid (R = (linesOf (s.data.toList.take s.size)).length) := by show _ = _; rw [hR, show s.data.toList.take s.size = s.data.toList from List.take_of_length_le (Nat.le_refl _)]
  clear hR
  go_enter Ybym.func21, Ybym.ntmps21
  go_wp2
  go_loopw [3, 4] (fun x i wr => ∃ (k m : Nat), i = .int .i64 k ∧ x = .int .i64 m ∧ k ≤ s.size ∧ m ≤ k + 1 ∧ Hid (m = (linesOf (s.data.toList.take k)).length) ∧ wr = w) (fun _ i _ => s.size - (intOf i).toNat)
  case atStart => exact ⟨0, 1, rfl, rfl, by omega, by omega, rfl, rfl⟩
  case round =>
    obtain ⟨k, m, rfl, rfl, hk, hm, HM, rfl⟩ := hrel
    by_cases hlt : k < s.size
    · have h1 := lines_take_len s k hlt
      by_cases hc : s[k] = 10
      · rw [if_pos hc] at h1
        have HM' : Hid (m + 1 = (linesOf (s.data.toList.take (k + 1))).length) := by show _ = _; rw [h1, HM.out]
        have q10 : ((s[k].toNat : Int) == 10) = true := int_eq (by rw [hc]; rfl)
        clear hc HM h1
        go_wp2
        go_roundw
        case rel => exact ⟨k + 1, m + 1, by go_num, by go_num, by omega, by omega, HM', by first | rfl | trivial⟩
        case measure => simp [intOf]; omega
      · rw [if_neg hc] at h1
        have HM' : Hid (m = (linesOf (s.data.toList.take (k + 1))).length) := by show _ = _; rw [h1, HM.out]; rfl
        have q10 : ((s[k].toNat : Int) == 10) = false := int_ne (fun h => hc (UInt8.toNat.inj (by show _ = 10; omega)))
        clear hc HM h1
        go_wp2
        go_roundw
        case rel => exact ⟨k + 1, m, by go_num, rfl, by omega, by omega, HM', by first | rfl | trivial⟩
        case measure => simp [intOf]; omega
    · obtain rfl : k = s.size := by omega
      have e : Hid (R = m) := by show _ = _; rw [HR.out, HM.out]
      go_wp2
      go_ret
      exact ⟨by rw [e.out]; rfl, rfl⟩
end Go.Proofs.Ymbrby

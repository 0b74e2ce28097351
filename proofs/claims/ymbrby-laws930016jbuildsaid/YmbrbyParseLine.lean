import Derived.Test.YmbrbyCutParts
import Derived.Test.YmbrbyParseInt32
import Derived.Test.YmbrbyOpByName
namespace Go.Proofs.Ymbrby
open Go.ChangeShapes Go.WideShapes Go.ChangeAt Go.RowKit
set_option linter.unusedVariables false
set_option linter.unusedSimpArgs false

/-! ### What ParseLine answers, as plain Lean: the opcode, the argument, the kind -/
def parseL (l : List UInt8) : Int × Int × Int :=
  if (cutF l).1 = [] then (0, 0, 0) else
  if (opBy ⟨(cutF l).1.toArray⟩).2 = false then (0, 0, 2) else
  if (opBy ⟨(cutF l).1.toArray⟩).1 = 0 ∨ (opBy ⟨(cutF l).1.toArray⟩).1 = 7 then
    if (parseI (cutF (cutF l).2).1).2 = false then (0, 0, 2) else
    if (cutF (cutF (cutF l).2).2).1 = [] then ((opBy ⟨(cutF l).1.toArray⟩).1, (parseI (cutF (cutF l).2).1).1, 1) else (0, 0, 2)
  else if (cutF (cutF l).2).1 = [] then ((opBy ⟨(cutF l).1.toArray⟩).1, 0, 1) else (0, 0, 2)

theorem cutF_len (l : List UInt8) : (cutF l).1.length ≤ l.length ∧ (cutF l).2.length ≤ l.length := by
  obtain ⟨b, h, _⟩ := cut_parts l
  have := congrArg List.length h
  rw [List.length_append, List.length_append] at this
  omega
theorem opBy_range (s : ByteArray) : 0 ≤ (opBy s).1 ∧ (opBy s).1 < 8 := by
  have h : ∀ f k : Nat, f + k ≤ 8 → 0 ≤ (opFrom s f k).1 ∧ (opFrom s f k).1 < 8 := by
    intro f
    induction f with
    | zero => intro k _; exact ⟨Int.le_refl _, by show (0 : Int) < 8; omega⟩
    | succ f ih =>
      intro k hk
      show 0 ≤ (if opName k = s then ((k : Int), true) else opFrom s f (k + 1)).1 ∧ (if opName k = s then ((k : Int), true) else opFrom s f (k + 1)).1 < 8
      split
      · show 0 ≤ (k : Int) ∧ (k : Int) < 8
        omega
      · exact ih (k + 1) (by omega)
  exact h 8 0 (by omega)
theorem nil_iff (l : List UInt8) : (((⟨l.toArray⟩ : ByteArray).toList == []) = true) ↔ l = [] := by
  rw [Go.Lib.toList_data]
  cases l <;> simp

set_option maxHeartbeats 4000000 in
theorem parseLine_blank (s : ByteArray) (w : World) (hs : s.size ≤ maxLen) (h0 : (cutF s.data.toList).1 = []) :
    Calls Ybym.prog 13 #[.string s] w fun e w' => e = .returned (.tuple #[.agg #[.int .u8 0, .int .i32 0], .int .i64 0]) ∧ Below w.heap.size w w' := by
  have hC := fun w' => cutField_any s w' hs
  obtain ⟨R, hR⟩ : ∃ R : ByteArray, R = ⟨(cutF s.data.toList).2.toArray⟩ := ⟨_, rfl⟩
  rw [h0, ← hR] at hC
  clear h0 hR
  go_enter Ybym.func13, Ybym.ntmps13
  go_wp2_with (go_at_call 25; refine (hC _).mono ?_; rintro e w' ⟨rfl, nd, rfl⟩)
  refine bodyPost_ret (v := .tuple #[.agg #[.int .u8 0, .int .i32 0], .int .i64 0]) (by simp [results, Ybym.results13, go_sem]) rfl ⟨rfl, ?_⟩
  exact ((below_drewN ((Below.refl _ _).alloc (Nat.le_refl _) _) nd).setCell (Nat.le_refl _) _).setCell (Nat.le_refl _) _

set_option maxHeartbeats 4000000 in
theorem parseLine_noname (s F R : ByteArray) (w : World) (o : Int) (hC : ∀ w, Calls Ybym.prog 25 #[.string s] w fun e w' => e = .returned (.tuple #[.string F, .string R]) ∧ ∃ n, w' = w.drewN n) (hF : (F.toList == []) = false)
    (hO : ∀ w, Calls Ybym.prog 22 #[.string F] w fun e w' => e = .returned (.tuple #[.int .u8 o, .bool false]) ∧ w' = w) :
    Calls Ybym.prog 13 #[.string s] w fun e w' => e = .returned (.tuple #[.agg #[.int .u8 0, .int .i32 0], .int .i64 2]) ∧ Below w.heap.size w w' := by
  go_enter Ybym.func13, Ybym.ntmps13
  go_wp2_with fail
  refine (hC _).mono ?_
  rintro e w1 ⟨rfl, n1, rfl⟩
  go_wp2_with fail
  refine (hO _).mono ?_
  rintro e w2 ⟨rfl, rfl⟩
  go_wp2_with fail
  refine bodyPost_ret (v := .tuple #[.agg #[.int .u8 0, .int .i32 0], .int .i64 2]) (by simp [results, Ybym.results13, go_sem]) rfl ⟨rfl, ?_⟩
  repeat (first | exact (Below.refl _ _).alloc (Nat.le_refl _) _ | apply below_drewN | (refine Below.setCell ?_ (by simp) _) | (refine Below.alloc ?_ (by simp) _))

set_option maxHeartbeats 4000000 in
theorem parseLine_plain (s F R X Y : ByteArray) (w : World) (o : Int) (x : Bool) (hC : ∀ w, Calls Ybym.prog 25 #[.string s] w fun e w' => e = .returned (.tuple #[.string F, .string R]) ∧ ∃ n, w' = w.drewN n) (hF : (F.toList == []) = false)
    (hO : ∀ w, Calls Ybym.prog 22 #[.string F] w fun e w' => e = .returned (.tuple #[.int .u8 o, .bool true]) ∧ w' = w) (h0 : (o == 0) = false) (h7 : (o == 7) = false)
    (hC2 : ∀ w, Calls Ybym.prog 25 #[.string R] w fun e w' => e = .returned (.tuple #[.string X, .string Y]) ∧ ∃ n, w' = w.drewN n) (hX : (X.toList == []) = x) :
    Calls Ybym.prog 13 #[.string s] w fun e w' => e = .returned (.tuple #[.agg #[.int .u8 (if x then o else 0), .int .i32 0], .int .i64 (if x then 1 else 2)]) ∧ Below w.heap.size w w' := by
  cases x with
  | true =>
    go_enter Ybym.func13, Ybym.ntmps13
    go_wp2_with fail
    refine (hC _).mono ?_
    rintro e w1 ⟨rfl, n1, rfl⟩
    go_wp2_with fail
    refine (hO _).mono ?_
    rintro e w2 ⟨rfl, rfl⟩
    go_wp2_with fail
    refine (hC2 _).mono ?_
    rintro e w3 ⟨rfl, n3, rfl⟩
    go_wp2_with fail
    refine bodyPost_ret (v := .tuple #[.agg #[.int .u8 o, .int .i32 0], .int .i64 1]) (by simp [results, Ybym.results13, go_sem]) rfl ⟨rfl, ?_⟩
    repeat (first | exact (Below.refl _ _).alloc (Nat.le_refl _) _ | apply below_drewN | (refine Below.setCell ?_ (by simp) _) | (refine Below.alloc ?_ (by simp) _))
  | false =>
    go_enter Ybym.func13, Ybym.ntmps13
    go_wp2_with fail
    refine (hC _).mono ?_
    rintro e w1 ⟨rfl, n1, rfl⟩
    go_wp2_with fail
    refine (hO _).mono ?_
    rintro e w2 ⟨rfl, rfl⟩
    go_wp2_with fail
    refine (hC2 _).mono ?_
    rintro e w3 ⟨rfl, n3, rfl⟩
    go_wp2_with fail
    refine bodyPost_ret (v := .tuple #[.agg #[.int .u8 0, .int .i32 0], .int .i64 2]) (by simp [results, Ybym.results13, go_sem]) rfl ⟨rfl, ?_⟩
    repeat (first | exact (Below.refl _ _).alloc (Nat.le_refl _) _ | apply below_drewN | (refine Below.setCell ?_ (by simp) _) | (refine Below.alloc ?_ (by simp) _))

set_option maxHeartbeats 4000000 in
theorem parseLine_nonum (s F R N R2 : ByteArray) (w : World) (o v : Int) (hC : ∀ w, Calls Ybym.prog 25 #[.string s] w fun e w' => e = .returned (.tuple #[.string F, .string R]) ∧ ∃ n, w' = w.drewN n) (hF : (F.toList == []) = false)
    (hO : ∀ w, Calls Ybym.prog 22 #[.string F] w fun e w' => e = .returned (.tuple #[.int .u8 o, .bool true]) ∧ w' = w) (h07 : o = 0 ∨ o = 7)
    (hC2 : ∀ w, Calls Ybym.prog 25 #[.string R] w fun e w' => e = .returned (.tuple #[.string N, .string R2]) ∧ ∃ n, w' = w.drewN n)
    (hP : ∀ w, Calls Ybym.prog 26 #[.string N] w fun e w' => e = .returned (.tuple #[.int .i32 v, .bool false]) ∧ w' = w) :
    Calls Ybym.prog 13 #[.string s] w fun e w' => e = .returned (.tuple #[.agg #[.int .u8 0, .int .i32 0], .int .i64 2]) ∧ Below w.heap.size w w' := by
  rcases h07 with rfl | rfl
  all_goals
    go_enter Ybym.func13, Ybym.ntmps13
    go_wp2_with fail
    refine (hC _).mono ?_
    rintro e w1 ⟨rfl, n1, rfl⟩
    go_wp2_with fail
    refine (hO _).mono ?_
    rintro e w2 ⟨rfl, rfl⟩
    go_wp2_with fail
    refine (hC2 _).mono ?_
    rintro e w3 ⟨rfl, n3, rfl⟩
    go_wp2_with fail
    refine (hP _).mono ?_
    rintro e w4 ⟨rfl, rfl⟩
    go_wp2_with fail
    refine bodyPost_ret (v := .tuple #[.agg #[.int .u8 0, .int .i32 0], .int .i64 2]) (by simp [results, Ybym.results13, go_sem]) rfl ⟨rfl, ?_⟩
    repeat (first | exact (Below.refl _ _).alloc (Nat.le_refl _) _ | apply below_drewN | (refine Below.setCell ?_ (by simp) _) | (refine Below.alloc ?_ (by simp) _))

set_option maxHeartbeats 4000000 in
theorem parseLine_num (s F R N R2 X Y : ByteArray) (w : World) (o v : Int) (x : Bool) (hC : ∀ w, Calls Ybym.prog 25 #[.string s] w fun e w' => e = .returned (.tuple #[.string F, .string R]) ∧ ∃ n, w' = w.drewN n) (hF : (F.toList == []) = false)
    (hO : ∀ w, Calls Ybym.prog 22 #[.string F] w fun e w' => e = .returned (.tuple #[.int .u8 o, .bool true]) ∧ w' = w) (h07 : o = 0 ∨ o = 7)
    (hC2 : ∀ w, Calls Ybym.prog 25 #[.string R] w fun e w' => e = .returned (.tuple #[.string N, .string R2]) ∧ ∃ n, w' = w.drewN n)
    (hP : ∀ w, Calls Ybym.prog 26 #[.string N] w fun e w' => e = .returned (.tuple #[.int .i32 v, .bool true]) ∧ w' = w)
    (hC3 : ∀ w, Calls Ybym.prog 25 #[.string R2] w fun e w' => e = .returned (.tuple #[.string X, .string Y]) ∧ ∃ n, w' = w.drewN n) (hX : (X.toList == []) = x) :
    Calls Ybym.prog 13 #[.string s] w fun e w' => e = .returned (.tuple #[.agg #[.int .u8 (if x then o else 0), .int .i32 (if x then v else 0)], .int .i64 (if x then 1 else 2)]) ∧ Below w.heap.size w w' := by
  rcases h07 with rfl | rfl
  all_goals
    cases x
    all_goals
      go_enter Ybym.func13, Ybym.ntmps13
      go_wp2_with fail
      refine (hC _).mono ?_
      rintro e w1 ⟨rfl, n1, rfl⟩
      go_wp2_with fail
      refine (hO _).mono ?_
      rintro e w2 ⟨rfl, rfl⟩
      go_wp2_with fail
      refine (hC2 _).mono ?_
      rintro e w3 ⟨rfl, n3, rfl⟩
      go_wp2_with fail
      refine (hP _).mono ?_
      rintro e w4 ⟨rfl, rfl⟩
      go_wp2_with fail
      refine (hC3 _).mono ?_
      rintro e w5 ⟨rfl, n5, rfl⟩
      go_wp2_with fail
      first
        | (refine bodyPost_ret (v := .tuple #[.agg #[.int .u8 0, .int .i32 0], .int .i64 2]) (by simp [results, Ybym.results13, go_sem]) rfl ⟨rfl, ?_⟩; repeat (first | exact (Below.refl _ _).alloc (Nat.le_refl _) _ | apply below_drewN | (refine Below.setCell ?_ (by simp) _) | (refine Below.alloc ?_ (by simp) _)))
        | (refine bodyPost_ret (v := .tuple #[.agg #[.int .u8 _, .int .i32 v], .int .i64 1]) (by simp [results, Ybym.results13, go_sem]) rfl ⟨rfl, ?_⟩; repeat (first | exact (Below.refl _ _).alloc (Nat.le_refl _) _ | apply below_drewN | (refine Below.setCell ?_ (by simp) _) | (refine Below.alloc ?_ (by simp) _)))

theorem parseLine_any (s : ByteArray) (w : World) (hs : s.size ≤ maxLen) :
    Calls Ybym.prog 13 #[.string s] w fun e w' => e = .returned (.tuple #[.agg #[.int .u8 (parseL s.data.toList).1, .int .i32 (parseL s.data.toList).2.1], .int .i64 (parseL s.data.toList).2.2]) ∧ Below w.heap.size w w' := by
  have hlen := cutF_len s.data.toList
  have hl2 := cutF_len (cutF s.data.toList).2
  have hsz : s.data.toList.length = s.size := rfl
  have hz : ∀ l : List UInt8, (⟨l.toArray⟩ : ByteArray).size = l.length := fun l => by show l.toArray.size = _; simp
  unfold parseL
  by_cases h0 : (cutF s.data.toList).1 = []
  · rw [if_pos h0]
    exact parseLine_blank s w hs h0
  rw [if_neg h0]
  have hC := fun w' => cutField_any s w' hs
  have hF : ((⟨(cutF s.data.toList).1.toArray⟩ : ByteArray).toList == []) = false := by
    cases e : ((⟨(cutF s.data.toList).1.toArray⟩ : ByteArray).toList == []) with
    | false => rfl
    | true => exact absurd ((nil_iff _).1 e) h0
  have hO := fun w' => opByName_any ⟨(cutF s.data.toList).1.toArray⟩ w'
  have hC2 := fun w' => cutField_any ⟨(cutF s.data.toList).2.toArray⟩ w' (by rw [hz]; omega)
  by_cases h1 : (opBy ⟨(cutF s.data.toList).1.toArray⟩).2 = false
  · rw [if_pos h1]
    rw [h1] at hO
    exact parseLine_noname s _ _ w _ hC hF hO
  rw [if_neg h1]
  rw [show (opBy ⟨(cutF s.data.toList).1.toArray⟩).2 = true from by simpa using h1] at hO
  by_cases h2 : (opBy ⟨(cutF s.data.toList).1.toArray⟩).1 = 0 ∨ (opBy ⟨(cutF s.data.toList).1.toArray⟩).1 = 7
  · rw [if_pos h2]
    have hP := fun w' => parseInt32_any ⟨(cutF (cutF s.data.toList).2).1.toArray⟩ w' (by rw [hz]; omega)
    by_cases h3 : (parseI (cutF (cutF s.data.toList).2).1).2 = false
    · rw [if_pos h3]
      have hP' := hP
      rw [show (⟨(cutF (cutF s.data.toList).2).1.toArray⟩ : ByteArray).data.toList = (cutF (cutF s.data.toList).2).1 from rfl, h3] at hP'
      exact parseLine_nonum s _ _ _ _ w _ _ hC hF hO h2 hC2 hP'
    · rw [if_neg h3]
      have hP' := hP
      rw [show (⟨(cutF (cutF s.data.toList).2).1.toArray⟩ : ByteArray).data.toList = (cutF (cutF s.data.toList).2).1 from rfl, show (parseI (cutF (cutF s.data.toList).2).1).2 = true from by simpa using h3] at hP'
      have hC3 := fun w' => cutField_any ⟨(cutF (cutF s.data.toList).2).2.toArray⟩ w' (by rw [hz]; omega)
      have key := parseLine_num s _ _ _ _ _ _ w _ _ _ hC hF hO h2 hC2 hP' hC3 rfl
      by_cases h4 : (cutF (cutF (cutF s.data.toList).2).2).1 = []
      · rw [if_pos h4]
        rw [show ((⟨(cutF (⟨(cutF (cutF s.data.toList).2).2.toArray⟩ : ByteArray).data.toList).1.toArray⟩ : ByteArray).toList == []) = true from (nil_iff _).2 h4] at key
        exact key
      · rw [if_neg h4]
        rw [show ((⟨(cutF (⟨(cutF (cutF s.data.toList).2).2.toArray⟩ : ByteArray).data.toList).1.toArray⟩ : ByteArray).toList == []) = false from by
          cases e : ((⟨(cutF (⟨(cutF (cutF s.data.toList).2).2.toArray⟩ : ByteArray).data.toList).1.toArray⟩ : ByteArray).toList == []) with
          | false => rfl
          | true => exact absurd ((nil_iff _).1 e) h4] at key
        exact key
  · rw [if_neg h2]
    have key := parseLine_plain s _ _ _ _ w _ _ hC hF hO (int_ne (fun h => h2 (.inl h))) (int_ne (fun h => h2 (.inr h))) hC2 rfl
    by_cases h4 : (cutF (cutF s.data.toList).2).1 = []
    · rw [if_pos h4]
      rw [show ((⟨(cutF (⟨(cutF s.data.toList).2.toArray⟩ : ByteArray).data.toList).1.toArray⟩ : ByteArray).toList == []) = true from (nil_iff _).2 h4] at key
      exact key
    · rw [if_neg h4]
      rw [show ((⟨(cutF (⟨(cutF s.data.toList).2.toArray⟩ : ByteArray).data.toList).1.toArray⟩ : ByteArray).toList == []) = false from by
        cases e : ((⟨(cutF (⟨(cutF s.data.toList).2.toArray⟩ : ByteArray).data.toList).1.toArray⟩ : ByteArray).toList == []) with
        | false => rfl
        | true => exact absurd ((nil_iff _).1 e) h4] at key
      exact key
end Go.Proofs.Ymbrby

import Derived.Test.YmbrbwBFields
import Derived.Test.YmbrbwBNum
import Derived.Test.YmbrbwParseLine
import Derived.Test.YmbrbwOpNames
namespace Go.Proofs.Ymbrbw
open Go.ChangeShapes Go.WideShapes Go.ChangeAt Go.RowKit
set_option linter.unusedVariables false
set_option linter.unusedSimpArgs false

/-! ### What the model answers, from the list of fields -/
def modelL : List (List UInt8) → Int × Int × Int
  | [] => (0, 0, 0)
  | f :: r =>
    if (opBy ⟨f.toArray⟩).2 = false then (0, 0, 2) else
    if (opBy ⟨f.toArray⟩).1 = 0 ∨ (opBy ⟨f.toArray⟩).1 = 7 then
      match r with
      | [g] => if (parseI g).2 = false then (0, 0, 2) else ((opBy ⟨f.toArray⟩).1, (parseI g).1, 1)
      | _ => (0, 0, 2)
    else if r = [] then ((opBy ⟨f.toArray⟩).1, 0, 1) else (0, 0, 2)

theorem model_parse (l : List UInt8) : modelL (fields l) = parseL l := by
  unfold parseL
  by_cases h0 : (cutF l).1 = []
  · rw [if_pos h0, fields_none l h0]
    rfl
  rw [if_neg h0, fields_some l h0]
  show (if (opBy ⟨(cutF l).1.toArray⟩).2 = false then (0, 0, 2) else _) = _
  by_cases h1 : (opBy ⟨(cutF l).1.toArray⟩).2 = false
  · rw [if_pos h1, if_pos h1]
  rw [if_neg h1, if_neg h1]
  by_cases h2 : (opBy ⟨(cutF l).1.toArray⟩).1 = 0 ∨ (opBy ⟨(cutF l).1.toArray⟩).1 = 7
  · rw [if_pos h2, if_pos h2]
    by_cases h3 : (cutF (cutF l).2).1 = []
    · rw [fields_none _ h3, h3]
      rfl
    · rw [fields_some _ h3]
      by_cases h4 : (cutF (cutF (cutF l).2).2).1 = []
      · rw [fields_none _ h4, if_pos h4]
      · rw [fields_some _ h4, if_neg h4]
        split
        · rename_i g hg
          injection hg with _ hg2
          cases hg2
        · split <;> rfl
  · rw [if_neg h2, if_neg h2]
    by_cases h3 : (cutF (cutF l).2).1 = []
    · rw [fields_none _ h3, if_pos rfl, if_pos h3]
    · rw [fields_some _ h3, if_neg (by intro h; cases h), if_neg h3]

theorem opName_0 : opName 0 = ⟨#[112, 117, 115, 104]⟩ := rfl
theorem opName_1 : opName 1 = ⟨#[112, 111, 112]⟩ := rfl
theorem opName_2 : opName 2 = ⟨#[100, 117, 112]⟩ := rfl
theorem opName_3 : opName 3 = ⟨#[115, 119, 97, 112]⟩ := rfl
theorem opName_4 : opName 4 = ⟨#[97, 100, 100]⟩ := rfl
theorem opName_5 : opName 5 = ⟨#[115, 117, 98]⟩ := rfl
theorem opName_6 : opName 6 = ⟨#[109, 117, 108]⟩ := rfl
theorem opName_7 : opName 7 = ⟨#[106, 110, 122]⟩ := rfl

set_option maxHeartbeats 8000000 in
theorem bmodel_blank (s : ByteArray) (w : World)
    (hF : ∀ w, Calls Ybwm.prog 35 #[.string s] w fun e w' => ∃ v, e = .returned v ∧ OwnS w.heap.size w' v [] ∧ Below w.heap.size w w') :
    Calls Ybwm.prog 31 #[.string s] w fun e w' => e = .returned (.tuple #[.agg #[.int .u8 0, .int .i32 0], .int .i64 0]) ∧ Below w.heap.size w w' := by
  go_enter Ybwm.func31, Ybwm.ntmps31
  go_wp2_with fail
  refine (hF _).mono ?_
  rintro e w1 ⟨v, rfl, hown, hb⟩
  obtain ⟨a, cap, rfl⟩ := hown.form0
  obtain ⟨hc, hf⟩ := bcell hb
  have hbel : Below w.heap.size w w1 := ((Below.refl _ _).alloc (Nat.le_refl _) _).trans (hb.mono (by simp))
  clear hown
  go_wp2_with fail
  refine bodyPost_ret (v := .tuple #[.agg #[.int .u8 0, .int .i32 0], .int .i64 0]) (by simp [results, Ybwm.results31, go_sem, hc]) rfl ⟨rfl, ?_⟩
  exact (hbel.setCell (Nat.le_refl _) _).setCell (Nat.le_refl _) _

set_option maxRecDepth 100000 in
set_option maxHeartbeats 8000000 in
theorem bmodel_noname (s : ByteArray) (f : List UInt8) (r : List (List UInt8)) (w : World) (hF : ∀ w, Calls Ybwm.prog 35 #[.string s] w fun e w' => ∃ v, e = .returned v ∧ OwnS w.heap.size w' v (f :: r) ∧ Below w.heap.size w w') (hn0 : ∀ n : Int, 0 ≤ n → n < 8 → ¬ (⟨f.toArray⟩ : ByteArray) = opName n) (hrl : r.length ≤ 1000000) :
    Calls Ybwm.prog 31 #[.string s] w fun e w' => e = .returned (.tuple #[.agg #[.int .u8 0, .int .i32 0], .int .i64 2]) ∧ Below w.heap.size w w' := by
  obtain ⟨F, hFF⟩ : ∃ F : ByteArray, F = ⟨f.toArray⟩ := ⟨_, rfl⟩
  rw [← hFF] at hn0
  have c0 : (F.toList == [112, 117, 115, 104]) = false := eqb_lit (hn0 0 (by decide) (by decide))
  have c1 : (F.toList == [112, 111, 112]) = false := eqb_lit (hn0 1 (by decide) (by decide))
  have c2 : (F.toList == [100, 117, 112]) = false := eqb_lit (hn0 2 (by decide) (by decide))
  have c3 : (F.toList == [115, 119, 97, 112]) = false := eqb_lit (hn0 3 (by decide) (by decide))
  have c4 : (F.toList == [97, 100, 100]) = false := eqb_lit (hn0 4 (by decide) (by decide))
  have c5 : (F.toList == [115, 117, 98]) = false := eqb_lit (hn0 5 (by decide) (by decide))
  have c6 : (F.toList == [109, 117, 108]) = false := eqb_lit (hn0 6 (by decide) (by decide))
  have c7 : (F.toList == [106, 110, 122]) = false := eqb_lit (hn0 7 (by decide) (by decide))
  clear hn0
  go_enter Ybwm.func31, Ybwm.ntmps31
  go_wp2_with fail
  refine (hF _).mono ?_
  rintro e w1 ⟨v, rfl, hown, hb⟩
  obtain ⟨g, cap, rfl, hcell⟩ := hown.form (by simp)
  obtain ⟨hc, hf⟩ := bcell hb
  have hg0 := hcell 0 (by simp)
  simp only [List.getElem_cons_zero] at hg0
  have hbel : Below w.heap.size w w1 := ((Below.refl _ _).alloc (Nat.le_refl _) _).trans (hb.mono (by simp))
  obtain ⟨n, hn⟩ : ∃ n : Nat, n = (f :: r).length := ⟨_, rfl⟩
  rw [← hn]
  rw [← hFF] at hg0
  have hn1 : ((n : Int) == 0) = false := int_ne (by rw [hn]; simp only [List.length_cons]; omega)
  have hn2 : (0 : Int) < (n : Int) := by rw [hn]; simp only [List.length_cons]; omega
  have hn3 : (n : Int) ≤ 1000001 := by rw [hn]; simp only [List.length_cons]; omega
  clear hown hcell hn hFF
  go_wp2_with fail
  refine bodyPost_ret (v := .tuple #[.agg #[.int .u8 0, .int .i32 0], .int .i64 2]) (by simp [results, Ybwm.results31, go_sem, hc]) rfl ⟨rfl, ?_⟩
  exact (hbel.setCell (Nat.le_refl _) _).setCell (Nat.le_refl _) _

set_option maxRecDepth 100000 in
set_option maxHeartbeats 16000000 in
theorem bmodel_plain (s : ByteArray) (f : List UInt8) (r : List (List UInt8)) (o : Int) (w : World) (hF : ∀ w, Calls Ybwm.prog 35 #[.string s] w fun e w' => ∃ v, e = .returned v ∧ OwnS w.heap.size w' v (f :: r) ∧ Below w.heap.size w w') (ho0 : 0 < o) (ho7 : o < 7) (hname : (⟨f.toArray⟩ : ByteArray) = opName o) (hrl : r.length ≤ 1000000) :
    Calls Ybwm.prog 31 #[.string s] w fun e w' => e = .returned (.tuple #[.agg #[.int .u8 (if r = [] then o else 0), .int .i32 0], .int .i64 (if r = [] then 1 else 2)]) ∧ Below w.heap.size w w' := by
  by_cases hr : r = []
  · rw [if_pos hr, if_pos hr]
    obtain h | h | h | h | h | h : o = 1 ∨ o = 2 ∨ o = 3 ∨ o = 4 ∨ o = 5 ∨ o = 6 := by omega
    all_goals
      subst h
      go_enter Ybwm.func31, Ybwm.ntmps31
      go_wp2_with fail
      refine (hF _).mono ?_
      rintro e w1 ⟨v, rfl, hown, hb⟩
      obtain ⟨g, cap, rfl, hcell⟩ := hown.form (by simp)
      obtain ⟨hc, hf⟩ := bcell hb
      have hg0 := hcell 0 (by simp)
      simp only [List.getElem_cons_zero] at hg0
      have hbel : Below w.heap.size w w1 := ((Below.refl _ _).alloc (Nat.le_refl _) _).trans (hb.mono (by simp))
      obtain ⟨n, hn⟩ : ∃ n : Nat, n = (f :: r).length := ⟨_, rfl⟩
      rw [← hn]
      rw [hname] at hg0
      simp only [opName_0, opName_1, opName_2, opName_3, opName_4, opName_5, opName_6, opName_7] at hg0
      have hn1 : n = 1 := by rw [hn, hr]; rfl
      clear hown hcell hn hname
      subst hn1
      go_wp2_with fail
      refine bodyPost_ret (v := .tuple #[.agg #[.int .u8 _, .int .i32 0], .int .i64 1]) (by simp [results, Ybwm.results31, go_sem, hc]) rfl ⟨rfl, ?_⟩
      exact (hbel.setCell (Nat.le_refl _) _).setCell (Nat.le_refl _) _
  · rw [if_neg hr, if_neg hr]
    obtain h | h | h | h | h | h : o = 1 ∨ o = 2 ∨ o = 3 ∨ o = 4 ∨ o = 5 ∨ o = 6 := by omega
    all_goals
      subst h
      go_enter Ybwm.func31, Ybwm.ntmps31
      go_wp2_with fail
      refine (hF _).mono ?_
      rintro e w1 ⟨v, rfl, hown, hb⟩
      obtain ⟨g, cap, rfl, hcell⟩ := hown.form (by simp)
      obtain ⟨hc, hf⟩ := bcell hb
      have hg0 := hcell 0 (by simp)
      simp only [List.getElem_cons_zero] at hg0
      have hbel : Below w.heap.size w w1 := ((Below.refl _ _).alloc (Nat.le_refl _) _).trans (hb.mono (by simp))
      obtain ⟨n, hn⟩ : ∃ n : Nat, n = (f :: r).length := ⟨_, rfl⟩
      rw [← hn]
      rw [hname] at hg0
      simp only [opName_0, opName_1, opName_2, opName_3, opName_4, opName_5, opName_6, opName_7] at hg0
      have hrp : 0 < r.length := List.length_pos_iff.2 hr
      have hn2 : (1 : Int) < (n : Int) := by rw [hn]; simp only [List.length_cons]; omega
      have hn3 : (n : Int) ≤ 1000001 := by rw [hn]; simp only [List.length_cons]; omega
      have hn1 : ((n : Int) == 0) = false := int_ne (by omega)
      have hn4 : ((n : Int) != 1) = true := by rw [bne, int_ne (by omega)]; rfl
      clear hown hcell hn hname hrp
      go_wp2_with fail
      refine bodyPost_ret (v := .tuple #[.agg #[.int .u8 0, .int .i32 0], .int .i64 2]) (by simp [results, Ybwm.results31, go_sem, hc]) rfl ⟨rfl, ?_⟩
      exact (hbel.setCell (Nat.le_refl _) _).setCell (Nat.le_refl _) _

set_option maxRecDepth 100000 in
set_option maxHeartbeats 16000000 in
theorem bmodel_many (s : ByteArray) (f : List UInt8) (r : List (List UInt8)) (o : Int) (w : World) (hF : ∀ w, Calls Ybwm.prog 35 #[.string s] w fun e w' => ∃ v, e = .returned v ∧ OwnS w.heap.size w' v (f :: r) ∧ Below w.heap.size w w') (ho : o = 0 ∨ o = 7) (hname : (⟨f.toArray⟩ : ByteArray) = opName o) (hrl : r.length ≤ 1000000) (hr1 : r.length ≠ 1) :
    Calls Ybwm.prog 31 #[.string s] w fun e w' => e = .returned (.tuple #[.agg #[.int .u8 0, .int .i32 0], .int .i64 2]) ∧ Below w.heap.size w w' := by
  rcases ho with h | h
  all_goals
    subst h
    go_enter Ybwm.func31, Ybwm.ntmps31
    go_wp2_with fail
    refine (hF _).mono ?_
    rintro e w1 ⟨v, rfl, hown, hb⟩
    obtain ⟨g, cap, rfl, hcell⟩ := hown.form (by simp)
    obtain ⟨hc, hf⟩ := bcell hb
    have hg0 := hcell 0 (by simp)
    simp only [List.getElem_cons_zero] at hg0
    have hbel : Below w.heap.size w w1 := ((Below.refl _ _).alloc (Nat.le_refl _) _).trans (hb.mono (by simp))
    obtain ⟨n, hn⟩ : ∃ n : Nat, n = (f :: r).length := ⟨_, rfl⟩
    rw [← hn]
    rw [hname] at hg0
    simp only [opName_0, opName_1, opName_2, opName_3, opName_4, opName_5, opName_6, opName_7] at hg0
    have hn2 : (0 : Int) < (n : Int) := by rw [hn]; simp only [List.length_cons]; omega
    have hn3 : (n : Int) ≤ 1000001 := by rw [hn]; simp only [List.length_cons]; omega
    have hn1 : ((n : Int) == 0) = false := int_ne (by omega)
    have hn4 : ((n : Int) != 2) = true := by rw [bne, int_ne (by rw [hn]; simp only [List.length_cons]; omega)]; rfl
    clear hown hcell hn hname
    go_wp2_with fail
    refine bodyPost_ret (v := .tuple #[.agg #[.int .u8 0, .int .i32 0], .int .i64 2]) (by simp [results, Ybwm.results31, go_sem, hc]) rfl ⟨rfl, ?_⟩
    exact (hbel.setCell (Nat.le_refl _) _).setCell (Nat.le_refl _) _

set_option maxRecDepth 100000 in
set_option maxHeartbeats 16000000 in
theorem bmodel_num (s : ByteArray) (f q : List UInt8) (o v : Int) (ok : Bool) (w : World) (hF : ∀ w, Calls Ybwm.prog 35 #[.string s] w fun e w' => ∃ v, e = .returned v ∧ OwnS w.heap.size w' v (f :: [q]) ∧ Below w.heap.size w w') (ho : o = 0 ∨ o = 7) (hname : (⟨f.toArray⟩ : ByteArray) = opName o)
    (hP : ∀ w, Calls Ybwm.prog 36 #[.string ⟨q.toArray⟩] w fun e w' => e = .returned (.tuple #[.int .i32 v, .bool ok]) ∧ w' = w) :
    Calls Ybwm.prog 31 #[.string s] w fun e w' => e = .returned (.tuple #[.agg #[.int .u8 (if ok then o else 0), .int .i32 (if ok then v else 0)], .int .i64 (if ok then 1 else 2)]) ∧ Below w.heap.size w w' := by
  obtain ⟨N, hN⟩ : ∃ N : ByteArray, N = ⟨q.toArray⟩ := ⟨_, rfl⟩
  rw [← hN] at hP
  rcases ho with h | h
  all_goals
    subst h
    cases ok
    all_goals
      go_enter Ybwm.func31, Ybwm.ntmps31
      go_wp2_with fail
      refine (hF _).mono ?_
      rintro e w1 ⟨v, rfl, hown, hb⟩
      obtain ⟨g, cap, rfl, hcell⟩ := hown.form (by simp)
      obtain ⟨hc, hf⟩ := bcell hb
      have hg0 := hcell 0 (by simp)
      simp only [List.getElem_cons_zero] at hg0
      have hbel : Below w.heap.size w w1 := ((Below.refl _ _).alloc (Nat.le_refl _) _).trans (hb.mono (by simp))
      have hg1 := hcell 1 (by simp)
      simp only [List.getElem_cons_zero, List.getElem_cons_succ] at hg1
      rw [← hN] at hg1
      rw [hname] at hg0
      simp only [opName_0, opName_1, opName_2, opName_3, opName_4, opName_5, opName_6, opName_7] at hg0
      have hl2 : (f :: [q]).length = 2 := rfl
      rw [hl2]
      clear hown hcell hname hN hl2
      go_wp2_with fail
      refine (hP _).mono ?_
      rintro e w1 ⟨rfl, rfl⟩
      go_wp2_with fail
      first
        | (refine bodyPost_ret (v := .tuple #[.agg #[.int .u8 0, .int .i32 0], .int .i64 2]) (by simp [results, Ybwm.results31, go_sem, hc]) rfl ⟨rfl, ?_⟩; exact (hbel.setCell (Nat.le_refl _) _).setCell (Nat.le_refl _) _)
        | (refine bodyPost_ret (v := .tuple #[.agg #[.int .u8 _, .int .i32 v], .int .i64 1]) (by simp [results, Ybwm.results31, go_sem, hc]) rfl ⟨rfl, ?_⟩; exact (hbel.setCell (Nat.le_refl _) _).setCell (Nat.le_refl _) _)
end Go.Proofs.Ymbrbw

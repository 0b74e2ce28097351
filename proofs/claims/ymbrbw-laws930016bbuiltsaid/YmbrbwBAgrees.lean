import Derived.Test.YmbrbwBModelC
namespace Go.Proofs.Ymbrbw
open Go.ChangeShapes Go.WideShapes Go.ChangeAt Go.RowKit
set_option linter.unusedVariables false
set_option linter.unusedSimpArgs false

theorem fieldsF_len : ∀ (n : Nat) (l : List UInt8), (fieldsF n l).length ≤ n
  | 0, _ => Nat.le_refl _
  | n + 1, l => by
    show (if (cutF l).1 = [] then [] else (cutF l).1 :: fieldsF n (cutF l).2).length ≤ n + 1
    split
    · simp
    · have := fieldsF_len n (cutF l).2
      rw [List.length_cons]
      omega
theorem fieldsF_each : ∀ (n : Nat) (l : List UInt8), ∀ f ∈ fieldsF n l, f.length ≤ l.length
  | 0, _, f, h => by cases h
  | n + 1, l, f, h => by
    have h' : f ∈ (if (cutF l).1 = [] then [] else (cutF l).1 :: fieldsF n (cutF l).2) := h
    have hl := cutF_len l
    by_cases hc : (cutF l).1 = []
    · rw [if_pos hc] at h'; cases h'
    · rw [if_neg hc] at h'
      rcases List.mem_cons.1 h' with h1 | h1
      · rw [h1]; exact hl.1
      · exact Nat.le_trans (fieldsF_each n _ f h1) hl.2

theorem bmodel_any (s : ByteArray) (w : World) (hs : s.size ≤ 100000) :
    Calls Ybwm.prog 31 #[.string s] w fun e w' => e = .returned (.tuple #[.agg #[.int .u8 (parseL s.data.toList).1, .int .i32 (parseL s.data.toList).2.1], .int .i64 (parseL s.data.toList).2.2]) ∧ Below w.heap.size w w' := by
  have hF := fun w' => bfields_any s w' hs
  have hlen : (fields s.data.toList).length ≤ 100001 := by
    have h1 := fieldsF_len (s.data.toList.length + 1) s.data.toList
    have h2 : s.data.toList.length = s.size := rfl
    show (fieldsF (s.data.toList.length + 1) s.data.toList).length ≤ _
    omega
  have heach : ∀ f ∈ fields s.data.toList, f.length ≤ 100000 := by
    intro f hf
    have h1 := fieldsF_each _ s.data.toList f hf
    have h2 : s.data.toList.length = s.size := rfl
    omega
  rw [← model_parse]
  obtain ⟨Fs, hFs⟩ : ∃ Fs, Fs = fields s.data.toList := ⟨_, rfl⟩
  rw [← hFs] at hF hlen heach ⊢
  clear hFs
  match Fs, hF, hlen, heach with
  | [], hF, _, _ => exact bmodel_blank s w hF
  | f :: r, hF, hlen, heach =>
    rw [List.length_cons] at hlen
    obtain ⟨n, h0, h8, hs', e⟩ | ⟨hn, e⟩ := opBy_names ⟨f.toArray⟩
    · by_cases h07 : n = 0 ∨ n = 7
      · by_cases hr1 : r.length = 1
        · obtain ⟨q, rfl⟩ : ∃ q, r = [q] := by
            match r, hr1 with
            | [q], _ => exact ⟨q, rfl⟩
          have hq := heach q (by simp)
          have hP := fun w' => bnum_any ⟨q.toArray⟩ w' (by show q.toArray.size ≤ maxLen; rw [List.size_toArray]; unfold maxLen; omega)
          have key := bmodel_num s f q n _ _ w hF h07 hs' hP
          have em : modelL [f, q] = if (parseI q).2 = false then (0, 0, 2) else (n, (parseI q).1, 1) := by
            show (if (opBy ⟨f.toArray⟩).2 = false then (0, 0, 2) else if (opBy ⟨f.toArray⟩).1 = 0 ∨ (opBy ⟨f.toArray⟩).1 = 7 then _ else _) = _
            rw [e, if_neg (by intro h; cases h), if_pos h07]
          rw [em]
          by_cases hp : (parseI q).2 = false
          · rw [if_pos hp]
            rw [show (⟨q.toArray⟩ : ByteArray).data.toList = q from rfl, hp] at key
            exact key
          · rw [if_neg hp]
            rw [show (⟨q.toArray⟩ : ByteArray).data.toList = q from rfl, show (parseI q).2 = true from by simpa using hp] at key
            exact key
        · have key := bmodel_many s f r n w hF h07 hs' (by omega) hr1
          have em : modelL (f :: r) = (0, 0, 2) := by
            show (if (opBy ⟨f.toArray⟩).2 = false then (0, 0, 2) else if (opBy ⟨f.toArray⟩).1 = 0 ∨ (opBy ⟨f.toArray⟩).1 = 7 then _ else _) = _
            rw [e, if_neg (by intro h; cases h), if_pos h07]
            match r, hr1 with
            | [], _ => rfl
            | [_], h => exact absurd rfl h
            | _ :: _ :: _, _ => rfl
          rw [em]
          exact key
      · have key := bmodel_plain s f r n w hF (by omega) (by omega) hs' (by omega)
        have em : modelL (f :: r) = if r = [] then (n, 0, 1) else (0, 0, 2) := by
          show (if (opBy ⟨f.toArray⟩).2 = false then (0, 0, 2) else if (opBy ⟨f.toArray⟩).1 = 0 ∨ (opBy ⟨f.toArray⟩).1 = 7 then _ else _) = _
          rw [e, if_neg (by intro h; cases h), if_neg h07]
        rw [em]
        by_cases hr : r = []
        · rw [if_pos hr, if_pos hr] at key
          rw [if_pos hr]
          exact key
        · rw [if_neg hr, if_neg hr] at key
          rw [if_neg hr]
          exact key
    · have em : modelL (f :: r) = (0, 0, 2) := by
        show (if (opBy ⟨f.toArray⟩).2 = false then (0, 0, 2) else _) = _
        rw [e, if_pos rfl]
      rw [em]
      exact bmodel_noname s f r w hF hn (by omega)

set_option maxHeartbeats 4000000 in
theorem bagrees_any (s : ByteArray) (w : World) (hs : s.size ≤ 100000) :
    Calls Ybwm.prog 18 #[.string s] w fun e w' => e = .returned (.bool true) ∧ Below w.heap.size w w' := by
  have h1 := fun w' => parseLine_any s w' (by unfold maxLen; omega)
  have h2 := fun w' => bmodel_any s w' hs
  obtain ⟨⟨o, a, k⟩, hP⟩ : ∃ P, P = parseL s.data.toList := ⟨_, rfl⟩
  rw [← hP] at h1 h2
  clear hP
  go_enter Ybwm.func18, Ybwm.ntmps18
  go_wp2_with fail
  refine (h1 _).mono ?_
  rintro e w1 ⟨rfl, hb1⟩
  have hz1 := hb1.size
  go_wp2_with fail
  refine (h2 _).mono ?_
  rintro e w2 ⟨rfl, hb2⟩
  obtain ⟨hc, hf⟩ := bcell hb2
  have hz2 := hb2.size
  simp at hz2
  have hbel : Below w.heap.size w w2 := (hb1.alloc hz1 _).trans (hb2.mono (by simp; omega))
  have hne : ¬ w1.heap.size = w2.heap.size := by omega
  have hlt : w1.heap.size < w2.heap.size := by omega
  clear hb1 hb2
  go_wp2_with fail
  go_ret
  exact ⟨rfl, by repeat (first | exact hbel | (refine Below.alloc ?_ (by first | omega | (simp; done) | (simp; omega)) _) | (refine Below.setCell ?_ (by first | omega | (simp; done) | (simp; omega)) _))⟩

set_option maxHeartbeats 4000000 in
theorem BModel_walk (s : ByteArray) (w : World) (w0 : s.size ≤ maxLen) :
    Calls Ybwm.prog 6 #[.string s] w fun e w' => e = .returned (.bool true) ∧ Below w.heap.size w w' := by
  unfold maxLen at w0
  by_cases hl : (1024 : Int) < (s.size : Int)
  · go_enter Ybwm.func6, Ybwm.ntmps6
    go_wp2
    go_ret
    exact ⟨rfl, Below.refl _ _⟩
  · have h1 := fun w' => bagrees_any s w' (by omega)
    go_enter Ybwm.func6, Ybwm.ntmps6
    go_wp2_with (go_at_call 18; refine (h1 _).mono ?_; rintro e w' ⟨rfl, hb⟩)
    go_ret
    exact ⟨rfl, hb⟩
end Go.Proofs.Ymbrbw

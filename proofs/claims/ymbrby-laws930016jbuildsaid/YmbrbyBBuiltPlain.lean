import Derived.Test.YmbrbyCutAll
import Derived.Test.YmbrbyZDec
import Derived.Test.YmbrbyParseLine
namespace Go.Proofs.Ymbrby
open Go.ChangeShapes Go.WideShapes Go.ChangeAt Go.RowKit
set_option linter.unusedVariables false
set_option linter.unusedSimpArgs false

/-! ### The plain law: a line put together is read back -/
theorem name_facts : ∀ k : Nat, k < 8 → (∀ c ∈ (opName k).data.toList, blk c = false) ∧ (opName k).data.toList ≠ [] ∧ opBy ⟨(opName k).data.toList.toArray⟩ = ((k : Int), true) := by decide +kernel
theorem edec_facts (n : Int) (z : Nat) : (∀ c ∈ edec n z, blk c = false) ∧ edec n z ≠ [] := by
  have hd : ∀ c, isDig c → blk c = false := by
    intro c hc
    unfold isDig at hc
    exact decide_eq_false (by omega)
  unfold edec
  split
  · refine ⟨?_, by intro h; cases h⟩
    intro c hc
    rcases List.mem_cons.1 hc with h | h
    · rw [h]; decide
    · exact hd c (zdec_dig _ _ c h)
  · exact ⟨fun c hc => hd c (zdec_dig _ _ c hc), zdec_ne _ _⟩
def Ext (ex : List UInt8) : Prop := ex = [] ∨ ex = [32, 120] ∨ ex = [9, 48, 32]
theorem tail_head (T ex : List UInt8) (hT : ∀ c ∈ T, blk c = true) (hx : Ext ex) : T ++ ex = [] ∨ ∃ c r, T ++ ex = c :: r ∧ blk c = true := by
  cases T with
  | nil =>
    rcases hx with h | h | h
    · exact .inl (by rw [h]; rfl)
    · exact .inr ⟨32, [120], by rw [h]; rfl, by decide⟩
    · exact .inr ⟨9, [48, 32], by rw [h]; rfl, by decide⟩
  | cons c T => exact .inr ⟨c, T ++ ex, rfl, hT c (by simp)⟩
theorem tail_cut (T ex : List UInt8) (hT : ∀ c ∈ T, blk c = true) (hx : Ext ex) : (cutF (T ++ ex)).1 = [] ↔ ex = [] := by
  rcases hx with h | h | h
  · subst h
    have := cutF_of T [] [] hT (by simp) (.inl rfl) (fun _ => rfl)
    rw [show T ++ [] = T ++ ([] ++ []) from rfl, this]
  · subst h
    have := cutF_of (T ++ [32]) [120] [] (fun c hc => (List.mem_append.1 hc).elim (fun h => hT c h) (fun h => by rw [List.mem_singleton.1 h]; decide)) (by intro c hc; rw [List.mem_singleton.1 hc]; decide) (.inl rfl) (fun _ => rfl)
    rw [show T ++ [32, 120] = T ++ [32] ++ ([120] ++ []) from by simp, this]
    simp
  · subst h
    have := cutF_of (T ++ [9]) [48] [32] (fun c hc => (List.mem_append.1 hc).elim (fun h => hT c h) (fun h => by rw [List.mem_singleton.1 h]; decide)) (by intro c hc; rw [List.mem_singleton.1 hc]; decide) (.inr ⟨32, [], rfl, by decide⟩) (fun h => by cases h)
    rw [show T ++ [9, 48, 32] = T ++ [9] ++ ([48] ++ [32]) from by simp, this]
    simp

theorem built_num (L M T ex : List UInt8) (k : Nat) (n : Int) (z : Nat) (hk : k = 0 ∨ k = 7) (hL : ∀ c ∈ L, blk c = true) (hM : ∀ c ∈ M, blk c = true) (hT : ∀ c ∈ T, blk c = true) (hx : Ext ex) :
    parseL (L ++ (opName k).data.toList ++ ([9] ++ M ++ edec n z) ++ T ++ ex) = if (-2147483648 ≤ n ∧ n ≤ 2147483647) ∧ ex = [] then ((k : Int), n, 1) else (0, 0, 2) := by
  obtain ⟨h1, h2, h3⟩ := name_facts k (by omega)
  obtain ⟨d1, d2⟩ := edec_facts n z
  have c1 := cutF_of L (opName k).data.toList ((9 :: M) ++ (edec n z ++ (T ++ ex))) hL h1 (.inr ⟨9, M ++ (edec n z ++ (T ++ ex)), rfl, by decide⟩) (fun h => absurd h h2)
  have c2 := cutF_of (9 :: M) (edec n z) (T ++ ex) (fun c hc => (List.mem_cons.1 hc).elim (fun h => by rw [h]; decide) (fun h => hM c h)) d1 (tail_head T ex hT hx) (fun h => absurd h d2)
  have c3 := tail_cut T ex hT hx
  rw [show L ++ (opName k).data.toList ++ ([9] ++ M ++ edec n z) ++ T ++ ex = L ++ ((opName k).data.toList ++ ((9 :: M) ++ (edec n z ++ (T ++ ex)))) from by simp]
  unfold parseL
  rw [c1]
  dsimp only
  rw [if_neg h2, h3]
  dsimp only
  rw [if_neg (by intro h; cases h), if_pos (by omega), c2]
  dsimp only
  rw [parse_edec]
  by_cases hr : -2147483648 ≤ n ∧ n ≤ 2147483647
  · rw [if_pos hr, if_neg (by intro h; cases h)]
    by_cases he : ex = []
    · rw [if_pos (c3.2 he), if_pos ⟨hr, he⟩]
    · rw [if_neg (fun h => he (c3.1 h)), if_neg (fun h => he h.2)]
  · rw [if_neg hr, if_pos rfl, if_neg (fun h => hr h.1)]
theorem built_plain (L T ex : List UInt8) (k : Nat) (hk1 : 0 < k) (hk2 : k < 7) (hL : ∀ c ∈ L, blk c = true) (hT : ∀ c ∈ T, blk c = true) (hx : Ext ex) :
    parseL (L ++ (opName k).data.toList ++ T ++ ex) = if ex = [] then ((k : Int), 0, 1) else (0, 0, 2) := by
  obtain ⟨h1, h2, h3⟩ := name_facts k (by omega)
  have c1 := cutF_of L (opName k).data.toList (T ++ ex) hL h1 (tail_head T ex hT hx) (fun h => absurd h h2)
  have c3 := tail_cut T ex hT hx
  rw [show L ++ (opName k).data.toList ++ T ++ ex = L ++ ((opName k).data.toList ++ (T ++ ex)) from by simp]
  unfold parseL
  rw [c1]
  dsimp only
  rw [if_neg h2, h3]
  dsimp only
  rw [if_neg (by intro h; cases h), if_neg (by omega)]
  by_cases he : ex = []
  · rw [if_pos (c3.2 he), if_pos he]
  · rw [if_neg (fun h => he (c3.1 h)), if_neg he]
end Go.Proofs.Ymbrby

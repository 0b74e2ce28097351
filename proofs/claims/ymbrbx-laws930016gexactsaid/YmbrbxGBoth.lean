import Derived.Test.YmbrbxGState
import Derived.Test.YmbrbxGModel
namespace Go.Proofs.Ymbrbx
open Go.ChangeShapes Go.WideShapes Go.ChangeAt Go.RowKit
set_option linter.unusedVariables false
set_option linter.unusedSimpArgs false

/-! ### The model of one step, and the step itself, say the same -/
def GMC (P : List (Int × Int)) (n : Nat) (pc : Int) (S : List Int) (m : Nat) (ans next : Int) (keep : Nat) (p0 p1 : Int) (nput : Nat) : Prop :=
  ∀ (b cap : Nat) (a2 : Option Addr) (cap2 : Nat) (w : World), ProgIn w (some ⟨b, 0, none⟩) P → I32In w a2 S →
    Calls Ybxm.prog 24 #[.slice (some ⟨b, 0, none⟩) n cap, .int .i64 pc, .slice a2 m cap2] w fun e w' => e = .returned (.tuple #[.int .i64 ans, .int .i64 next, .int .i64 keep, .agg #[.int .i32 p0, .int .i32 p1], .int .i64 nput]) ∧ Below w.heap.size w w'
structure Both (P : List (Int × Int)) (n : Nat) (pc : Int) (S : List Int) (m : Nat) (ans next : Int) (keep : Nat) (p0 p1 : Int) (nput : Nat) (st' : List Int) : Prop where
  gm : GMC P n pc S m ans next keep p0 p1 nput
  stp : ∀ ar w0 base bp g w, GS ar w0 base bp n P g w pc S → GStep ar w0 base bp n P g w ans next st'
  kl : keep ≤ m
  pl : nput ≤ 2
  len : keep + nput = st'.length
  low : ∀ j, j < keep → st'[j]? = S[j]?
  top : ∀ j, j < nput → st'[keep + j]? = [p0, p1][j]?
def AnyBoth (P : List (Int × Int)) (n : Nat) (pc : Int) (S : List Int) (m : Nat) : Prop := ∃ ans next keep p0 p1 nput st', Both P n pc S m ans next keep p0 p1 nput st'
theorem both_same {P : List (Int × Int)} {n : Nat} {pc : Int} {S : List Int} {m : Nat} (hm : m = S.length) (ans : Int) (h1 : GMC P n pc S m ans pc m 0 0 0) (h2 : ∀ ar w0 base bp g w, GS ar w0 base bp n P g w pc S → GStep ar w0 base bp n P g w ans pc S) : AnyBoth P n pc S m :=
  ⟨ans, pc, m, 0, 0, 0, S, h1, h2, Nat.le_refl _, by omega, by omega, fun _ _ => rfl, fun j hj => by omega⟩
theorem prog_cells {w : World} {b : Nat} {P : List (Int × Int)} (h : ProgIn w (some ⟨b, 0, none⟩) P) (k : Nat) (op arg : Int) (hk : P[k]? = some (op, arg)) : w.cell? ⟨b, 0 + k * 2, none⟩ = some (.int .u8 op) ∧ w.cell? ⟨b, 0 + k * 2 + 1, none⟩ = some (.int .i32 arg) ∧ b < w.heap.size := by
  obtain ⟨hlt, he⟩ := List.getElem?_eq_some_iff.1 hk
  rcases h with h0 | ⟨b', off, hq, hb, hc⟩
  · omega
  · cases hq
    have := hc k hlt
    rw [he] at this
    exact ⟨this.1, this.2, hb⟩
theorem one_cell {w : World} {a : Option Addr} {l : List Int} {x : Int} {m : Nat} (hl : l.length = m) (h : I32In w a (l ++ [x])) : ∃ b off, a = some ⟨b, off, none⟩ ∧ b < w.heap.size ∧ w.cell? ⟨b, off + m, none⟩ = some (.int .i32 x) := by
  rcases h with h0 | ⟨b, off, rfl, hb, hc⟩
  · simp at h0
  · have := hc m (by simp; omega)
    refine ⟨b, off, rfl, hb, ?_⟩
    rw [this]
    subst hl
    simp
theorem two_cells {w : World} {a : Option Addr} {l : List Int} {y x : Int} {m : Nat} (hl : l.length = m) (h : I32In w a (l ++ [y, x])) : ∃ b off, a = some ⟨b, off, none⟩ ∧ b < w.heap.size ∧ w.cell? ⟨b, off + m, none⟩ = some (.int .i32 y) ∧ w.cell? ⟨b, off + (m + 1), none⟩ = some (.int .i32 x) := by
  rcases h with h0 | ⟨b, off, rfl, hb, hc⟩
  · simp at h0
  · have h1 := hc m (by simp; omega)
    have h2 := hc (m + 1) (by simp; omega)
    subst hl
    refine ⟨b, off, rfl, hb, ?_, ?_⟩
    · rw [h1]
      simp
    · rw [h2]
      simp
theorem last_one (S : List Int) (h : 1 ≤ S.length) : ∃ l x, S = l ++ [x] := by
  obtain ⟨l, x, rfl⟩ := List.eq_nil_or_concat S |>.resolve_left (by intro e; subst e; simp at h)
  exact ⟨l, x, by simp⟩
theorem last_two (S : List Int) (h : 2 ≤ S.length) : ∃ l y x, S = l ++ [y, x] := by
  obtain ⟨l, x, rfl⟩ := last_one S (by omega)
  obtain ⟨l', y, rfl⟩ := last_one l (by simp at h; omega)
  exact ⟨l', y, x, by simp⟩
theorem both_push (P : List (Int × Int)) (n k : Nat) (arg : Int) (S : List Int) (m : Nat) (hn : n = P.length) (hn1 : n ≤ 1024) (hl : S.length = m) (hm : m ≤ 1024) (hk : P[k]? = some (0, arg)) (ha : -2147483648 ≤ arg ∧ arg ≤ 2147483647) : AnyBoth P n k S m := by
  have hkn : k < n := by have := (List.getElem?_eq_some_iff.1 hk).1; omega
  refine ⟨0, k + 1, m, arg, 0, 1, S ++ [arg], ?_, ?_, by omega, by omega, by simp; omega, ?_, ?_⟩
  · intro b cap a2 cap2 w hP hS
    obtain ⟨k0, k1, hb⟩ := prog_cells hP k 0 arg hk
    exact gm_push b 0 k n cap arg w a2 m cap2 hkn (by omega) (by omega) ha k0 k1 hb
  · intro ar w0 base bp g w h
    exact h.push (by omega) hk (by omega)
  · intro j hj
    exact List.getElem?_append_left (by omega)
  · intro j hj
    obtain rfl : j = 0 := by omega
    rw [List.getElem?_append_right (by omega)]
    simp [hl]
theorem both_pop (P : List (Int × Int)) (n k : Nat) (arg : Int) (l : List Int) (x : Int) (m : Nat) (hn : n = P.length) (hn1 : n ≤ 1024) (hl : l.length = m) (hm : m ≤ 1024) (hk : P[k]? = some (1, arg)) (ha : -2147483648 ≤ arg ∧ arg ≤ 2147483647) (hx : -2147483648 ≤ x ∧ x ≤ 2147483647) : AnyBoth P n k (l ++ [x]) (m + 1) := by
  have hkn : k < n := by have := (List.getElem?_eq_some_iff.1 hk).1; omega
  refine ⟨0, k + 1, m, 0, 0, 0, l, ?_, ?_, by omega, by omega, by simp; omega, ?_, ?_⟩
  · intro b cap a2 cap2 w hP hS
    obtain ⟨k0, k1, hb⟩ := prog_cells hP k 1 arg hk
    obtain ⟨b2, off2, rfl, hb2, cx⟩ := one_cell hl hS
    exact gm_pop b 0 k n cap arg w m cap2 hkn (by omega) (by omega) ha k0 k1 hb x hx b2 off2 hb2 cx
  · intro ar w0 base bp g w h
    exact h.pop (by omega) hk (by omega) hx
  · intro j hj
    exact (List.getElem?_append_left (by omega)).symm
  · intro j hj
    omega
theorem both_dup (P : List (Int × Int)) (n k : Nat) (arg : Int) (l : List Int) (x : Int) (m : Nat) (hn : n = P.length) (hn1 : n ≤ 1024) (hl : l.length = m) (hm : m ≤ 1024) (hk : P[k]? = some (2, arg)) (ha : -2147483648 ≤ arg ∧ arg ≤ 2147483647) (hx : -2147483648 ≤ x ∧ x ≤ 2147483647) : AnyBoth P n k (l ++ [x]) (m + 1) := by
  have hkn : k < n := by have := (List.getElem?_eq_some_iff.1 hk).1; omega
  refine ⟨0, k + 1, m, x, x, 2, l ++ [x, x], ?_, ?_, by omega, by omega, by simp; omega, ?_, ?_⟩
  · intro b cap a2 cap2 w hP hS
    obtain ⟨k0, k1, hb⟩ := prog_cells hP k 2 arg hk
    obtain ⟨b2, off2, rfl, hb2, cx⟩ := one_cell hl hS
    exact gm_dup b 0 k n cap arg w m cap2 hkn (by omega) (by omega) ha k0 k1 hb x hx b2 off2 hb2 cx
  · intro ar w0 base bp g w h
    exact h.dup (by omega) hk (by omega) hx
  · intro j hj
    rw [List.getElem?_append_left (by omega), List.getElem?_append_left (by omega)]
  · intro j hj
    rw [List.getElem?_append_right (by omega), hl, Nat.add_sub_cancel_left]
theorem both_swap (P : List (Int × Int)) (n k : Nat) (arg : Int) (l : List Int) (y x : Int) (m : Nat) (hn : n = P.length) (hn1 : n ≤ 1024) (hl : l.length = m) (hm : m ≤ 1024) (hk : P[k]? = some (3, arg)) (ha : -2147483648 ≤ arg ∧ arg ≤ 2147483647) (hx : -2147483648 ≤ x ∧ x ≤ 2147483647) (hy : -2147483648 ≤ y ∧ y ≤ 2147483647) : AnyBoth P n k (l ++ [y, x]) (m + 2) := by
  have hkn : k < n := by have := (List.getElem?_eq_some_iff.1 hk).1; omega
  refine ⟨0, k + 1, m, x, y, 2, l ++ [x, y], ?_, ?_, by omega, by omega, by simp; omega, ?_, ?_⟩
  · intro b cap a2 cap2 w hP hS
    obtain ⟨k0, k1, hb⟩ := prog_cells hP k 3 arg hk
    obtain ⟨b2, off2, rfl, hb2, cy, cx⟩ := two_cells hl hS
    exact gm_swap b 0 k n cap arg w m cap2 hkn (by omega) (by omega) ha k0 k1 hb y x hx hy b2 off2 hb2 cy cx
  · intro ar w0 base bp g w h
    exact h.swap (by omega) hk (by omega) hx hy
  · intro j hj
    rw [List.getElem?_append_left (by omega), List.getElem?_append_left (by omega)]
  · intro j hj
    rw [List.getElem?_append_right (by omega), hl, Nat.add_sub_cancel_left]
theorem both_add (P : List (Int × Int)) (n k : Nat) (arg : Int) (l : List Int) (y x : Int) (m : Nat) (hn : n = P.length) (hn1 : n ≤ 1024) (hl : l.length = m) (hm : m ≤ 1024) (hk : P[k]? = some (4, arg)) (ha : -2147483648 ≤ arg ∧ arg ≤ 2147483647) (hx : -2147483648 ≤ x ∧ x ≤ 2147483647) (hy : -2147483648 ≤ y ∧ y ≤ 2147483647) : AnyBoth P n k (l ++ [y, x]) (m + 2) := by
  have hkn : k < n := by have := (List.getElem?_eq_some_iff.1 hk).1; omega
  refine ⟨0, k + 1, m, RowKit.wrap32 (y + x), 0, 1, l ++ [RowKit.wrap32 (y + x)], ?_, ?_, by omega, by omega, by simp; omega, ?_, ?_⟩
  · intro b cap a2 cap2 w hP hS
    obtain ⟨k0, k1, hb⟩ := prog_cells hP k 4 arg hk
    obtain ⟨b2, off2, rfl, hb2, cy, cx⟩ := two_cells hl hS
    exact gm_add b 0 k n cap arg w m cap2 hkn (by omega) (by omega) ha k0 k1 hb y x hx hy b2 off2 hb2 cy cx
  · intro ar w0 base bp g w h
    exact h.add (by omega) hk (by omega) hx hy
  · intro j hj
    rw [List.getElem?_append_left (by omega), List.getElem?_append_left (by omega)]
  · intro j hj
    obtain rfl : j = 0 := by omega
    rw [List.getElem?_append_right (by omega)]
    simp [hl]
theorem both_sub (P : List (Int × Int)) (n k : Nat) (arg : Int) (l : List Int) (y x : Int) (m : Nat) (hn : n = P.length) (hn1 : n ≤ 1024) (hl : l.length = m) (hm : m ≤ 1024) (hk : P[k]? = some (5, arg)) (ha : -2147483648 ≤ arg ∧ arg ≤ 2147483647) (hx : -2147483648 ≤ x ∧ x ≤ 2147483647) (hy : -2147483648 ≤ y ∧ y ≤ 2147483647) : AnyBoth P n k (l ++ [y, x]) (m + 2) := by
  have hkn : k < n := by have := (List.getElem?_eq_some_iff.1 hk).1; omega
  refine ⟨0, k + 1, m, RowKit.wrap32 (y - x), 0, 1, l ++ [RowKit.wrap32 (y - x)], ?_, ?_, by omega, by omega, by simp; omega, ?_, ?_⟩
  · intro b cap a2 cap2 w hP hS
    obtain ⟨k0, k1, hb⟩ := prog_cells hP k 5 arg hk
    obtain ⟨b2, off2, rfl, hb2, cy, cx⟩ := two_cells hl hS
    exact gm_sub b 0 k n cap arg w m cap2 hkn (by omega) (by omega) ha k0 k1 hb y x hx hy b2 off2 hb2 cy cx
  · intro ar w0 base bp g w h
    exact h.sub (by omega) hk (by omega) hx hy
  · intro j hj
    rw [List.getElem?_append_left (by omega), List.getElem?_append_left (by omega)]
  · intro j hj
    obtain rfl : j = 0 := by omega
    rw [List.getElem?_append_right (by omega)]
    simp [hl]
theorem both_mul (P : List (Int × Int)) (n k : Nat) (arg : Int) (l : List Int) (y x : Int) (m : Nat) (hn : n = P.length) (hn1 : n ≤ 1024) (hl : l.length = m) (hm : m ≤ 1024) (hk : P[k]? = some (6, arg)) (ha : -2147483648 ≤ arg ∧ arg ≤ 2147483647) (hx : -2147483648 ≤ x ∧ x ≤ 2147483647) (hy : -2147483648 ≤ y ∧ y ≤ 2147483647) : AnyBoth P n k (l ++ [y, x]) (m + 2) := by
  have hkn : k < n := by have := (List.getElem?_eq_some_iff.1 hk).1; omega
  refine ⟨0, k + 1, m, RowKit.wrap32 (y * x), 0, 1, l ++ [RowKit.wrap32 (y * x)], ?_, ?_, by omega, by omega, by simp; omega, ?_, ?_⟩
  · intro b cap a2 cap2 w hP hS
    obtain ⟨k0, k1, hb⟩ := prog_cells hP k 6 arg hk
    obtain ⟨b2, off2, rfl, hb2, cy, cx⟩ := two_cells hl hS
    exact gm_mul b 0 k n cap arg w m cap2 hkn (by omega) (by omega) ha k0 k1 hb y x hx hy b2 off2 hb2 cy cx
  · intro ar w0 base bp g w h
    exact h.mul (by omega) hk (by omega) hx hy
  · intro j hj
    rw [List.getElem?_append_left (by omega), List.getElem?_append_left (by omega)]
  · intro j hj
    obtain rfl : j = 0 := by omega
    rw [List.getElem?_append_right (by omega)]
    simp [hl]
theorem both_jnz0 (P : List (Int × Int)) (n k : Nat) (arg : Int) (l : List Int) (x : Int) (m : Nat) (hn : n = P.length) (hn1 : n ≤ 1024) (hl : l.length = m) (hm : m ≤ 1024) (hk : P[k]? = some (7, arg)) (ha : -2147483648 ≤ arg ∧ arg ≤ 2147483647) (hx : -2147483648 ≤ x ∧ x ≤ 2147483647) (hz : x = 0) : AnyBoth P n k (l ++ [x]) (m + 1) := by
  have hkn : k < n := by have := (List.getElem?_eq_some_iff.1 hk).1; omega
  refine ⟨0, k + 1, m, 0, 0, 0, l, ?_, ?_, by omega, by omega, by simp; omega, ?_, ?_⟩
  · intro b cap a2 cap2 w hP hS
    obtain ⟨k0, k1, hb⟩ := prog_cells hP k 7 arg hk
    obtain ⟨b2, off2, rfl, hb2, cx⟩ := one_cell hl hS
    exact gm_jnz0 b 0 k n cap arg w m cap2 hkn (by omega) (by omega) ha k0 k1 hb x hx b2 off2 hb2 cx hz
  · intro ar w0 base bp g w h
    exact h.jnz0 (by omega) hk (by omega) hx hz
  · intro j hj
    exact (List.getElem?_append_left (by omega)).symm
  · intro j hj
    omega
theorem both_jnz1 (P : List (Int × Int)) (n k : Nat) (arg : Int) (l : List Int) (x : Int) (m : Nat) (hn : n = P.length) (hn1 : n ≤ 1024) (hl : l.length = m) (hm : m ≤ 1024) (hk : P[k]? = some (7, arg)) (ha : -2147483648 ≤ arg ∧ arg ≤ 2147483647) (hx : -2147483648 ≤ x ∧ x ≤ 2147483647) (hz : x ≠ 0) : AnyBoth P n k (l ++ [x]) (m + 1) := by
  have hkn : k < n := by have := (List.getElem?_eq_some_iff.1 hk).1; omega
  refine ⟨0, arg, m, 0, 0, 0, l, ?_, ?_, by omega, by omega, by simp; omega, ?_, ?_⟩
  · intro b cap a2 cap2 w hP hS
    obtain ⟨k0, k1, hb⟩ := prog_cells hP k 7 arg hk
    obtain ⟨b2, off2, rfl, hb2, cx⟩ := one_cell hl hS
    exact gm_jnz1 b 0 k n cap arg w m cap2 hkn (by omega) (by omega) ha k0 k1 hb x hx b2 off2 hb2 cx hz
  · intro ar w0 base bp g w h
    exact h.jnz1 (by omega) hk (by omega) hx hz ha
  · intro j hj
    exact (List.getElem?_append_left (by omega)).symm
  · intro j hj
    omega
theorem both_any (P : List (Int × Int)) (n : Nat) (pc : Int) (S : List Int) (m : Nat) (hn : n = P.length) (hn1 : n ≤ 1024) (hm : m = S.length) (hm1 : m ≤ 1024) (hok : ∀ q ∈ P, okI q) (hr : ∀ x ∈ S, -2147483648 ≤ x ∧ x ≤ 2147483647) : AnyBoth P n pc S m := by
  by_cases h1 : pc = (n : Int)
  · subst h1
    exact both_same hm 1 (fun b cap a2 cap2 w _ _ => gm_halted _ a2 n cap m cap2 w (by omega) (by omega)) (fun ar w0 base bp g w h => h.halted (by omega))
  by_cases h2 : pc < 0 ∨ (n : Int) < pc
  · exact both_same hm 4 (fun b cap a2 cap2 w _ _ => gm_badpc _ a2 n cap m cap2 pc w (by omega) (by omega) h2) (fun ar w0 base bp g w h => h.badpc (by omega) h2)
  obtain ⟨k, rfl⟩ : ∃ k : Nat, pc = (k : Int) := ⟨pc.toNat, by omega⟩
  have hkP : k < P.length := by omega
  have hokk := hok P[k] (List.getElem_mem hkP)
  obtain ⟨op, arg, hq⟩ : ∃ op arg, P[k] = (op, arg) := ⟨_, _, rfl⟩
  have hk : P[k]? = some (op, arg) := by rw [List.getElem?_eq_getElem hkP, hq]
  rw [hq] at hokk
  obtain ⟨⟨o0, o1⟩, ha⟩ := hokk
  simp only at o0 o1 ha
  clear hq
  by_cases h8 : 8 ≤ op
  · refine both_same hm 3 (fun b cap a2 cap2 w hP _ => ?_) (fun ar w0 base bp g w h => h.badop (by omega) hk h8)
    obtain ⟨k0, k1, hb⟩ := prog_cells hP k op arg hk
    exact gm_badop b 0 k n cap arg w a2 m cap2 (by omega) (by omega) (by omega) ha k1 hb op k0 h8
  have under : ∀ (nd : Int), effPops op = nd → (m : Int) < nd → GMC P n k S m 2 k m 0 0 0 → AnyBoth P n k S m := fun nd h3 h4 h5 =>
    both_same hm 2 h5 (fun ar w0 base bp g w h => h.under (by omega) hk ⟨o0, by omega⟩ (by rw [h3]; omega) (by omega))
  obtain h | h | h | h | h | h | h | h : op = 0 ∨ op = 1 ∨ op = 2 ∨ op = 3 ∨ op = 4 ∨ op = 5 ∨ op = 6 ∨ op = 7 := by omega
  · subst h
    exact both_push P n k arg S m hn hn1 hm.symm hm1 hk ha
  · subst h
    by_cases hs : 1 ≤ m
    · obtain ⟨l, x, rfl⟩ := last_one S (by omega)
      have hx := hr x (by simp)
      obtain rfl : m = l.length + 1 := by simpa using hm
      exact both_pop P n k arg l x l.length hn hn1 rfl (by omega) hk ha hx
    · refine under 1 rfl (by omega) (fun b cap a2 cap2 w hP _ => ?_)
      obtain ⟨k0, k1, hb⟩ := prog_cells hP k 1 arg hk
      exact gm_under1_1 b 0 k n cap arg w a2 m cap2 (by omega) (by omega) (by omega) ha k0 k1 hb (by omega)
  · subst h
    by_cases hs : 1 ≤ m
    · obtain ⟨l, x, rfl⟩ := last_one S (by omega)
      have hx := hr x (by simp)
      obtain rfl : m = l.length + 1 := by simpa using hm
      exact both_dup P n k arg l x l.length hn hn1 rfl (by omega) hk ha hx
    · refine under 1 rfl (by omega) (fun b cap a2 cap2 w hP _ => ?_)
      obtain ⟨k0, k1, hb⟩ := prog_cells hP k 2 arg hk
      exact gm_under1_2 b 0 k n cap arg w a2 m cap2 (by omega) (by omega) (by omega) ha k0 k1 hb (by omega)
  · subst h
    by_cases hs : 2 ≤ m
    · obtain ⟨l, y, x, rfl⟩ := last_two S (by omega)
      have hx := hr x (by simp)
      have hy := hr y (by simp)
      obtain rfl : m = l.length + 2 := by simpa using hm
      exact both_swap P n k arg l y x l.length hn hn1 rfl (by omega) hk ha hx hy
    · refine under 2 rfl (by omega) (fun b cap a2 cap2 w hP _ => ?_)
      obtain ⟨k0, k1, hb⟩ := prog_cells hP k 3 arg hk
      exact gm_under2_3 b 0 k n cap arg w a2 m cap2 (by omega) (by omega) (by omega) ha k0 k1 hb (by omega)
  · subst h
    by_cases hs : 2 ≤ m
    · obtain ⟨l, y, x, rfl⟩ := last_two S (by omega)
      have hx := hr x (by simp)
      have hy := hr y (by simp)
      obtain rfl : m = l.length + 2 := by simpa using hm
      exact both_add P n k arg l y x l.length hn hn1 rfl (by omega) hk ha hx hy
    · refine under 2 rfl (by omega) (fun b cap a2 cap2 w hP _ => ?_)
      obtain ⟨k0, k1, hb⟩ := prog_cells hP k 4 arg hk
      exact gm_under2_4 b 0 k n cap arg w a2 m cap2 (by omega) (by omega) (by omega) ha k0 k1 hb (by omega)
  · subst h
    by_cases hs : 2 ≤ m
    · obtain ⟨l, y, x, rfl⟩ := last_two S (by omega)
      have hx := hr x (by simp)
      have hy := hr y (by simp)
      obtain rfl : m = l.length + 2 := by simpa using hm
      exact both_sub P n k arg l y x l.length hn hn1 rfl (by omega) hk ha hx hy
    · refine under 2 rfl (by omega) (fun b cap a2 cap2 w hP _ => ?_)
      obtain ⟨k0, k1, hb⟩ := prog_cells hP k 5 arg hk
      exact gm_under2_5 b 0 k n cap arg w a2 m cap2 (by omega) (by omega) (by omega) ha k0 k1 hb (by omega)
  · subst h
    by_cases hs : 2 ≤ m
    · obtain ⟨l, y, x, rfl⟩ := last_two S (by omega)
      have hx := hr x (by simp)
      have hy := hr y (by simp)
      obtain rfl : m = l.length + 2 := by simpa using hm
      exact both_mul P n k arg l y x l.length hn hn1 rfl (by omega) hk ha hx hy
    · refine under 2 rfl (by omega) (fun b cap a2 cap2 w hP _ => ?_)
      obtain ⟨k0, k1, hb⟩ := prog_cells hP k 6 arg hk
      exact gm_under2_6 b 0 k n cap arg w a2 m cap2 (by omega) (by omega) (by omega) ha k0 k1 hb (by omega)
  · subst h
    by_cases hs : 1 ≤ m
    · obtain ⟨l, x, rfl⟩ := last_one S (by omega)
      have hx := hr x (by simp)
      obtain rfl : m = l.length + 1 := by simpa using hm
      exact (if hz : x = 0 then both_jnz0 P n k arg l x l.length hn hn1 rfl (by omega) hk ha hx hz else both_jnz1 P n k arg l x l.length hn hn1 rfl (by omega) hk ha hx hz)
    · refine under 1 rfl (by omega) (fun b cap a2 cap2 w hP _ => ?_)
      obtain ⟨k0, k1, hb⟩ := prog_cells hP k 7 arg hk
      exact gm_under1_7 b 0 k n cap arg w a2 m cap2 (by omega) (by omega) (by omega) ha k0 k1 hb (by omega)
end Go.Proofs.Ymbrbx

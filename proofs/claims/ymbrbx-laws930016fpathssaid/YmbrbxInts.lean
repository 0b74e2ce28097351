import Derived.Test.YmbrbxOwnProg
import Derived.Test.YmbrbxEffect
import Derived.OneCell
namespace Go.Proofs.Ymbrbx
open Go.ChangeShapes Go.WideShapes Go.ChangeAt Go.RowKit
set_option linter.unusedVariables false
set_option linter.unusedSimpArgs false

/-! ### A slice of ints that the call itself makes -/
def icells (l : List Int) : List Value := l.map fun x => .int .i64 x
def OwnI (base : Nat) (w : World) (v : Value) (l : List Int) : Prop := w.ownsRow base 3 1 v l.length (icells l)
theorem OwnI.alloc {base : Nat} {w : World} {v : Value} {l : List Int} (h : OwnI base w v l) (o : Obj) : OwnI base (w.alloc o) v l := World.ownsRow.alloc h o
theorem OwnI.below {base : Nat} {w w' : World} {v : Value} {l : List Int} (h : OwnI base w v l) (hb : Below w.heap.size w w') : OwnI base w' v l :=
  World.ownsRow.kept (row := none) h ⟨hb.os, hb.tape, hb.output, hb.size, fun j hj _ => hb.block j hj⟩ (by cases hv : v.ownBlock <;> simp)
theorem info3 : (Ybxm.prog.info? 3).map (fun i => (i.zero, i.size, i.bytes)) = some (some (.int .i64 0), 1, 8) := by kernel_rfl
theorem wpList_make_ints {w : World} {ops : Array Oper} {rest : List Oper} {o : Oper} {a : Act} {Q : Exit → Act → World → Prop} (hg : o.guard = none) (l c : Operand)
    (hop : o.op = Op.makeSlice 30 l c) (base n : Nat) (L C : Int) (hl : a.eval l = .int .i64 L) (hc : a.eval c = .int .i64 C) (hL : L = (n : Int)) (hC : C = (n : Int)) (hn : n ≤ 1000000) (hb : base ≤ w.heap.size)
    (h : ∀ w', OwnI base w' (.slice (some ⟨w.heap.size, 0, none⟩) n n) (List.replicate n 0) → w.grownBy w' none → wpList Ybxm.prog ops Q rest (a.put o.dst (.slice (some ⟨w.heap.size, 0, none⟩) n n)) w') :
    wpList Ybxm.prog ops Q (o :: rest) a w := by
  obtain ⟨i, hi, hz0, hz1, hz2⟩ := info_parts info3
  refine wpList_make_full w hg l c 30 hop base 3 i (.int .i64 0) 1 Ybxm.underlying30 hi hz0 hz1 .i64 .i64 L C n hl hc hL hC (by rw [hz2]; omega) (by unfold maxLen; omega) hb ?_
  intro w' h1 h2
  refine h w' ?_ h2
  unfold OwnI icells
  rw [List.length_replicate, List.map_replicate]
  have e : (madeCells (Value.int .i64 0).cells (n * 1)).toList = List.replicate n (.int .i64 0) := by
    rw [Nat.mul_one]
    exact toList_madeCells_one _ _
  rw [e] at h1
  exact h1
theorem OwnI.store {base g n : Nat} {w : World} {l : List Int} (h : OwnI base w (.slice (some ⟨g, 0, none⟩) n n) l) (hl : l.length = n) (j : Nat) (z : Int) :
    OwnI base (w.setCell ⟨g, j, none⟩ (.int .i64 z)) (.slice (some ⟨g, 0, none⟩) n n) (l.set j z) := by
  unfold OwnI at h ⊢
  rw [hl] at h
  have := (World.ownsRow.stored h j (.int .i64 z)).1
  rw [List.length_set, hl]
  have e : icells (l.set j z) = (icells l).set j (.int .i64 z) := by unfold icells; rw [List.map_set]
  rw [e]
  exact this
theorem OwnI.at {base g n : Nat} {w : World} {l : List Int} (h : OwnI base w (.slice (some ⟨g, 0, none⟩) n n) l) (hl : l.length = n) (j : Nat) (x : Int) (hj : l[j]? = some x) : w.cell? ⟨g, j, none⟩ = some (.int .i64 x) := by
  have hlt : j < l.length := (List.getElem?_eq_some_iff.1 hj).1
  unfold OwnI at h
  rw [hl] at h
  rw [World.ownsRow.cellAt h j (by omega)]
  unfold icells
  rw [List.getElem?_map, hj]
  rfl
theorem OwnI.free {base g n : Nat} {w : World} {l : List Int} (h : OwnI base w (.slice (some ⟨g, 0, none⟩) n n) l) (hl : l.length = n) (j : Nat) : w.frozen? ⟨g, j, none⟩ = false := by
  unfold OwnI at h
  rw [hl] at h
  exact World.ownsRow.frozenAt h j
theorem OwnI.block {base g n cap : Nat} {w : World} {l : List Int} (h : OwnI base w (.slice (some ⟨g, 0, none⟩) n cap) l) : base ≤ g ∧ g < w.heap.size := World.ownsRow.lt h g rfl

/-! ### The running heights -/
def dlt (op : Int) : Int := effPush op - effPops op
def hgt (P : List (Int × Int)) (i : Nat) : Int := ((P.take i).map fun q => dlt q.1).sum
theorem hgt_zero (P : List (Int × Int)) : hgt P 0 = 0 := rfl
theorem hgt_succ (P : List (Int × Int)) (i : Nat) (h : i < P.length) : hgt P (i + 1) = hgt P i + dlt P[i].1 := by
  unfold hgt
  rw [List.take_succ_eq_append_getElem h, List.map_append, List.sum_append]
  simp
theorem dlt_bounds (op : Int) (h : 0 ≤ op) : -1 ≤ dlt op ∧ dlt op ≤ 1 := by
  unfold dlt
  have := eff_cases op h
  omega
theorem hgt_bounds (P : List (Int × Int)) (hok : ∀ q ∈ P, okI q) : ∀ i, i ≤ P.length → -(i : Int) ≤ hgt P i ∧ hgt P i ≤ i
  | 0, _ => by rw [hgt_zero]; omega
  | i + 1, h => by
    have h1 := hgt_bounds P hok i (by omega)
    have h2 := dlt_bounds P[i].1 (hok P[i] (List.getElem_mem (by omega))).1.1
    rw [hgt_succ P i (by omega)]
    omega
def Hts (P : List (Int × Int)) (L : List Int) : Prop := L.length = P.length + 1 ∧ ∀ j, j ≤ P.length → L[j]? = some (hgt P j)

theorem fneed_any (n : Int) (h0 : 0 ≤ n) (w : World) : Calls Ybxm.prog 22 #[.int .u8 n] w fun e w' => e = .returned (.int .i64 (effPops n)) ∧ w' = w := by
  by_cases h8 : n < 8
  · obtain h | h | h | h | h | h | h | h : n = 0 ∨ n = 1 ∨ n = 2 ∨ n = 3 ∨ n = 4 ∨ n = 5 ∨ n = 6 ∨ n = 7 := by omega
    all_goals
      subst h
      go_enter Ybxm.func22, Ybxm.ntmps22
      go_wp2
      go_ret
      exact ⟨rfl, rfl⟩
  · have e1 : effPops n = 0 := by
      unfold effPops; rw [if_neg (by omega), if_neg (by omega), if_neg (by omega)]
    have q1 : (n == 1) = false := int_ne (by omega)
    have q2 : (n == 2) = false := int_ne (by omega)
    have q3 : (n == 3) = false := int_ne (by omega)
    have q4 : (n == 4) = false := int_ne (by omega)
    have q5 : (n == 5) = false := int_ne (by omega)
    have q6 : (n == 6) = false := int_ne (by omega)
    have q7 : (n == 7) = false := int_ne (by omega)
    rw [e1]
    clear e1
    go_enter Ybxm.func22, Ybxm.ntmps22
    go_wp2
    go_ret
    exact ⟨rfl, rfl⟩
theorem fdelta_any (n : Int) (h0 : 0 ≤ n) (w : World) : Calls Ybxm.prog 23 #[.int .u8 n] w fun e w' => e = .returned (.int .i64 (dlt n)) ∧ w' = w := by
  by_cases h8 : n < 8
  · obtain h | h | h | h | h | h | h | h : n = 0 ∨ n = 1 ∨ n = 2 ∨ n = 3 ∨ n = 4 ∨ n = 5 ∨ n = 6 ∨ n = 7 := by omega
    all_goals
      subst h
      go_enter Ybxm.func23, Ybxm.ntmps23
      go_wp2
      go_ret
      exact ⟨rfl, rfl⟩
  · have e1 : dlt n = 0 := by
      have := eff_cases n h0
      unfold dlt
      omega
    have q0 : (n == 0) = false := int_ne (by omega)
    have q1 : (n == 1) = false := int_ne (by omega)
    have q2 : (n == 2) = false := int_ne (by omega)
    have q4 : (n == 4) = false := int_ne (by omega)
    have q5 : (n == 5) = false := int_ne (by omega)
    have q6 : (n == 6) = false := int_ne (by omega)
    have q7 : (n == 7) = false := int_ne (by omega)
    rw [e1]
    clear e1
    go_enter Ybxm.func23, Ybxm.ntmps23
    go_wp2
    go_ret
    exact ⟨rfl, rfl⟩

set_option maxRecDepth 100000 in
set_option maxHeartbeats 4000000 in
theorem fheights_any (P : List (Int × Int)) (n : Nat) (a : Option Addr) (cap : Nat) (w : World) (HN : Hid (n = P.length)) (hn : n ≤ 1024) (HOK : Hid (∀ q ∈ P, okI q)) (HP : Hid (ProgIn w a P)) :
    Calls Ybxm.prog 19 #[.slice a n cap] w fun e w' => ∃ L, e = .returned (.slice (some ⟨w.heap.size, 0, none⟩) (n + 1) (n + 1)) ∧ OwnI w.heap.size w' (.slice (some ⟨w.heap.size, 0, none⟩) (n + 1) (n + 1)) L ∧ Hts P L ∧ Below w.heap.size w w' := by
  go_enter Ybxm.func19, Ybxm.ntmps19
  go_wp2_with (at_make; refine wpList_make_ints rfl (.tmp 8) (.tmp 8) rfl w.heap.size (n + 1) _ _ rfl rfl (by omega) (by omega) (by omega) (Nat.le_refl _) ?_)
  intro w1 hown1 hgrow1
  have hbel1 : Below w.heap.size w w1 := (Below.refl _ _).grown hgrow1 (Nat.le_refl _) (fun k hk => by cases hk)
  clear hgrow1
  go_wp2
  go_loopw [4, 5] (fun x i wr => ∃ (k : Nat) (L : List Int) (h : Int), k ≤ n ∧ i = .int .i64 k ∧ x = .int .i64 h ∧ Hid (h = hgt P k) ∧ L.length = n + 1 ∧ Hid (∀ j, j ≤ k → L[j]? = some (hgt P j)) ∧ OwnI w.heap.size wr (.slice (some ⟨w.heap.size, 0, none⟩) (n + 1) (n + 1)) L ∧ Below w.heap.size w wr) (fun _ i _ => n - (intOf i).toNat)
  case atStart =>
    refine ⟨0, _, 0, by omega, rfl, rfl, rfl, by simp, ?_, hown1, hbel1⟩
    intro j hj
    obtain rfl : j = 0 := by omega
    rw [hgt_zero]
    simp
  case round =>
    obtain ⟨k, L, h, hk, rfl, rfl, HH, hL, HL, hown, hbel⟩ := hrel
    clear hown1 hbel1
    have hsz := hbel.size
    by_cases hlt : k < n
    · have hkP : k < P.length := by have := HN.out; omega
      rcases HP.out with h0 | ⟨b, off, rfl, hb, hc⟩
      · omega
      · obtain ⟨c0, c1⟩ := hc k hkP
        have hokk := HOK.out P[k] (List.getElem_mem hkP)
        have hs := hgt_succ P k hkP
        have hbd := hgt_bounds P HOK.out k (by omega)
        rw [← HH.out] at hs hbd
        obtain ⟨op, hop⟩ : ∃ op, op = P[k].1 := ⟨_, rfl⟩
        rw [← hop] at c0 hs
        have ho0 : 0 ≤ op := by rw [hop]; exact hokk.1.1
        have k0 : wr.cell? ⟨b, off + k * 2, none⟩ = some (.int .u8 op) := (hbel.cell (p := ⟨b, off + k * 2, none⟩) hb).trans c0
        have hFD := fun W => fdelta_any op ho0 W
        have hdb := dlt_bounds op ho0
        obtain ⟨d, hd⟩ : ∃ d, d = dlt op := ⟨_, rfl⟩
        rw [← hd] at hFD hdb hs
        have HS : Hid (h + d = hgt P (k + 1)) := hs.symm
        have hx : ∃ x, L[k + 1]? = some x := ⟨L[k + 1], List.getElem?_eq_getElem (by omega)⟩
        obtain ⟨x, hx⟩ := hx
        have e0 := hown.at hL (k + 1) x hx
        have e1 := hown.free hL (k + 1)
        have hown' := hown.store hL (k + 1) (h + d)
        have hbel' := hbel.setCell (p := ⟨w.heap.size, k + 1, none⟩) (Nat.le_refl _) (.int .i64 (h + d))
        have hL' : (L.set (k + 1) (h + d)).length = n + 1 := by rw [List.length_set]; exact hL
        have HL' : Hid (∀ j, j ≤ k + 1 → (L.set (k + 1) (h + d))[j]? = some (hgt P j)) := by
          intro j hj
          rw [List.getElem?_set]
          by_cases hjk : k + 1 = j
          · rw [if_pos hjk, if_pos (by omega), HS.out, hjk]
          · rw [if_neg hjk]
            exact HL.out j (by omega)
        clear c0 c1 hc hokk hs hop hd hx HL
        go_wp2_with fail
        refine (hFD _).mono ?_
        rintro e wr ⟨rfl, rfl⟩
        go_wp2_with fail
        go_roundw
        case rel => exact ⟨k + 1, _, h + d, by omega, by go_num, by go_num, HS, hL', HL', hown', hbel'⟩
        case measure => simp [intOf]; omega
    · obtain rfl : k = n := by omega
      have hh : Hts P L := ⟨by rw [hL, HN.out], fun j hj => HL.out j (by have := HN.out; omega)⟩
      have HHH : Hid (Hts P L) := hh
      clear hh
      go_wp2
      go_ret
      exact ⟨L, rfl, hown, HHH, hbel⟩
end Go.Proofs.Ymbrbx

import Derived.Test.YmbrbxMach
namespace Go.Proofs.Ymbrbx
open Go.ChangeShapes Go.WideShapes Go.ChangeAt Go.RowKit
set_option linter.unusedVariables false
set_option linter.unusedSimpArgs false

/-! ### Rows of int32 that are only read -/
def I32In (w : World) (a : Option Addr) (z : List Int) : Prop :=
  z.length = 0 ∨ ∃ b off, a = some ⟨b, off, none⟩ ∧ b < w.heap.size ∧ ∀ j, (h : j < z.length) → w.cell? ⟨b, off + j, none⟩ = some (.int .i32 z[j])
theorem I32In.below {w w' : World} {a : Option Addr} {z : List Int} {B : Nat} (h : I32In w a z) (hb : Below B w w') (hB : w.heap.size ≤ B) : I32In w' a z := by
  rcases h with h | ⟨b, off, rfl, hl, hc⟩
  · exact .inl h
  · exact .inr ⟨b, off, rfl, Nat.lt_of_lt_of_le hl hb.size, fun j hj => (hb.cell (p := ⟨b, off + j, none⟩) (Nat.lt_of_lt_of_le hl hB)).trans (hc j hj)⟩
theorem OwnT.read {base : Nat} {w : World} {sa : Option Addr} {n sc : Nat} {l : List Int} (h : OwnT base w (.slice sa n sc) l) (hl : l.length = n) : I32In w sa l := by
  rcases h.2 with ⟨h0, hn⟩ | ⟨gb, cap, cur, h0, h1, h2, h3⟩
  · exact .inl hn
  · cases h0
    refine .inr ⟨gb, 0, rfl, lt_of_block h2, fun j hj => ?_⟩
    rw [Nat.zero_add]
    exact OwnT.at h rfl j _ (List.getElem?_eq_getElem hj)
theorem row_i32 {w : World} {a : Option Addr} {n cap : Nat} {z : List Int} (h : IsRow .i32 w a n cap z) : ∃ S : List Int, n = S.length ∧ I32In w a S ∧ ∀ x ∈ S, -2147483648 ≤ x ∧ x ≤ 2147483647 := by
  obtain ⟨hm, hv⟩ := h.view
  rcases hv with h0 | ⟨b, off, rfl, hb, hc⟩
  · exact ⟨[], h0, .inl rfl, fun x hx => by cases hx⟩
  · refine ⟨(List.range n).map fun j => z.getD j 0, by simp, .inr ⟨b, off, rfl, hb, fun j hj => ?_⟩, fun x hx => ?_⟩
    · rw [List.getElem_map, List.getElem_range]
      exact (hc j (by simpa using hj)).1
    · obtain ⟨j, hj, rfl⟩ := List.mem_map.1 hx
      exact bounds_i32 (hc j (by simpa using hj)).2
theorem al2g (w : World) (u v : Value) (t : TypeId) : (w.alloc (.cells #[u, v] t)).cell? ⟨w.heap.size, 0, none⟩ = some u ∧ (w.alloc (.cells #[u, v] t)).cell? ⟨w.heap.size, 1, none⟩ = some v := by
  rw [World.cell?_alloc_mark, World.cell?_alloc_mark]
  exact ⟨rfl, rfl⟩
theorem wpList_make_i32s {w : World} {ops : Array Oper} {rest : List Oper} {o : Oper} {a : Act} {Q : Exit → Act → World → Prop} (hg : o.guard = none) (l c : Operand)
    (hop : o.op = Op.makeSlice 42 l c) (base n : Nat) (L C : Int) (hl : a.eval l = .int .i64 L) (hc : a.eval c = .int .i64 C) (hL : L = (n : Int)) (hC : C = (n : Int)) (hn : n ≤ 1000000) (hb : base ≤ w.heap.size)
    (h : ∀ w', OwnT base w' (.slice (some ⟨w.heap.size, 0, none⟩) n n) (List.replicate n 0) → w.grownBy w' none → wpList Ybxm.prog ops Q rest (a.put o.dst (.slice (some ⟨w.heap.size, 0, none⟩) n n)) w') :
    wpList Ybxm.prog ops Q (o :: rest) a w := by
  obtain ⟨i, hi, hz0, hz1, hz2⟩ := info_parts info21
  refine wpList_make_full w hg l c 42 hop base 21 i (.int .i32 0) 1 Ybxm.underlying42 hi hz0 hz1 .i64 .i64 L C n hl hc hL hC (by rw [hz2]; omega) (by unfold maxLen; omega) hb ?_
  intro w' h1 h2
  refine h w' ?_ h2
  unfold OwnT tcells
  rw [List.length_replicate, List.map_replicate]
  have e : (madeCells (Value.int .i32 0).cells (n * 1)).toList = List.replicate n (.int .i32 0) := by
    rw [Nat.mul_one]
    exact toList_madeCells_one _ _
  rw [e] at h1
  exact h1

set_option maxRecDepth 100000 in
set_option maxHeartbeats 4000000 in
theorem gcopy_any (z : List Int) (n : Nat) (a : Option Addr) (cap : Nat) (w : World) (HN : Hid (n = z.length)) (hn : n ≤ 1024) (HZ : Hid (I32In w a z)) (HR : Hid (∀ x ∈ z, -2147483648 ≤ x ∧ x ≤ 2147483647)) :
    Calls Ybxm.prog 25 #[.slice a n cap] w fun e w' => e = .returned (.slice (some ⟨w.heap.size, 0, none⟩) n n) ∧ OwnT w.heap.size w' (.slice (some ⟨w.heap.size, 0, none⟩) n n) z ∧ Below w.heap.size w w' := by
  go_enter Ybxm.func25, Ybxm.ntmps25
  go_wp2_with (at_make; refine wpList_make_i32s rfl (.tmp 6) (.tmp 6) rfl w.heap.size n _ _ rfl rfl (by omega) (by omega) (by omega) (Nat.le_refl _) ?_)
  intro w1 hown1 hgrow1
  have hbel1 : Below w.heap.size w w1 := (Below.refl _ _).grown hgrow1 (Nat.le_refl _) (fun k hk => by cases hk)
  clear hgrow1
  go_wp2
  go_loopw [4] (fun i wr => ∃ (k : Nat) (L : List Int), k ≤ n ∧ i = .int .i64 k ∧ L.length = n ∧ Hid (∀ j, j < k → L[j]? = z[j]?) ∧ OwnT w.heap.size wr (.slice (some ⟨w.heap.size, 0, none⟩) n n) L ∧ Below w.heap.size w wr) (fun i _ => n - (intOf i).toNat)
  case atStart => exact ⟨0, _, by omega, rfl, by simp, fun j hj => by omega, hown1, hbel1⟩
  case round =>
    obtain ⟨k, L, hk, rfl, hL, HL, hown, hbel⟩ := hrel
    clear hown1 hbel1
    have hsz := hbel.size
    by_cases hlt : k < n
    · have hkP : k < z.length := by have := HN.out; omega
      rcases HZ.out with h0 | ⟨b, off, rfl, hb, hc⟩
      · omega
      have c0 := hc k hkP
      have hr := HR.out _ (List.getElem_mem hkP)
      have HX : Hid (z[k]? = some z[k]) := List.getElem?_eq_getElem hkP
      obtain ⟨x, hx⟩ : ∃ x, z[k] = x := ⟨_, rfl⟩
      rw [hx] at c0 HX hr
      have k0 : wr.cell? ⟨b, off + k, none⟩ = some (.int .i32 x) := (hbel.cell (p := ⟨b, off + k, none⟩) hb).trans c0
      obtain ⟨y, hy⟩ : ∃ y, L[k]? = some y := ⟨L[k], List.getElem?_eq_getElem (by omega)⟩
      have e0 := hown.at hL k y hy
      have e1 := hown.free hL k
      have hown' := hown.store hL k x
      have hbel' := hbel.setCell (p := ⟨w.heap.size, k, none⟩) (Nat.le_refl _) (.int .i32 x)
      have hL' : (L.set k x).length = n := by rw [List.length_set]; exact hL
      have HL' : Hid (∀ j, j < k + 1 → (L.set k x)[j]? = z[j]?) := by
        intro j hj
        rw [List.getElem?_set]
        by_cases hjk : k = j
        · subst hjk
          rw [if_pos rfl, if_pos (by omega), HX.out]
        · rw [if_neg hjk]
          exact HL.out j (by omega)
      clear hc c0 hx hy HL HX
      go_wp2_with fail
      go_roundw
      case rel => exact ⟨k + 1, _, by omega, by go_num, hL', HL', hown', hbel'⟩
      case measure => simp [intOf]; omega
    · obtain rfl : k = n := by omega
      have e : L = z := by
        apply List.ext_getElem?
        intro j
        by_cases hj : j < k
        · exact HL.out j hj
        · rw [List.getElem?_eq_none (by omega), List.getElem?_eq_none (by have := HN.out; omega)]
      go_wp2
      go_ret
      rw [e] at hown
      exact ⟨rfl, hown, hbel⟩

set_option maxRecDepth 100000 in
set_option maxHeartbeats 4000000 in
theorem gheld_any (G S : List Int) (p0 p1 : Int) (sa a : Option Addr) (gn gc n cap keep nput : Nat) (w : World) (HGN : Hid (gn = G.length)) (HN : Hid (n = S.length)) (hn : n ≤ 1024) (hk : keep ≤ n) (hp : nput ≤ 2) (hgk : gn = keep + nput)
    (HA : Hid (∀ j, j < keep → G[j]? = S[j]?)) (HB : Hid (∀ j, j < nput → G[keep + j]? = [p0, p1][j]?)) (HG : Hid (I32In w sa G)) (HS : Hid (I32In w a S)) :
    Calls Ybxm.prog 27 #[.slice sa gn gc, .slice a n cap, .int .i64 keep, .agg #[.int .i32 p0, .int .i32 p1], .int .i64 nput] w fun e w' => e = .returned (.bool true) ∧ Below w.heap.size w w' := by
  subst hgk
  have hbel0 : Below w.heap.size w (w.alloc (.cells #[.int .i32 p0, .int .i32 p1] 44)) := (Below.refl _ _).alloc (Nat.le_refl _) _
  obtain ⟨y0, y1⟩ := al2g w (.int .i32 p0) (.int .i32 p1) 44
  go_enter Ybxm.func27, Ybxm.ntmps27
  go_wp2_with fail
  generalize hW : w.alloc (.cells #[.int .i32 p0, .int .i32 p1] 44) = W at *
  have HG1 : Hid (I32In W sa G) := HG.out.below hbel0 (Nat.le_refl _)
  have HS1 : Hid (I32In W a S) := HS.out.below hbel0 (Nat.le_refl _)
  clear HG HS hW
  go_loopw [10, 11] (fun x i wr => ∃ (k : Nat), k ≤ keep ∧ i = .int .i64 k ∧ Hid (I32In wr sa G) ∧ Hid (I32In wr a S) ∧ wr.cell? ⟨w.heap.size, 0, none⟩ = some (.int .i32 p0) ∧ wr.cell? ⟨w.heap.size, 1, none⟩ = some (.int .i32 p1) ∧ Below w.heap.size w wr) (fun _ i _ => keep - (intOf i).toNat)
  case atStart => exact ⟨0, by omega, rfl, HG1, HS1, y0, y1, hbel0⟩
  case round =>
    obtain ⟨k, hkk, rfl, HG, HS, z0, z1, hbel⟩ := hrel
    clear HG1 HS1 y0 y1 hbel0
    by_cases hlt : k < keep
    · have hkS : k < S.length := by have := HN.out; omega
      have hkG : k < G.length := by have := HGN.out; omega
      rcases HS.out with h0 | ⟨b, off, rfl, hb, hc⟩
      · omega
      rcases HG.out with h0 | ⟨b2, off2, rfl, hb2, hc2⟩
      · omega
      have c1 := hc k hkS
      have c2 := hc2 k hkG
      have e : G[k] = S[k] := by
        have := HA.out k hlt
        rw [List.getElem?_eq_getElem hkS, List.getElem?_eq_getElem hkG] at this
        exact Option.some.inj this
      rw [e] at c2
      obtain ⟨x, hx⟩ : ∃ x, S[k] = x := ⟨_, rfl⟩
      rw [hx] at c1 c2
      have hb1 : (k : Int) < (n : Int) := by omega
      have hb3 : (k : Int) < (keep : Int) + (nput : Int) := by omega
      clear hc hc2 e hx
      go_wp2_with fail
      go_quiet (fail)
      go_wp2_with fail
      go_roundw
      case rel => exact ⟨k + 1, by omega, by go_num, HG, HS, z0, z1, below_drewN hbel _⟩
      case measure => simp [intOf]; omega
    · obtain rfl : k = keep := by omega
      clear hlt
      go_wp2_with fail
      go_loopw [10, 12] (fun x i wr => ∃ (j : Nat), j ≤ nput ∧ i = .int .i64 j ∧ Hid (I32In wr sa G) ∧ wr.cell? ⟨w.heap.size, 0, none⟩ = some (.int .i32 p0) ∧ wr.cell? ⟨w.heap.size, 1, none⟩ = some (.int .i32 p1) ∧ Below w.heap.size w wr) (fun _ i _ => nput - (intOf i).toNat)
      case atStart => exact ⟨0, by omega, rfl, HG, z0, z1, hbel⟩
      case round =>
        obtain ⟨j, hj, rfl, HG2, z0, z1, hbel⟩ := hrel
        by_cases hlt : j < nput
        · have hkG : k + j < G.length := by have := HGN.out; omega
          rcases HG2.out with h0 | ⟨b2, off2, rfl, hb2, hc2⟩
          · omega
          have c2 := hc2 (k + j) hkG
          have e := HB.out j hlt
          rw [List.getElem?_eq_getElem hkG] at e
          have hb3 : (k : Int) + (j : Int) < (k : Int) + (nput : Int) := by omega
          have hw3 : ((k : Int) + (j : Int)).toNat = k + j := by omega
          obtain rfl | rfl : j = 0 ∨ j = 1 := by omega
          · skip
            have e' := Option.some.inj e
            rw [e'] at c2
            rw [Nat.add_zero] at c2
            clear hc2 e e'
            have hw : IntKind.i64.wrap (k : Int) = (k : Int) := IntWalk.i64_in _ (by omega)
            have hl1 : (k : Int) < (k : Int) + (nput : Int) := by omega
            have hl2 : k < k + nput := by omega
            have hl0 : (0 : Int) ≤ (k : Int) := by omega
            clear hb3 hw3
            go_wp2_with fail
            go_quiet (fail)
            go_wp2_with fail
            go_roundw
            case rel => exact ⟨1, by omega, by go_num, HG2, z0, z1, below_drewN hbel _⟩
            case measure => simp [intOf]; omega
          · skip
            have e' := Option.some.inj e
            rw [e'] at c2
            clear hc2 e e'
            have hw : IntKind.i64.wrap ((k : Int) + 1) = (k : Int) + 1 := IntWalk.i64_in _ (by omega)
            have hl1 : (k : Int) + 1 < (k : Int) + (nput : Int) := by omega
            have hl0 : (0 : Int) ≤ (k : Int) + 1 := by omega
            have ht : ((k : Int) + 1).toNat = k + 1 := by omega
            clear hb3 hw3
            go_wp2_with fail
            go_quiet (fail)
            go_wp2_with fail
            go_roundw
            case rel => exact ⟨2, by omega, by go_num, HG2, z0, z1, below_drewN hbel _⟩
            case measure => simp [intOf]; omega
        · obtain rfl : j = nput := by omega
          go_wp2_with fail
          go_ret
          exact ⟨rfl, hbel⟩
end Go.Proofs.Ymbrbx

import Derived.Test.YmbrbyJBody
import Derived.OneCell
namespace Go.Proofs.Ymbrby
open Go.ChangeShapes Go.WideShapes Go.ChangeAt Go.RowKit
set_option linter.unusedVariables false
set_option linter.unusedSimpArgs false

set_option maxHeartbeats 4000000 in
theorem jsame_any (P : List (Int × Int)) (n : Nat) (a1 a2 : Option Addr) (c1 c2 : Nat) (w : World) (HN : Hid (n = P.length)) (hn : n ≤ 100000) (H1 : Hid (ProgIn w a1 P)) (H2 : Hid (ProgIn w a2 P)) :
    Calls Ybym.prog 20 #[.slice a1 n c1, .slice a2 n c2] w fun e w' => e = .returned (.bool true) ∧ Below w.heap.size w w' := by
  go_enter Ybym.func20, Ybym.ntmps20
  go_wp2_with fail
  go_loopw [5] (fun i wr => ∃ (k : Nat), k ≤ n ∧ i = .int .i64 k ∧ Below w.heap.size w wr ∧ Hid (ProgIn wr a1 P) ∧ Hid (ProgIn wr a2 P)) (fun i _ => n - (intOf i).toNat)
  case atStart => exact ⟨0, by omega, rfl, Below.refl _ _, H1, H2⟩
  case round =>
    obtain ⟨k, hk, rfl, hbel, HPr, HRr⟩ := hrel
    clear H1 H2
    by_cases hlt : k < n
    · have hkP : k < P.length := by have := HN.out; omega
      rcases HPr.out with h | ⟨b, off, rfl, hb, hc⟩
      · omega
      rcases HRr.out with h | ⟨b2, off2, rfl, hb2, hc2⟩
      · omega
      obtain ⟨c0, c1⟩ := hc k hkP
      obtain ⟨d0, d1⟩ := hc2 k hkP
      obtain ⟨op, hop⟩ : ∃ op, op = P[k].1 := ⟨_, rfl⟩
      obtain ⟨arg, harg⟩ : ∃ arg, arg = P[k].2 := ⟨_, rfl⟩
      rw [← hop] at c0 d0
      rw [← harg] at c1 d1
      clear hc hc2 hop harg
      go_wp2_with fail
      go_quiet (fail)
      go_wp2_with fail
      go_roundw
      case rel => exact ⟨k + 1, by omega, by go_num, below_drewN hbel _, HPr, HRr⟩
      case measure => simp [intOf]; omega
    · obtain rfl : k = n := by omega
      go_wp2_with fail
      go_ret
      exact ⟨rfl, hbel⟩

/-! ### The state inside a round -/
structure JS (B : Nat) (w W : World) (vb : Value) (lb : List UInt8) (vp : Value) (P : List (Int × Int)) (LL : Nat) (kd op arg pad : Int) : Prop where
  b : OwnB B W vb lb
  p : OwnP B W vp P
  bel : Below B w W
  sz : B ≤ W.heap.size
  l : W.heap[LL]? = some (.cells #[.int .u8 kd, .int .u8 op, .int .i32 arg, .int .u8 pad] 34 (0, 0))
theorem JS.keep {B : Nat} {w W W' : World} {vb vb' : Value} {lb lb' : List UInt8} {vp : Value} {P : List (Int × Int)} {LL : Nat} {kd op arg pad : Int} (h : JS B w W vb lb vp P LL kd op arg pad)
    (hb : OwnB B W' vb' lb') (hk : Keep5 W W') (hB : Below B W W') : JS B w W' vb' lb' vp P LL kd op arg pad :=
  ⟨hb, h.p.keep hk, h.bel.trans hB, Nat.le_trans h.sz hB.size, hk LL _ 34 _ (by decide) h.l⟩
theorem heap_new (w : World) (o : Obj) : (w.alloc o).heap[w.heap.size]? = some o := by
  show (w.heap.push o)[w.heap.size]? = _
  rw [Array.getElem?_push, if_pos rfl]
theorem JS.alloc {B : Nat} {w W : World} {vb : Value} {lb : List UInt8} {vp : Value} {P : List (Int × Int)} {LL : Nat} {kd op arg pad : Int} (h : JS B w W vb lb vp P LL kd op arg pad) (o : Obj) : JS B w (W.alloc o) vb lb vp P LL kd op arg pad :=
  ⟨h.b.alloc o, h.p.alloc o, h.bel.alloc h.sz o, alloc_le h.sz o, by rw [Below.heap_alloc _ _ _ (lt_of_some h.l)]; exact h.l⟩
theorem JS.cells {B : Nat} {w W : World} {vb : Value} {lb : List UInt8} {vp : Value} {P : List (Int × Int)} {LL : Nat} {kd op arg pad : Int} (h : JS B w W vb lb vp P LL kd op arg pad) :
    W.cell? ⟨LL, 0, none⟩ = some (.int .u8 kd) ∧ W.cell? ⟨LL, 1, none⟩ = some (.int .u8 op) ∧ W.cell? ⟨LL, 2, none⟩ = some (.int .i32 arg) ∧ W.cell? ⟨LL, 3, none⟩ = some (.int .u8 pad) ∧ LL < W.heap.size ∧ ¬ LL = W.heap.size := by
  have h1 := h.l
  have h2 := lt_of_some h1
  refine ⟨?_, ?_, ?_, ?_, h2, by omega⟩ <;> simp [World.cell?, h1]
theorem two_cells {W : World} {I : Nat} {u v : Value} {t : TypeId} (h : W.heap[I]? = some (.cells #[u, v] t (0, 0))) : W.cell? ⟨I, 0, none⟩ = some u ∧ W.cell? ⟨I, 1, none⟩ = some v ∧ W.frozen? ⟨I, 1, none⟩ = false ∧ I < W.heap.size ∧ ¬ I = W.heap.size := by
  have h2 := lt_of_some h
  refine ⟨?_, ?_, ?_, h2, by omega⟩ <;> simp [World.cell?, World.frozen?, h]
theorem two_set {W : World} {I : Nat} {u v x : Value} {t : TypeId} (h : W.heap[I]? = some (.cells #[u, v] t (0, 0))) : (W.setCell ⟨I, 1, none⟩ x).heap[I]? = some (.cells #[u, x] t (0, 0)) := by
  have h2 := lt_of_some h
  have h' : W.heap[I] = .cells #[u, v] t (0, 0) := by simpa [Array.getElem?_eq_getElem h2] using h
  show (W.heap.modify I _)[I]? = _
  rw [Array.getElem?_eq_getElem (by simpa using h2), Array.getElem_modify_self, h']
  rfl
theorem OwnB.no {B : Nat} {W : World} {v : Value} {l : List UInt8} (h : OwnB B W v l) {I : Nat} {cs : Array Value} {t : TypeId} {fz : Nat × Nat} (ht : t ≠ 5) (hI : W.heap[I]? = some (.cells cs t fz)) : v.ownBlock ≠ some I := by
  intro e
  rcases h.2 with ⟨rfl, _⟩ | ⟨g, cap, cur, rfl, _, hh, _⟩
  · simp [Value.ownBlock] at e
  · have e2 : g = I := by simpa [Value.ownBlock] using e
    rw [e2, hI] at hh
    simp at hh
    exact ht hh.2.1
theorem JS.store {B : Nat} {w W : World} {vb : Value} {lb : List UInt8} {vp : Value} {P : List (Int × Int)} {LL : Nat} {kd op arg pad : Int} (h : JS B w W vb lb vp P LL kd op arg pad) {I : Nat} {cs : Array Value} (hI : W.heap[I]? = some (.cells cs 25 (0, 0)))
    (hne : vp.ownBlock ≠ some I) (hB : B ≤ I) (hl : ¬ LL = I) (x : Value) : JS B w (W.setCell ⟨I, 1, none⟩ x) vb lb vp P LL kd op arg pad :=
  ⟨ownsRow_setCell_other h.b (h.b.no (by decide) hI) x, ownsRow_setCell_other h.p hne x, h.bel.setCell (p := ⟨I, 1, none⟩) hB x, by show B ≤ (W.heap.modify _ _).size; rw [Array.size_modify]; exact h.sz, by
    rw [Below.heap_setCell _ _ _ _ hl]; exact h.l⟩
theorem OwnB.beside {B : Nat} {W W' : World} {vb vp : Value} {lb : List UInt8} {P : List (Int × Int)} (h : OwnB B W vb lb) (hp : OwnP B W vp P) (hg : W.grownBy W' vp.ownBlock) : OwnB B W' vb lb := by
  refine World.ownsRow.kept h hg ?_
  cases hv : vb.ownBlock with
  | none => exact .inl rfl
  | some g =>
    refine .inr (fun e => ?_)
    rcases hp.2 with ⟨rfl, _⟩ | ⟨g2, cap, cur, rfl, _, hh, _⟩
    · simp [Value.ownBlock] at e
    · have e2 : g = g2 := by simpa [Value.ownBlock] using e
      exact h.no (by decide) hh (by rw [hv, e2])

set_option maxRecDepth 100000 in
set_option maxHeartbeats 64000000 in
theorem JBuild_core (E : List JL) (n : Nat) (a : Option Addr) (cap : Nat) (fin : Bool) (w : World) (hn : n ≤ 256) (HEN : Hid (n = E.length)) (HOK : Hid (∀ q ∈ E, okJ q))
    (HE : Hid (n = 0 ∨ ∃ b off, a = some ⟨b, off, none⟩ ∧ b < w.heap.size ∧ ∀ j, (hj : j < E.length) → JLAt w b (off + j * 4) E[j])) :
    Calls Ybym.prog 4 #[.slice a n cap, .bool fin] w fun e w' => e = .returned (.bool true) ∧ Below w.heap.size w w' := by
  have hl : ¬ ((256 : Int) < (n : Int)) := by omega
  go_enter Ybym.func4, Ybym.ntmps4
  go_wp2
  go_loopw [5, 6, 7, 8] (fun vb vp y i wr => ∃ (k : Nat) (lb : List UInt8) (P : List (Int × Int)) (bd : Int), k ≤ n ∧ i = .int .i64 k ∧ y = .int .i64 bd ∧ OwnB w.heap.size wr vb lb ∧ OwnP w.heap.size wr vp P ∧ Below w.heap.size w wr ∧ Hid (lb = joinB ((E.take k).map bodyJ)) ∧ Hid (P = insOf ((E.take k).map bodyJ)) ∧ Hid (bd = badAt ((E.take k).map bodyJ) 1) ∧ lb.length ≤ 30 * k ∧ P.length ≤ k ∧ 0 ≤ bd ∧ bd ≤ k) (fun _ _ _ i _ => n - (intOf i).toNat)
  case atStart => exact ⟨0, [], [], 0, by omega, rfl, rfl, OwnB.nil _ _, OwnP.nil _ _, Below.refl _ _, rfl, rfl, rfl, by simp, by simp, by omega, by omega⟩
  case round =>
    obtain ⟨k, lb, P, bd, hk, rfl, rfl, hown, hownp, hbel, HLB0, HP, HBD, hlb, hPl, hbd0, hbd1⟩ := hrel
    have hsz := hbel.size
    by_cases hlt : k < n
    · have hkE : k < E.length := by have := HEN.out; omega
      rcases HE.out with h | ⟨b, off, rfl, hb, hc⟩
      · omega
      · have hokq := HOK.out E[k] (List.getElem_mem hkE)
        have hc' := hc k hkE
        obtain ⟨A, hA⟩ : ∃ A, A = (E.take k).map bodyJ := ⟨_, rfl⟩
        have hA' : (E.take (k + 1)).map bodyJ = A ++ [bodyJ E[k]] := by rw [List.take_succ_eq_append_getElem hkE, List.map_append, hA]; rfl
        rw [← hA] at HLB0 HP HBD
        have HAL : Hid (A.length = k) := by show _ = _; rw [hA, List.length_map, List.length_take]; omega
        have HAN : Hid (k = 0 → A = []) := by intro h; rw [hA, h]; rfl
        have HAS : Hid (0 < k → A ≠ []) := by intro h h2; have := HAL.out; rw [h2] at this; simp at this; omega
        obtain ⟨q, hq⟩ : ∃ q, q = E[k] := ⟨_, rfl⟩
        rw [← hq] at hokq hc' hA'
        clear hq hA hc HE HOK
        obtain ⟨kd, op, arg, pad⟩ := q
        have HA' : Hid ((E.take (k + 1)).map bodyJ = A ++ [bodyJ ⟨kd, op, arg, pad⟩]) := hA'
        obtain ⟨⟨ha0, ha1⟩, ⟨ho0, ho1⟩, ⟨hg0, hg1⟩, ⟨hp0, hp1⟩⟩ := hokq
        have hokq : okJ ⟨kd, op, arg, pad⟩ := ⟨⟨ha0, ha1⟩, ⟨ho0, ho1⟩, ⟨hg0, hg1⟩, ⟨hp0, hp1⟩⟩
        dsimp only at ha0 ha1 ho0 ho1 hg0 hg1 hp0 hp1
        obtain ⟨d0, d1, d2, d3⟩ := hc'
        dsimp only at d0 d1 d2 d3
        have c0 : wr.cell? ⟨b, off + k * 4, none⟩ = some (.int .u8 kd) := (hbel.cell (p := ⟨b, off + k * 4, none⟩) hb).trans d0
        have c1 : wr.cell? ⟨b, off + k * 4 + 1, none⟩ = some (.int .u8 op) := (hbel.cell (p := ⟨b, off + k * 4 + 1, none⟩) hb).trans d1
        have c2 : wr.cell? ⟨b, off + k * 4 + 2, none⟩ = some (.int .i32 arg) := (hbel.cell (p := ⟨b, off + k * 4 + 2, none⟩) hb).trans d2
        have c3 : wr.cell? ⟨b, off + k * 4 + 3, none⟩ = some (.int .u8 pad) := (hbel.cell (p := ⟨b, off + k * 4 + 3, none⟩) hb).trans d3
        clear d0 d1 d2 d3 hA'
        have hbn : ¬ b = wr.heap.size := by omega
        have hS0 : JS w.heap.size w (wr.alloc (.cells #[.int .u8 kd, .int .u8 op, .int .i32 arg, .int .u8 pad] 34)) _ lb _ P wr.heap.size kd op arg pad := ⟨hown.alloc _, hownp.alloc _, hbel.alloc hsz _, alloc_le hsz _, heap_new _ _⟩
        have hsa : (wr.alloc (.cells #[.int .u8 kd, .int .u8 op, .int .i32 arg, .int .u8 pad] 34)).heap.size = wr.heap.size + 1 := by show (wr.heap.push _).size = _; rw [Array.size_push]
        have HSA : Hid ((wr.alloc (.cells #[.int .u8 kd, .int .u8 op, .int .i32 arg, .int .u8 pad] 34)).heap.size = wr.heap.size + 1) := hsa
        clear hown hownp hbel
        have hJB := fun W => jbad_any pad hp0 hp1 W
        have hJ1 := fun W => jblank_any pad hp0 hp1 W
        have hJ3 := fun W => jblank_any (pad / 3) (by omega) (by omega) W
        have hJ9 := fun W => jblank_any (pad / 9) (by omega) (by omega) W
        obtain ⟨k8, hk8, ek8⟩ := op_nat op ho0
        have hJN := fun W => jname_any k8 hk8 W
        rw [← ek8] at hJN
        obtain ⟨FB, hFB⟩ : ∃ F : ByteArray, F = ⟨(jbadL pad).toArray⟩ := ⟨_, rfl⟩
        obtain ⟨F1, hF1⟩ : ∃ F : ByteArray, F = ⟨(jblankL pad).toArray⟩ := ⟨_, rfl⟩
        obtain ⟨F3, hF3⟩ : ∃ F : ByteArray, F = ⟨(jblankL (pad / 3)).toArray⟩ := ⟨_, rfl⟩
        obtain ⟨F9, hF9⟩ : ∃ F : ByteArray, F = ⟨(jblankL (pad / 9)).toArray⟩ := ⟨_, rfl⟩
        obtain ⟨FN, hFN⟩ : ∃ F : ByteArray, F = opName (op % 8) := ⟨_, rfl⟩
        rw [← hFB] at hJB
        rw [← hF1] at hJ1
        rw [← hF3] at hJ3
        rw [← hF9] at hJ9
        rw [← hFN] at hJN
        have HFB : Hid (FB.data.toList = jbadL pad) := by show _ = _; rw [hFB]
        have HF1 : Hid (F1.data.toList = jblankL pad) := by show _ = _; rw [hF1]
        have HF3 : Hid (F3.data.toList = jblankL (pad / 3)) := by show _ = _; rw [hF3]
        have HF9 : Hid (F9.data.toList = jblankL (pad / 9)) := by show _ = _; rw [hF9]
        have HFN : Hid (FN.data.toList = (opName (op % 8)).data.toList) := by show _ = _; rw [hFN]
        have zB : FB.size ≤ 15 := by have h := congrArg List.length HFB.out; have h2 : FB.data.toList.length = FB.size := rfl; have h3 := jbad_len pad; omega
        have z1 : F1.size ≤ 2 := by have h := congrArg List.length HF1.out; have h2 : F1.data.toList.length = F1.size := rfl; have h3 := jblank_len pad; omega
        have z3 : F3.size ≤ 2 := by have h := congrArg List.length HF3.out; have h2 : F3.data.toList.length = F3.size := rfl; have h3 := jblank_len (pad / 3); omega
        have z9 : F9.size ≤ 2 := by have h := congrArg List.length HF9.out; have h2 : F9.data.toList.length = F9.size := rfl; have h3 := jblank_len (pad / 9); omega
        have zN : FN.size ≤ 4 := by rw [hFN]; exact opName_size _
        clear hFB hF1 hF3 hF9 hFN ek8 hk8
        by_cases hk0 : k = 0
        · subst hk0
          simp only [Nat.zero_mul, Nat.add_zero] at c0 c1 c2 c3
          have hA0 := HAN.out rfl
          have hlb0 : lb = [] := by rw [HLB0.out, hA0]; rfl
          obtain ⟨L1, hL1⟩ : ∃ L1 : List UInt8, L1 = lb := ⟨_, rfl⟩
          have HJ : Hid (∀ x, joinB (A ++ [x]) = L1 ++ x) := by intro x; rw [hL1, hlb0, hA0, List.nil_append]; exact joinB_one x
          have hl1 : L1.length ≤ 1 := by rw [hL1, hlb0]; simp
          rw [← hL1] at hS0
          clear HAN HAS hA0 hlb0 hL1 HLB0
          by_cases h5 : kd % 8 = 5
          · have q5 : (kd % 8 == 5) = true := int_eq h5
            by_cases hbd : bd = 0
            · have qb : (bd == 0) = true := int_eq hbd
              go_wp2_with fail
              generalize hW : wr.alloc (.cells #[.int .u8 kd, .int .u8 op, .int .i32 arg, .int .u8 pad] 34) = W
              have hs : JS w.heap.size w W u5 L1 u6 P wr.heap.size kd op arg pad := by rw [← hW]; exact hS0
              clear hW hS0
              refine (hJB _).mono ?_
              rintro e W ⟨rfl, rfl⟩
              go_wp2_with (at_builtin; refine push_text rfl (.tmp 38) (.tmp 41) rfl w.heap.size _ L1 FB rfl rfl hs.b (by omega) hs.sz ?_)
              intro v1_ w1_ hb1 hk1 hB1
              obtain ⟨M1, hM1⟩ : ∃ M, M = L1 ++ FB.data.toList := ⟨_, rfl⟩
              rw [← hM1] at hb1
              have HM1 : Hid (M1 = L1 ++ FB.data.toList) := hM1
              have hm1 : M1.length = L1.length + FB.size := by rw [hM1, List.length_append]; rfl
              have hs1 := hs.keep hb1 hk1 hB1
              clear hM1 hb1 hk1 hB1
              clear hs
              obtain ⟨e10, e11, e12, e13, e14, e15⟩ := hs1.cells
              clear e10 e11 e12 e13 e14 e15
              have HLB : Hid (M1 = joinB (A ++ [bodyJ ⟨kd, op, arg, pad⟩])) := by show _ = _; rw [HM1.out, HJ.out, bodyJ_bad ⟨kd, op, arg, pad⟩ h5, HFB.out]
              rw [← HA'.out] at HLB
              have hpar : parseL (bodyJ ⟨kd, op, arg, pad⟩) = (0, 0, 2) := by rw [bodyJ_bad ⟨kd, op, arg, pad⟩ h5]; exact jbad_parse _
              have HPN : Hid (P = insOf ((E.take (0 + 1)).map bodyJ)) := by show _ = _; rw [HA'.out, insOf_snoc A _ _ _ _ hpar, if_neg (show ¬ ((2 : Int) = 1) by decide), HP.out]
              have HBN : Hid ((((0 + 1 : Nat)) : Int) = badAt ((E.take (0 + 1)).map bodyJ) 1) := by
                show _ = _
                rw [HA'.out, badAt_snoc A _ _ _ _ hpar, ← HBD.out, if_pos hbd, if_pos rfl, HAL.out]
                omega
              clear hpar
              go_wp2
              go_roundw
              case rel => exact ⟨0 + 1, M1, P, (((0 + 1 : Nat)) : Int), by omega, by go_num, by go_num, hs1.b, hs1.p, hs1.bel, HLB, HPN, HBN, by omega, by omega, by omega, by omega⟩
              case measure => simp [intOf] <;> omega
            · have qb : (bd == 0) = false := int_ne hbd
              omega
          · have q5 : (kd % 8 == 5) = false := int_ne h5
            by_cases h37 : kd % 8 = 3 ∨ kd % 8 = 7
            · have hq : (kd % 8 == 3) = true ∨ ((kd % 8 == 3) = false ∧ (kd % 8 == 7) = true) := by
                by_cases h : kd % 8 = 3
                · exact .inl (int_eq h)
                · exact .inr ⟨int_ne h, int_eq (by omega)⟩
              rcases hq with q3 | ⟨q3, q7⟩
              · skip
                go_wp2_with fail
                generalize hW : wr.alloc (.cells #[.int .u8 kd, .int .u8 op, .int .i32 arg, .int .u8 pad] 34) = W
                have hs : JS w.heap.size w W u5 L1 u6 P wr.heap.size kd op arg pad := by rw [← hW]; exact hS0
                clear hW hS0
                refine (hJ1 _).mono ?_
                rintro e W ⟨rfl, rfl⟩
                go_wp2_with (at_builtin; refine push_text rfl (.tmp 53) (.tmp 56) rfl w.heap.size _ L1 F1 rfl rfl hs.b (by omega) hs.sz ?_)
                intro v2_ w2_ hb2 hk2 hB2
                obtain ⟨M2, hM2⟩ : ∃ M, M = L1 ++ F1.data.toList := ⟨_, rfl⟩
                rw [← hM2] at hb2
                have HM2 : Hid (M2 = L1 ++ F1.data.toList) := hM2
                have hm2 : M2.length = L1.length + F1.size := by rw [hM2, List.length_append]; rfl
                have hs2 := hs.keep hb2 hk2 hB2
                clear hM2 hb2 hk2 hB2
                clear hs
                obtain ⟨e20, e21, e22, e23, e24, e25⟩ := hs2.cells
                clear e20 e21 e22 e23 e24 e25
                have HLB : Hid (M2 = joinB (A ++ [bodyJ ⟨kd, op, arg, pad⟩])) := by show _ = _; rw [HM2.out, HJ.out, bodyJ_blank ⟨kd, op, arg, pad⟩ h37, HF1.out]
                rw [← HA'.out] at HLB
                have hpar : parseL (bodyJ ⟨kd, op, arg, pad⟩) = (0, 0, 0) := by rw [bodyJ_blank ⟨kd, op, arg, pad⟩ h37]; exact jblank_parse _
                have HPN : Hid (P = insOf ((E.take (0 + 1)).map bodyJ)) := by show _ = _; rw [HA'.out, insOf_snoc A _ _ _ _ hpar, if_neg (show ¬ ((0 : Int) = 1) by decide), HP.out]
                have HBN : Hid (bd = badAt ((E.take (0 + 1)).map bodyJ) 1) := by
                  show _ = _
                  rw [HA'.out, badAt_snoc A _ _ _ _ hpar, if_neg (show ¬ ((0 : Int) = 2) by decide), ← HBD.out]
                  split
                  · assumption
                  · rfl
                clear hpar
                go_wp2
                go_roundw
                case rel => exact ⟨0 + 1, M2, P, bd, by omega, by go_num, by go_num, hs2.b, hs2.p, hs2.bel, HLB, HPN, HBN, by omega, by omega, by omega, by omega⟩
                case measure => simp [intOf] <;> omega
              · skip
                go_wp2_with fail
                generalize hW : wr.alloc (.cells #[.int .u8 kd, .int .u8 op, .int .i32 arg, .int .u8 pad] 34) = W
                have hs : JS w.heap.size w W u5 L1 u6 P wr.heap.size kd op arg pad := by rw [← hW]; exact hS0
                clear hW hS0
                refine (hJ1 _).mono ?_
                rintro e W ⟨rfl, rfl⟩
                go_wp2_with (at_builtin; refine push_text rfl (.tmp 53) (.tmp 56) rfl w.heap.size _ L1 F1 rfl rfl hs.b (by omega) hs.sz ?_)
                intro v3_ w3_ hb3 hk3 hB3
                obtain ⟨M3, hM3⟩ : ∃ M, M = L1 ++ F1.data.toList := ⟨_, rfl⟩
                rw [← hM3] at hb3
                have HM3 : Hid (M3 = L1 ++ F1.data.toList) := hM3
                have hm3 : M3.length = L1.length + F1.size := by rw [hM3, List.length_append]; rfl
                have hs3 := hs.keep hb3 hk3 hB3
                clear hM3 hb3 hk3 hB3
                clear hs
                obtain ⟨e30, e31, e32, e33, e34, e35⟩ := hs3.cells
                clear e30 e31 e32 e33 e34 e35
                have HLB : Hid (M3 = joinB (A ++ [bodyJ ⟨kd, op, arg, pad⟩])) := by show _ = _; rw [HM3.out, HJ.out, bodyJ_blank ⟨kd, op, arg, pad⟩ h37, HF1.out]
                rw [← HA'.out] at HLB
                have hpar : parseL (bodyJ ⟨kd, op, arg, pad⟩) = (0, 0, 0) := by rw [bodyJ_blank ⟨kd, op, arg, pad⟩ h37]; exact jblank_parse _
                have HPN : Hid (P = insOf ((E.take (0 + 1)).map bodyJ)) := by show _ = _; rw [HA'.out, insOf_snoc A _ _ _ _ hpar, if_neg (show ¬ ((0 : Int) = 1) by decide), HP.out]
                have HBN : Hid (bd = badAt ((E.take (0 + 1)).map bodyJ) 1) := by
                  show _ = _
                  rw [HA'.out, badAt_snoc A _ _ _ _ hpar, if_neg (show ¬ ((0 : Int) = 2) by decide), ← HBD.out]
                  split
                  · assumption
                  · rfl
                clear hpar
                go_wp2
                go_roundw
                case rel => exact ⟨0 + 1, M3, P, bd, by omega, by go_num, by go_num, hs3.b, hs3.p, hs3.bel, HLB, HPN, HBN, by omega, by omega, by omega, by omega⟩
                case measure => simp [intOf] <;> omega
            · have q3 : (kd % 8 == 3) = false := int_ne (fun h => h37 (.inl h))
              have q7 : (kd % 8 == 7) = false := int_ne (fun h => h37 (.inr h))
              by_cases h07 : op % 8 = 0 ∨ op % 8 = 7
              · have hq : (op % 8 == 0) = true ∨ ((op % 8 == 0) = false ∧ (op % 8 == 7) = true) := by
                  by_cases h : op % 8 = 0
                  · exact .inl (int_eq h)
                  · exact .inr ⟨int_ne h, int_eq (by omega)⟩
                rcases hq with q0 | ⟨q0, qz⟩
                · skip
                  go_wp2_with fail
                  generalize hW : ((wr.alloc (.cells #[.int .u8 kd, .int .u8 op, .int .i32 arg, .int .u8 pad] 34)).alloc (.cells #[.int .u8 (op % 8), .int .i32 0] 25)) = W
                  have hs : JS w.heap.size w W u5 L1 u6 P wr.heap.size kd op arg pad := by rw [← hW]; exact hS0.alloc _
                  have HI : W.heap[wr.heap.size + 1]? = some (.cells #[.int .u8 (op % 8), .int .i32 0] 25) := by
                    have h := heap_new (wr.alloc (.cells #[.int .u8 kd, .int .u8 op, .int .i32 arg, .int .u8 pad] 34)) (.cells #[.int .u8 (op % 8), .int .i32 0] 25)
                    rw [hsa, hW] at h
                    exact h
                  have hneP : u6.ownBlock ≠ some (wr.heap.size + 1) := fun h => by
                    have := (World.ownsRow.lt hS0.p _ h).2
                    omega
                  have hBI : w.heap.size ≤ wr.heap.size + 1 := by omega
                  have hLI : ¬ wr.heap.size = wr.heap.size + 1 := by omega
                  clear hW hS0
                  refine (hJ1 _).mono ?_
                  rintro e W ⟨rfl, rfl⟩
                  go_wp2_with (at_builtin; refine push_text rfl (.tmp 63) (.tmp 66) rfl w.heap.size _ L1 F1 rfl rfl hs.b (by omega) hs.sz ?_)
                  intro v4_ w4_ hb4 hk4 hB4
                  obtain ⟨M4, hM4⟩ : ∃ M, M = L1 ++ F1.data.toList := ⟨_, rfl⟩
                  rw [← hM4] at hb4
                  have HM4 : Hid (M4 = L1 ++ F1.data.toList) := hM4
                  have hm4 : M4.length = L1.length + F1.size := by rw [hM4, List.length_append]; rfl
                  have hs4 := hs.keep hb4 hk4 hB4
                  have HI4 := hk4 (wr.heap.size + 1) _ 25 _ (by decide) HI
                  clear hM4 hb4 hk4 hB4
                  clear hs
                  clear HI
                  obtain ⟨e40, e41, e42, e43, e44, e45⟩ := hs4.cells
                  obtain ⟨g40, g41, g42, g43, g44⟩ := two_cells HI4
                  go_wp2_with fail
                  clear e40 e41 e42 e43 e44 e45 g40 g41 g42 g43 g44
                  refine (hJN _).mono ?_
                  rintro e w4_ ⟨rfl, rfl⟩
                  go_wp2_with (at_builtin; refine push_text rfl (.tmp 68) (.tmp 70) rfl w.heap.size _ M4 FN rfl rfl hs4.b (by omega) hs4.sz ?_)
                  intro v5_ w5_ hb5 hk5 hB5
                  obtain ⟨M5, hM5⟩ : ∃ M, M = M4 ++ FN.data.toList := ⟨_, rfl⟩
                  rw [← hM5] at hb5
                  have HM5 : Hid (M5 = M4 ++ FN.data.toList) := hM5
                  have hm5 : M5.length = M4.length + FN.size := by rw [hM5, List.length_append]; rfl
                  have hs5 := hs4.keep hb5 hk5 hB5
                  have HI5 := hk5 (wr.heap.size + 1) _ 25 _ (by decide) HI4
                  clear hM5 hb5 hk5 hB5
                  clear hs4
                  clear HI4
                  obtain ⟨e50, e51, e52, e53, e54, e55⟩ := hs5.cells
                  obtain ⟨g50, g51, g52, g53, g54⟩ := two_cells HI5
                  have hst := hs5.store HI5 hneP hBI hLI (.int .i32 arg)
                  have HIS := two_set (x := .int .i32 arg) HI5
                  go_wp2_with (at_builtin; refine push_byte rfl (.tmp 81) (.tmp 82) rfl w.heap.size _ M5 32 32 (w5_.setCell ⟨(wr.heap.size + 1), 1, none⟩ (.int .i32 arg)) _ rfl rfl 1 rfl (by first | rfl | simp [Act.eval, Act.put]) hst.b rfl (by omega) hst.sz ?_)
                  intro v6_ w6_ hb6 hk6 hB6
                  obtain ⟨M6, hM6⟩ : ∃ M, M = M5 ++ [(32 : UInt8)] := ⟨_, rfl⟩
                  rw [← hM6] at hb6
                  have HM6 : Hid (M6 = M5 ++ [(32 : UInt8)]) := hM6
                  have hm6 : M6.length = M5.length + 1 := by rw [hM6, List.length_append]; rfl
                  have hs6 := hst.keep hb6 hk6 hB6
                  have HI6 := hk6 (wr.heap.size + 1) _ 25 _ (by decide) HIS
                  clear hM6 hb6 hk6 hB6 hst HIS hs5 HI5
                  clear e50 e51 e52 e53 e54 e55 g50 g51 g52 g53 g54
                  obtain ⟨e60, e61, e62, e63, e64, e65⟩ := hs6.cells
                  obtain ⟨g60, g61, g62, g63, g64⟩ := two_cells HI6
                  go_wp2_with fail
                  refine (hJ3 _).mono ?_
                  rintro e w6_ ⟨rfl, rfl⟩
                  go_wp2_with (at_builtin; refine push_text rfl (.tmp 84) (.tmp 88) rfl w.heap.size _ M6 F3 rfl rfl hs6.b (by omega) hs6.sz ?_)
                  intro v7_ w7_ hb7 hk7 hB7
                  obtain ⟨M7, hM7⟩ : ∃ M, M = M6 ++ F3.data.toList := ⟨_, rfl⟩
                  rw [← hM7] at hb7
                  have HM7 : Hid (M7 = M6 ++ F3.data.toList) := hM7
                  have hm7 : M7.length = M6.length + F3.size := by rw [hM7, List.length_append]; rfl
                  have hs7 := hs6.keep hb7 hk7 hB7
                  have HI7 := hk7 (wr.heap.size + 1) _ 25 _ (by decide) HI6
                  clear hM7 hb7 hk7 hB7
                  clear hs6
                  clear HI6
                  obtain ⟨e70, e71, e72, e73, e74, e75⟩ := hs7.cells
                  obtain ⟨g70, g71, g72, g73, g74⟩ := two_cells HI7
                  clear e60 e61 e62 e63 e64 e65 g60 g61 g62 g63 g64
                  go_wp2_with fail
                  refine (jdec_any arg hg0 hg1 w.heap.size _ M7 _ hs7.b hs7.sz (by omega)).mono ?_
                  rintro e w8_ ⟨v8_, rfl, hb8, hk8, hB8⟩
                  obtain ⟨M8, hM8⟩ : ∃ M, M = M7 ++ fmtI arg := ⟨_, rfl⟩
                  rw [← hM8] at hb8
                  have HM8 : Hid (M8 = M7 ++ fmtI arg) := hM8
                  have hm8 : M8.length ≤ M7.length + 11 := by rw [hM8, List.length_append]; have := fmtI_len arg hg0 hg1; omega
                  have hs8 := hs7.keep hb8 hk8 hB8
                  have HI8 := hk8 (wr.heap.size + 1) _ 25 _ (by decide) HI7
                  clear hM8 hb8 hk8 hB8 hs7 HI7
                  clear e70 e71 e72 e73 e74 e75 g70 g71 g72 g73 g74
                  obtain ⟨e80, e81, e82, e83, e84, e85⟩ := hs8.cells
                  obtain ⟨g80, g81, g82, g83, g84⟩ := two_cells HI8
                  go_wp2_with fail
                  refine (hJ9 _).mono ?_
                  rintro e w8_ ⟨rfl, rfl⟩
                  go_wp2_with (at_builtin; refine push_text rfl (.tmp 94) (.tmp 98) rfl w.heap.size _ M8 F9 rfl rfl hs8.b (by omega) hs8.sz ?_)
                  intro v9_ w9_ hb9 hk9 hB9
                  obtain ⟨M9, hM9⟩ : ∃ M, M = M8 ++ F9.data.toList := ⟨_, rfl⟩
                  rw [← hM9] at hb9
                  have HM9 : Hid (M9 = M8 ++ F9.data.toList) := hM9
                  have hm9 : M9.length = M8.length + F9.size := by rw [hM9, List.length_append]; rfl
                  have hs9 := hs8.keep hb9 hk9 hB9
                  have HI9 := hk9 (wr.heap.size + 1) _ 25 _ (by decide) HI8
                  clear hM9 hb9 hk9 hB9
                  clear hs8
                  clear HI8
                  obtain ⟨e90, e91, e92, e93, e94, e95⟩ := hs9.cells
                  obtain ⟨g90, g91, g92, g93, g94⟩ := two_cells HI9
                  clear e80 e81 e82 e83 e84 e85 g80 g81 g82 g83 g84
                  have HLB : Hid (M9 = joinB (A ++ [bodyJ ⟨kd, op, arg, pad⟩])) := by
                    show _ = _
                    rw [HM9.out, HM8.out, HM7.out, HM6.out, HM5.out, HM4.out, HJ.out, bodyJ_num ⟨kd, op, arg, pad⟩ h5 h37 h07, HF1.out, HFN.out, HF3.out, HF9.out]
                    simp only [List.append_assoc]
                  rw [← HA'.out] at HLB
                  have hpar := parse_num ⟨kd, op, arg, pad⟩ hokq h5 h37 h07
                  have HPN : Hid (P ++ [(op % 8, arg)] = insOf ((E.take (0 + 1)).map bodyJ)) := by show _ = _; rw [HA'.out, insOf_snoc A _ _ _ _ hpar, if_pos rfl, HP.out]
                  have HBN : Hid (bd = badAt ((E.take (0 + 1)).map bodyJ) 1) := by
                    show _ = _
                    rw [HA'.out, badAt_snoc A _ _ _ _ hpar, if_neg (show ¬ ((1 : Int) = 2) by decide), ← HBD.out]
                    split
                    · assumption
                    · rfl
                  have hp2 := alloc_two w9_ (.int .u8 (op % 8)) (.int .i32 arg) 25
                  clear hpar
                  go_wp2_with (at_builtin; refine wpList_push_instr rfl (.tmp 100) (.tmp 102) rfl w.heap.size _ P (op % 8) arg w9_.heap.size 1 rfl (by first | rfl | simp [Act.eval, Act.put]) (hs9.p.alloc _) hp2.1 hp2.2 (by omega) (alloc_le hs9.sz _) ?_)
                  intro vz wz hownz hgrow
                  have hbz := (hs9.b.alloc _).beside (hs9.p.alloc _) hgrow
                  have hbelz : Below w.heap.size w wz := (hs9.bel.alloc hs9.sz _).grown hgrow (alloc_le hs9.sz _) hs9.p.size
                  clear hgrow hp2 hs9 HI9
                  clear e90 e91 e92 e93 e94 e95 g90 g91 g92 g93 g94
                  go_wp2
                  go_roundw
                  case rel => exact ⟨0 + 1, M9, (P ++ [(op % 8, arg)]), bd, by omega, by go_num, by go_num, hbz, hownz, hbelz, HLB, HPN, HBN, by omega, by rw [List.length_append, List.length_singleton]; omega, by omega, by omega⟩
                  case measure => simp [intOf] <;> omega
                · skip
                  go_wp2_with fail
                  generalize hW : ((wr.alloc (.cells #[.int .u8 kd, .int .u8 op, .int .i32 arg, .int .u8 pad] 34)).alloc (.cells #[.int .u8 (op % 8), .int .i32 0] 25)) = W
                  have hs : JS w.heap.size w W u5 L1 u6 P wr.heap.size kd op arg pad := by rw [← hW]; exact hS0.alloc _
                  have HI : W.heap[wr.heap.size + 1]? = some (.cells #[.int .u8 (op % 8), .int .i32 0] 25) := by
                    have h := heap_new (wr.alloc (.cells #[.int .u8 kd, .int .u8 op, .int .i32 arg, .int .u8 pad] 34)) (.cells #[.int .u8 (op % 8), .int .i32 0] 25)
                    rw [hsa, hW] at h
                    exact h
                  have hneP : u6.ownBlock ≠ some (wr.heap.size + 1) := fun h => by
                    have := (World.ownsRow.lt hS0.p _ h).2
                    omega
                  have hBI : w.heap.size ≤ wr.heap.size + 1 := by omega
                  have hLI : ¬ wr.heap.size = wr.heap.size + 1 := by omega
                  clear hW hS0
                  refine (hJ1 _).mono ?_
                  rintro e W ⟨rfl, rfl⟩
                  go_wp2_with (at_builtin; refine push_text rfl (.tmp 63) (.tmp 66) rfl w.heap.size _ L1 F1 rfl rfl hs.b (by omega) hs.sz ?_)
                  intro v10_ w10_ hb10 hk10 hB10
                  obtain ⟨M10, hM10⟩ : ∃ M, M = L1 ++ F1.data.toList := ⟨_, rfl⟩
                  rw [← hM10] at hb10
                  have HM10 : Hid (M10 = L1 ++ F1.data.toList) := hM10
                  have hm10 : M10.length = L1.length + F1.size := by rw [hM10, List.length_append]; rfl
                  have hs10 := hs.keep hb10 hk10 hB10
                  have HI10 := hk10 (wr.heap.size + 1) _ 25 _ (by decide) HI
                  clear hM10 hb10 hk10 hB10
                  clear hs
                  clear HI
                  obtain ⟨e100, e101, e102, e103, e104, e105⟩ := hs10.cells
                  obtain ⟨g100, g101, g102, g103, g104⟩ := two_cells HI10
                  go_wp2_with fail
                  clear e100 e101 e102 e103 e104 e105 g100 g101 g102 g103 g104
                  refine (hJN _).mono ?_
                  rintro e w10_ ⟨rfl, rfl⟩
                  go_wp2_with (at_builtin; refine push_text rfl (.tmp 68) (.tmp 70) rfl w.heap.size _ M10 FN rfl rfl hs10.b (by omega) hs10.sz ?_)
                  intro v11_ w11_ hb11 hk11 hB11
                  obtain ⟨M11, hM11⟩ : ∃ M, M = M10 ++ FN.data.toList := ⟨_, rfl⟩
                  rw [← hM11] at hb11
                  have HM11 : Hid (M11 = M10 ++ FN.data.toList) := hM11
                  have hm11 : M11.length = M10.length + FN.size := by rw [hM11, List.length_append]; rfl
                  have hs11 := hs10.keep hb11 hk11 hB11
                  have HI11 := hk11 (wr.heap.size + 1) _ 25 _ (by decide) HI10
                  clear hM11 hb11 hk11 hB11
                  clear hs10
                  clear HI10
                  obtain ⟨e110, e111, e112, e113, e114, e115⟩ := hs11.cells
                  obtain ⟨g110, g111, g112, g113, g114⟩ := two_cells HI11
                  have hst := hs11.store HI11 hneP hBI hLI (.int .i32 arg)
                  have HIS := two_set (x := .int .i32 arg) HI11
                  go_wp2_with (at_builtin; refine push_byte rfl (.tmp 81) (.tmp 82) rfl w.heap.size _ M11 32 32 (w11_.setCell ⟨(wr.heap.size + 1), 1, none⟩ (.int .i32 arg)) _ rfl rfl 1 rfl (by first | rfl | simp [Act.eval, Act.put]) hst.b rfl (by omega) hst.sz ?_)
                  intro v12_ w12_ hb12 hk12 hB12
                  obtain ⟨M12, hM12⟩ : ∃ M, M = M11 ++ [(32 : UInt8)] := ⟨_, rfl⟩
                  rw [← hM12] at hb12
                  have HM12 : Hid (M12 = M11 ++ [(32 : UInt8)]) := hM12
                  have hm12 : M12.length = M11.length + 1 := by rw [hM12, List.length_append]; rfl
                  have hs12 := hst.keep hb12 hk12 hB12
                  have HI12 := hk12 (wr.heap.size + 1) _ 25 _ (by decide) HIS
                  clear hM12 hb12 hk12 hB12 hst HIS hs11 HI11
                  clear e110 e111 e112 e113 e114 e115 g110 g111 g112 g113 g114
                  obtain ⟨e120, e121, e122, e123, e124, e125⟩ := hs12.cells
                  obtain ⟨g120, g121, g122, g123, g124⟩ := two_cells HI12
                  go_wp2_with fail
                  refine (hJ3 _).mono ?_
                  rintro e w12_ ⟨rfl, rfl⟩
                  go_wp2_with (at_builtin; refine push_text rfl (.tmp 84) (.tmp 88) rfl w.heap.size _ M12 F3 rfl rfl hs12.b (by omega) hs12.sz ?_)
                  intro v13_ w13_ hb13 hk13 hB13
                  obtain ⟨M13, hM13⟩ : ∃ M, M = M12 ++ F3.data.toList := ⟨_, rfl⟩
                  rw [← hM13] at hb13
                  have HM13 : Hid (M13 = M12 ++ F3.data.toList) := hM13
                  have hm13 : M13.length = M12.length + F3.size := by rw [hM13, List.length_append]; rfl
                  have hs13 := hs12.keep hb13 hk13 hB13
                  have HI13 := hk13 (wr.heap.size + 1) _ 25 _ (by decide) HI12
                  clear hM13 hb13 hk13 hB13
                  clear hs12
                  clear HI12
                  obtain ⟨e130, e131, e132, e133, e134, e135⟩ := hs13.cells
                  obtain ⟨g130, g131, g132, g133, g134⟩ := two_cells HI13
                  clear e120 e121 e122 e123 e124 e125 g120 g121 g122 g123 g124
                  go_wp2_with fail
                  refine (jdec_any arg hg0 hg1 w.heap.size _ M13 _ hs13.b hs13.sz (by omega)).mono ?_
                  rintro e w14_ ⟨v14_, rfl, hb14, hk14, hB14⟩
                  obtain ⟨M14, hM14⟩ : ∃ M, M = M13 ++ fmtI arg := ⟨_, rfl⟩
                  rw [← hM14] at hb14
                  have HM14 : Hid (M14 = M13 ++ fmtI arg) := hM14
                  have hm14 : M14.length ≤ M13.length + 11 := by rw [hM14, List.length_append]; have := fmtI_len arg hg0 hg1; omega
                  have hs14 := hs13.keep hb14 hk14 hB14
                  have HI14 := hk14 (wr.heap.size + 1) _ 25 _ (by decide) HI13
                  clear hM14 hb14 hk14 hB14 hs13 HI13
                  clear e130 e131 e132 e133 e134 e135 g130 g131 g132 g133 g134
                  obtain ⟨e140, e141, e142, e143, e144, e145⟩ := hs14.cells
                  obtain ⟨g140, g141, g142, g143, g144⟩ := two_cells HI14
                  go_wp2_with fail
                  refine (hJ9 _).mono ?_
                  rintro e w14_ ⟨rfl, rfl⟩
                  go_wp2_with (at_builtin; refine push_text rfl (.tmp 94) (.tmp 98) rfl w.heap.size _ M14 F9 rfl rfl hs14.b (by omega) hs14.sz ?_)
                  intro v15_ w15_ hb15 hk15 hB15
                  obtain ⟨M15, hM15⟩ : ∃ M, M = M14 ++ F9.data.toList := ⟨_, rfl⟩
                  rw [← hM15] at hb15
                  have HM15 : Hid (M15 = M14 ++ F9.data.toList) := hM15
                  have hm15 : M15.length = M14.length + F9.size := by rw [hM15, List.length_append]; rfl
                  have hs15 := hs14.keep hb15 hk15 hB15
                  have HI15 := hk15 (wr.heap.size + 1) _ 25 _ (by decide) HI14
                  clear hM15 hb15 hk15 hB15
                  clear hs14
                  clear HI14
                  obtain ⟨e150, e151, e152, e153, e154, e155⟩ := hs15.cells
                  obtain ⟨g150, g151, g152, g153, g154⟩ := two_cells HI15
                  clear e140 e141 e142 e143 e144 e145 g140 g141 g142 g143 g144
                  have HLB : Hid (M15 = joinB (A ++ [bodyJ ⟨kd, op, arg, pad⟩])) := by
                    show _ = _
                    rw [HM15.out, HM14.out, HM13.out, HM12.out, HM11.out, HM10.out, HJ.out, bodyJ_num ⟨kd, op, arg, pad⟩ h5 h37 h07, HF1.out, HFN.out, HF3.out, HF9.out]
                    simp only [List.append_assoc]
                  rw [← HA'.out] at HLB
                  have hpar := parse_num ⟨kd, op, arg, pad⟩ hokq h5 h37 h07
                  have HPN : Hid (P ++ [(op % 8, arg)] = insOf ((E.take (0 + 1)).map bodyJ)) := by show _ = _; rw [HA'.out, insOf_snoc A _ _ _ _ hpar, if_pos rfl, HP.out]
                  have HBN : Hid (bd = badAt ((E.take (0 + 1)).map bodyJ) 1) := by
                    show _ = _
                    rw [HA'.out, badAt_snoc A _ _ _ _ hpar, if_neg (show ¬ ((1 : Int) = 2) by decide), ← HBD.out]
                    split
                    · assumption
                    · rfl
                  have hp2 := alloc_two w15_ (.int .u8 (op % 8)) (.int .i32 arg) 25
                  clear hpar
                  go_wp2_with (at_builtin; refine wpList_push_instr rfl (.tmp 100) (.tmp 102) rfl w.heap.size _ P (op % 8) arg w15_.heap.size 1 rfl (by first | rfl | simp [Act.eval, Act.put]) (hs15.p.alloc _) hp2.1 hp2.2 (by omega) (alloc_le hs15.sz _) ?_)
                  intro vz wz hownz hgrow
                  have hbz := (hs15.b.alloc _).beside (hs15.p.alloc _) hgrow
                  have hbelz : Below w.heap.size w wz := (hs15.bel.alloc hs15.sz _).grown hgrow (alloc_le hs15.sz _) hs15.p.size
                  clear hgrow hp2 hs15 HI15
                  clear e150 e151 e152 e153 e154 e155 g150 g151 g152 g153 g154
                  go_wp2
                  go_roundw
                  case rel => exact ⟨0 + 1, M15, (P ++ [(op % 8, arg)]), bd, by omega, by go_num, by go_num, hbz, hownz, hbelz, HLB, HPN, HBN, by omega, by rw [List.length_append, List.length_singleton]; omega, by omega, by omega⟩
                  case measure => simp [intOf] <;> omega
              · have q0 : (op % 8 == 0) = false := int_ne (fun h => h07 (.inl h))
                have qz : (op % 8 == 7) = false := int_ne (fun h => h07 (.inr h))
                go_wp2_with fail
                generalize hW : ((wr.alloc (.cells #[.int .u8 kd, .int .u8 op, .int .i32 arg, .int .u8 pad] 34)).alloc (.cells #[.int .u8 (op % 8), .int .i32 0] 25)) = W
                have hs : JS w.heap.size w W u5 L1 u6 P wr.heap.size kd op arg pad := by rw [← hW]; exact hS0.alloc _
                have HI : W.heap[wr.heap.size + 1]? = some (.cells #[.int .u8 (op % 8), .int .i32 0] 25) := by
                  have h := heap_new (wr.alloc (.cells #[.int .u8 kd, .int .u8 op, .int .i32 arg, .int .u8 pad] 34)) (.cells #[.int .u8 (op % 8), .int .i32 0] 25)
                  rw [hsa, hW] at h
                  exact h
                have hneP : u6.ownBlock ≠ some (wr.heap.size + 1) := fun h => by
                  have := (World.ownsRow.lt hS0.p _ h).2
                  omega
                have hBI : w.heap.size ≤ wr.heap.size + 1 := by omega
                have hLI : ¬ wr.heap.size = wr.heap.size + 1 := by omega
                clear hW hS0
                refine (hJ1 _).mono ?_
                rintro e W ⟨rfl, rfl⟩
                go_wp2_with (at_builtin; refine push_text rfl (.tmp 63) (.tmp 66) rfl w.heap.size _ L1 F1 rfl rfl hs.b (by omega) hs.sz ?_)
                intro v16_ w16_ hb16 hk16 hB16
                obtain ⟨M16, hM16⟩ : ∃ M, M = L1 ++ F1.data.toList := ⟨_, rfl⟩
                rw [← hM16] at hb16
                have HM16 : Hid (M16 = L1 ++ F1.data.toList) := hM16
                have hm16 : M16.length = L1.length + F1.size := by rw [hM16, List.length_append]; rfl
                have hs16 := hs.keep hb16 hk16 hB16
                have HI16 := hk16 (wr.heap.size + 1) _ 25 _ (by decide) HI
                clear hM16 hb16 hk16 hB16
                clear hs
                clear HI
                obtain ⟨e160, e161, e162, e163, e164, e165⟩ := hs16.cells
                obtain ⟨g160, g161, g162, g163, g164⟩ := two_cells HI16
                go_wp2_with fail
                clear e160 e161 e162 e163 e164 e165 g160 g161 g162 g163 g164
                refine (hJN _).mono ?_
                rintro e w16_ ⟨rfl, rfl⟩
                go_wp2_with (at_builtin; refine push_text rfl (.tmp 68) (.tmp 70) rfl w.heap.size _ M16 FN rfl rfl hs16.b (by omega) hs16.sz ?_)
                intro v17_ w17_ hb17 hk17 hB17
                obtain ⟨M17, hM17⟩ : ∃ M, M = M16 ++ FN.data.toList := ⟨_, rfl⟩
                rw [← hM17] at hb17
                have HM17 : Hid (M17 = M16 ++ FN.data.toList) := hM17
                have hm17 : M17.length = M16.length + FN.size := by rw [hM17, List.length_append]; rfl
                have hs17 := hs16.keep hb17 hk17 hB17
                have HI17 := hk17 (wr.heap.size + 1) _ 25 _ (by decide) HI16
                clear hM17 hb17 hk17 hB17
                clear hs16
                clear HI16
                obtain ⟨e170, e171, e172, e173, e174, e175⟩ := hs17.cells
                obtain ⟨g170, g171, g172, g173, g174⟩ := two_cells HI17
                go_wp2_with fail
                refine (hJ9 _).mono ?_
                rintro e w17_ ⟨rfl, rfl⟩
                go_wp2_with (at_builtin; refine push_text rfl (.tmp 94) (.tmp 98) rfl w.heap.size _ M17 F9 rfl rfl hs17.b (by omega) hs17.sz ?_)
                intro v18_ w18_ hb18 hk18 hB18
                obtain ⟨M18, hM18⟩ : ∃ M, M = M17 ++ F9.data.toList := ⟨_, rfl⟩
                rw [← hM18] at hb18
                have HM18 : Hid (M18 = M17 ++ F9.data.toList) := hM18
                have hm18 : M18.length = M17.length + F9.size := by rw [hM18, List.length_append]; rfl
                have hs18 := hs17.keep hb18 hk18 hB18
                have HI18 := hk18 (wr.heap.size + 1) _ 25 _ (by decide) HI17
                clear hM18 hb18 hk18 hB18
                clear hs17
                clear HI17
                obtain ⟨e180, e181, e182, e183, e184, e185⟩ := hs18.cells
                obtain ⟨g180, g181, g182, g183, g184⟩ := two_cells HI18
                clear e170 e171 e172 e173 e174 e175 g170 g171 g172 g173 g174
                have HLB : Hid (M18 = joinB (A ++ [bodyJ ⟨kd, op, arg, pad⟩])) := by
                  show _ = _
                  rw [HM18.out, HM17.out, HM16.out, HJ.out, bodyJ_plain ⟨kd, op, arg, pad⟩ h5 h37 h07, HF1.out, HFN.out, HF9.out]
                  simp only [List.append_assoc]
                rw [← HA'.out] at HLB
                have hpar := parse_plain ⟨kd, op, arg, pad⟩ hokq h5 h37 h07
                have HPN : Hid (P ++ [(op % 8, 0)] = insOf ((E.take (0 + 1)).map bodyJ)) := by show _ = _; rw [HA'.out, insOf_snoc A _ _ _ _ hpar, if_pos rfl, HP.out]
                have HBN : Hid (bd = badAt ((E.take (0 + 1)).map bodyJ) 1) := by
                  show _ = _
                  rw [HA'.out, badAt_snoc A _ _ _ _ hpar, if_neg (show ¬ ((1 : Int) = 2) by decide), ← HBD.out]
                  split
                  · assumption
                  · rfl
                have hp2 := alloc_two w18_ (.int .u8 (op % 8)) (.int .i32 0) 25
                clear hpar
                go_wp2_with (at_builtin; refine wpList_push_instr rfl (.tmp 100) (.tmp 102) rfl w.heap.size _ P (op % 8) 0 w18_.heap.size 1 rfl (by first | rfl | simp [Act.eval, Act.put]) (hs18.p.alloc _) hp2.1 hp2.2 (by omega) (alloc_le hs18.sz _) ?_)
                intro vz wz hownz hgrow
                have hbz := (hs18.b.alloc _).beside (hs18.p.alloc _) hgrow
                have hbelz : Below w.heap.size w wz := (hs18.bel.alloc hs18.sz _).grown hgrow (alloc_le hs18.sz _) hs18.p.size
                clear hgrow hp2 hs18 HI18
                clear e180 e181 e182 e183 e184 e185 g180 g181 g182 g183 g184
                go_wp2
                go_roundw
                case rel => exact ⟨0 + 1, M18, (P ++ [(op % 8, 0)]), bd, by omega, by go_num, by go_num, hbz, hownz, hbelz, HLB, HPN, HBN, by omega, by rw [List.length_append, List.length_singleton]; omega, by omega, by omega⟩
                case measure => simp [intOf] <;> omega
        · have hkp : (0 : Int) < (k : Int) := by omega
          have hAne := HAS.out (by omega)
          obtain ⟨L1, hL1⟩ : ∃ L1 : List UInt8, L1 = lb ++ [10] := ⟨_, rfl⟩
          have HL1 : Hid (L1 = lb ++ [10]) := hL1
          have HJ : Hid (∀ x, joinB (A ++ [x]) = L1 ++ x) := by intro x; rw [hL1, joinB_snoc A x hAne, ← HLB0.out]
          have hl1 : L1.length ≤ 30 * k + 1 := by rw [hL1, List.length_append, List.length_singleton]; omega
          clear HAN HAS hAne hL1 HLB0 hk0
          by_cases h5 : kd % 8 = 5
          · have q5 : (kd % 8 == 5) = true := int_eq h5
            by_cases hbd : bd = 0
            · have qb : (bd == 0) = true := int_eq hbd
              go_wp2_with (at_builtin; refine push_byte rfl (.tmp 30) (.tmp 31) rfl w.heap.size _ lb 10 10 (wr.alloc (.cells #[.int .u8 kd, .int .u8 op, .int .i32 arg, .int .u8 pad] 34)) _ rfl rfl 1 rfl (by first | rfl | simp [Act.eval, Act.put]) hS0.b rfl (by omega) hS0.sz ?_)
              intro vb1 W0 hb0 hk0 hB0
              rw [← HL1.out] at hb0
              have hs0 := hS0.keep hb0 hk0 hB0
              have hltP := hs0.p
              clear hb0 hk0 hB0 hS0
              obtain ⟨e0, e1, e2, e3, e4, e5⟩ := hs0.cells
              go_wp2_with fail
              have hs := hs0
              clear hs0 hltP e0 e1 e2 e3 e4 e5
              refine (hJB _).mono ?_
              rintro e W0 ⟨rfl, rfl⟩
              go_wp2_with (at_builtin; refine push_text rfl (.tmp 38) (.tmp 41) rfl w.heap.size _ L1 FB rfl rfl hs.b (by omega) hs.sz ?_)
              intro v19_ w19_ hb19 hk19 hB19
              obtain ⟨M19, hM19⟩ : ∃ M, M = L1 ++ FB.data.toList := ⟨_, rfl⟩
              rw [← hM19] at hb19
              have HM19 : Hid (M19 = L1 ++ FB.data.toList) := hM19
              have hm19 : M19.length = L1.length + FB.size := by rw [hM19, List.length_append]; rfl
              have hs19 := hs.keep hb19 hk19 hB19
              clear hM19 hb19 hk19 hB19
              clear hs
              obtain ⟨e190, e191, e192, e193, e194, e195⟩ := hs19.cells
              clear e190 e191 e192 e193 e194 e195
              have HLB : Hid (M19 = joinB (A ++ [bodyJ ⟨kd, op, arg, pad⟩])) := by show _ = _; rw [HM19.out, HJ.out, bodyJ_bad ⟨kd, op, arg, pad⟩ h5, HFB.out]
              rw [← HA'.out] at HLB
              have hpar : parseL (bodyJ ⟨kd, op, arg, pad⟩) = (0, 0, 2) := by rw [bodyJ_bad ⟨kd, op, arg, pad⟩ h5]; exact jbad_parse _
              have HPN : Hid (P = insOf ((E.take (k + 1)).map bodyJ)) := by show _ = _; rw [HA'.out, insOf_snoc A _ _ _ _ hpar, if_neg (show ¬ ((2 : Int) = 1) by decide), HP.out]
              have HBN : Hid ((((k + 1 : Nat)) : Int) = badAt ((E.take (k + 1)).map bodyJ) 1) := by
                show _ = _
                rw [HA'.out, badAt_snoc A _ _ _ _ hpar, ← HBD.out, if_pos hbd, if_pos rfl, HAL.out]
                omega
              clear hpar
              go_wp2
              go_roundw
              case rel => exact ⟨k + 1, M19, P, (((k + 1 : Nat)) : Int), by omega, by go_num, by go_num, hs19.b, hs19.p, hs19.bel, HLB, HPN, HBN, by omega, by omega, by omega, by omega⟩
              case measure => simp [intOf] <;> omega
            · have qb : (bd == 0) = false := int_ne hbd
              go_wp2_with (at_builtin; refine push_byte rfl (.tmp 30) (.tmp 31) rfl w.heap.size _ lb 10 10 (wr.alloc (.cells #[.int .u8 kd, .int .u8 op, .int .i32 arg, .int .u8 pad] 34)) _ rfl rfl 1 rfl (by first | rfl | simp [Act.eval, Act.put]) hS0.b rfl (by omega) hS0.sz ?_)
              intro vb1 W0 hb0 hk0 hB0
              rw [← HL1.out] at hb0
              have hs0 := hS0.keep hb0 hk0 hB0
              have hltP := hs0.p
              clear hb0 hk0 hB0 hS0
              obtain ⟨e0, e1, e2, e3, e4, e5⟩ := hs0.cells
              go_wp2_with fail
              have hs := hs0
              clear hs0 hltP e0 e1 e2 e3 e4 e5
              refine (hJB _).mono ?_
              rintro e W0 ⟨rfl, rfl⟩
              go_wp2_with (at_builtin; refine push_text rfl (.tmp 38) (.tmp 41) rfl w.heap.size _ L1 FB rfl rfl hs.b (by omega) hs.sz ?_)
              intro v20_ w20_ hb20 hk20 hB20
              obtain ⟨M20, hM20⟩ : ∃ M, M = L1 ++ FB.data.toList := ⟨_, rfl⟩
              rw [← hM20] at hb20
              have HM20 : Hid (M20 = L1 ++ FB.data.toList) := hM20
              have hm20 : M20.length = L1.length + FB.size := by rw [hM20, List.length_append]; rfl
              have hs20 := hs.keep hb20 hk20 hB20
              clear hM20 hb20 hk20 hB20
              clear hs
              obtain ⟨e200, e201, e202, e203, e204, e205⟩ := hs20.cells
              clear e200 e201 e202 e203 e204 e205
              have HLB : Hid (M20 = joinB (A ++ [bodyJ ⟨kd, op, arg, pad⟩])) := by show _ = _; rw [HM20.out, HJ.out, bodyJ_bad ⟨kd, op, arg, pad⟩ h5, HFB.out]
              rw [← HA'.out] at HLB
              have hpar : parseL (bodyJ ⟨kd, op, arg, pad⟩) = (0, 0, 2) := by rw [bodyJ_bad ⟨kd, op, arg, pad⟩ h5]; exact jbad_parse _
              have HPN : Hid (P = insOf ((E.take (k + 1)).map bodyJ)) := by show _ = _; rw [HA'.out, insOf_snoc A _ _ _ _ hpar, if_neg (show ¬ ((2 : Int) = 1) by decide), HP.out]
              have HBN : Hid (bd = badAt ((E.take (k + 1)).map bodyJ) 1) := by
                show _ = _
                rw [HA'.out, badAt_snoc A _ _ _ _ hpar, ← HBD.out, if_neg hbd]
                
              clear hpar
              go_wp2
              go_roundw
              case rel => exact ⟨k + 1, M20, P, bd, by omega, by go_num, by go_num, hs20.b, hs20.p, hs20.bel, HLB, HPN, HBN, by omega, by omega, by omega, by omega⟩
              case measure => simp [intOf] <;> omega
          · have q5 : (kd % 8 == 5) = false := int_ne h5
            by_cases h37 : kd % 8 = 3 ∨ kd % 8 = 7
            · have hq : (kd % 8 == 3) = true ∨ ((kd % 8 == 3) = false ∧ (kd % 8 == 7) = true) := by
                by_cases h : kd % 8 = 3
                · exact .inl (int_eq h)
                · exact .inr ⟨int_ne h, int_eq (by omega)⟩
              rcases hq with q3 | ⟨q3, q7⟩
              · skip
                go_wp2_with (at_builtin; refine push_byte rfl (.tmp 30) (.tmp 31) rfl w.heap.size _ lb 10 10 (wr.alloc (.cells #[.int .u8 kd, .int .u8 op, .int .i32 arg, .int .u8 pad] 34)) _ rfl rfl 1 rfl (by first | rfl | simp [Act.eval, Act.put]) hS0.b rfl (by omega) hS0.sz ?_)
                intro vb1 W0 hb0 hk0 hB0
                rw [← HL1.out] at hb0
                have hs0 := hS0.keep hb0 hk0 hB0
                have hltP := hs0.p
                clear hb0 hk0 hB0 hS0
                obtain ⟨e0, e1, e2, e3, e4, e5⟩ := hs0.cells
                go_wp2_with fail
                have hs := hs0
                clear hs0 hltP e0 e1 e2 e3 e4 e5
                refine (hJ1 _).mono ?_
                rintro e W0 ⟨rfl, rfl⟩
                go_wp2_with (at_builtin; refine push_text rfl (.tmp 53) (.tmp 56) rfl w.heap.size _ L1 F1 rfl rfl hs.b (by omega) hs.sz ?_)
                intro v21_ w21_ hb21 hk21 hB21
                obtain ⟨M21, hM21⟩ : ∃ M, M = L1 ++ F1.data.toList := ⟨_, rfl⟩
                rw [← hM21] at hb21
                have HM21 : Hid (M21 = L1 ++ F1.data.toList) := hM21
                have hm21 : M21.length = L1.length + F1.size := by rw [hM21, List.length_append]; rfl
                have hs21 := hs.keep hb21 hk21 hB21
                clear hM21 hb21 hk21 hB21
                clear hs
                obtain ⟨e210, e211, e212, e213, e214, e215⟩ := hs21.cells
                clear e210 e211 e212 e213 e214 e215
                have HLB : Hid (M21 = joinB (A ++ [bodyJ ⟨kd, op, arg, pad⟩])) := by show _ = _; rw [HM21.out, HJ.out, bodyJ_blank ⟨kd, op, arg, pad⟩ h37, HF1.out]
                rw [← HA'.out] at HLB
                have hpar : parseL (bodyJ ⟨kd, op, arg, pad⟩) = (0, 0, 0) := by rw [bodyJ_blank ⟨kd, op, arg, pad⟩ h37]; exact jblank_parse _
                have HPN : Hid (P = insOf ((E.take (k + 1)).map bodyJ)) := by show _ = _; rw [HA'.out, insOf_snoc A _ _ _ _ hpar, if_neg (show ¬ ((0 : Int) = 1) by decide), HP.out]
                have HBN : Hid (bd = badAt ((E.take (k + 1)).map bodyJ) 1) := by
                  show _ = _
                  rw [HA'.out, badAt_snoc A _ _ _ _ hpar, if_neg (show ¬ ((0 : Int) = 2) by decide), ← HBD.out]
                  split
                  · assumption
                  · rfl
                clear hpar
                go_wp2
                go_roundw
                case rel => exact ⟨k + 1, M21, P, bd, by omega, by go_num, by go_num, hs21.b, hs21.p, hs21.bel, HLB, HPN, HBN, by omega, by omega, by omega, by omega⟩
                case measure => simp [intOf] <;> omega
              · skip
                go_wp2_with (at_builtin; refine push_byte rfl (.tmp 30) (.tmp 31) rfl w.heap.size _ lb 10 10 (wr.alloc (.cells #[.int .u8 kd, .int .u8 op, .int .i32 arg, .int .u8 pad] 34)) _ rfl rfl 1 rfl (by first | rfl | simp [Act.eval, Act.put]) hS0.b rfl (by omega) hS0.sz ?_)
                intro vb1 W0 hb0 hk0 hB0
                rw [← HL1.out] at hb0
                have hs0 := hS0.keep hb0 hk0 hB0
                have hltP := hs0.p
                clear hb0 hk0 hB0 hS0
                obtain ⟨e0, e1, e2, e3, e4, e5⟩ := hs0.cells
                go_wp2_with fail
                have hs := hs0
                clear hs0 hltP e0 e1 e2 e3 e4 e5
                refine (hJ1 _).mono ?_
                rintro e W0 ⟨rfl, rfl⟩
                go_wp2_with (at_builtin; refine push_text rfl (.tmp 53) (.tmp 56) rfl w.heap.size _ L1 F1 rfl rfl hs.b (by omega) hs.sz ?_)
                intro v22_ w22_ hb22 hk22 hB22
                obtain ⟨M22, hM22⟩ : ∃ M, M = L1 ++ F1.data.toList := ⟨_, rfl⟩
                rw [← hM22] at hb22
                have HM22 : Hid (M22 = L1 ++ F1.data.toList) := hM22
                have hm22 : M22.length = L1.length + F1.size := by rw [hM22, List.length_append]; rfl
                have hs22 := hs.keep hb22 hk22 hB22
                clear hM22 hb22 hk22 hB22
                clear hs
                obtain ⟨e220, e221, e222, e223, e224, e225⟩ := hs22.cells
                clear e220 e221 e222 e223 e224 e225
                have HLB : Hid (M22 = joinB (A ++ [bodyJ ⟨kd, op, arg, pad⟩])) := by show _ = _; rw [HM22.out, HJ.out, bodyJ_blank ⟨kd, op, arg, pad⟩ h37, HF1.out]
                rw [← HA'.out] at HLB
                have hpar : parseL (bodyJ ⟨kd, op, arg, pad⟩) = (0, 0, 0) := by rw [bodyJ_blank ⟨kd, op, arg, pad⟩ h37]; exact jblank_parse _
                have HPN : Hid (P = insOf ((E.take (k + 1)).map bodyJ)) := by show _ = _; rw [HA'.out, insOf_snoc A _ _ _ _ hpar, if_neg (show ¬ ((0 : Int) = 1) by decide), HP.out]
                have HBN : Hid (bd = badAt ((E.take (k + 1)).map bodyJ) 1) := by
                  show _ = _
                  rw [HA'.out, badAt_snoc A _ _ _ _ hpar, if_neg (show ¬ ((0 : Int) = 2) by decide), ← HBD.out]
                  split
                  · assumption
                  · rfl
                clear hpar
                go_wp2
                go_roundw
                case rel => exact ⟨k + 1, M22, P, bd, by omega, by go_num, by go_num, hs22.b, hs22.p, hs22.bel, HLB, HPN, HBN, by omega, by omega, by omega, by omega⟩
                case measure => simp [intOf] <;> omega
            · have q3 : (kd % 8 == 3) = false := int_ne (fun h => h37 (.inl h))
              have q7 : (kd % 8 == 7) = false := int_ne (fun h => h37 (.inr h))
              by_cases h07 : op % 8 = 0 ∨ op % 8 = 7
              · have hq : (op % 8 == 0) = true ∨ ((op % 8 == 0) = false ∧ (op % 8 == 7) = true) := by
                  by_cases h : op % 8 = 0
                  · exact .inl (int_eq h)
                  · exact .inr ⟨int_ne h, int_eq (by omega)⟩
                rcases hq with q0 | ⟨q0, qz⟩
                · skip
                  go_wp2_with (at_builtin; refine push_byte rfl (.tmp 30) (.tmp 31) rfl w.heap.size _ lb 10 10 (wr.alloc (.cells #[.int .u8 kd, .int .u8 op, .int .i32 arg, .int .u8 pad] 34)) _ rfl rfl 1 rfl (by first | rfl | simp [Act.eval, Act.put]) hS0.b rfl (by omega) hS0.sz ?_)
                  intro vb1 W0 hb0 hk0 hB0
                  rw [← HL1.out] at hb0
                  have hs0 := hS0.keep hb0 hk0 hB0
                  have hltP := hs0.p
                  clear hb0 hk0 hB0 hS0
                  obtain ⟨e0, e1, e2, e3, e4, e5⟩ := hs0.cells
                  go_wp2_with fail
                  generalize hW : W0.alloc (.cells #[.int .u8 (op % 8), .int .i32 0] 25) = W
                  have hs : JS w.heap.size w W vb1 L1 u6 P wr.heap.size kd op arg pad := by rw [← hW]; exact hs0.alloc _
                  have HI : W.heap[W0.heap.size]? = some (.cells #[.int .u8 (op % 8), .int .i32 0] 25) := by
                    rw [← hW]
                    exact heap_new W0 (.cells #[.int .u8 (op % 8), .int .i32 0] 25)
                  have hneP : u6.ownBlock ≠ some W0.heap.size := fun h => by
                    have := (World.ownsRow.lt hltP _ h).2
                    omega
                  have hBI : w.heap.size ≤ W0.heap.size := hs0.sz
                  have hLI : ¬ wr.heap.size = W0.heap.size := e5
                  clear hW hs0 hltP e0 e1 e2 e3 e5
                  refine (hJ1 _).mono ?_
                  rintro e W ⟨rfl, rfl⟩
                  go_wp2_with (at_builtin; refine push_text rfl (.tmp 63) (.tmp 66) rfl w.heap.size _ L1 F1 rfl rfl hs.b (by omega) hs.sz ?_)
                  intro v23_ w23_ hb23 hk23 hB23
                  obtain ⟨M23, hM23⟩ : ∃ M, M = L1 ++ F1.data.toList := ⟨_, rfl⟩
                  rw [← hM23] at hb23
                  have HM23 : Hid (M23 = L1 ++ F1.data.toList) := hM23
                  have hm23 : M23.length = L1.length + F1.size := by rw [hM23, List.length_append]; rfl
                  have hs23 := hs.keep hb23 hk23 hB23
                  have HI23 := hk23 W0.heap.size _ 25 _ (by decide) HI
                  clear hM23 hb23 hk23 hB23
                  clear hs
                  clear HI
                  obtain ⟨e230, e231, e232, e233, e234, e235⟩ := hs23.cells
                  obtain ⟨g230, g231, g232, g233, g234⟩ := two_cells HI23
                  go_wp2_with fail
                  clear e230 e231 e232 e233 e234 e235 g230 g231 g232 g233 g234
                  refine (hJN _).mono ?_
                  rintro e w23_ ⟨rfl, rfl⟩
                  go_wp2_with (at_builtin; refine push_text rfl (.tmp 68) (.tmp 70) rfl w.heap.size _ M23 FN rfl rfl hs23.b (by omega) hs23.sz ?_)
                  intro v24_ w24_ hb24 hk24 hB24
                  obtain ⟨M24, hM24⟩ : ∃ M, M = M23 ++ FN.data.toList := ⟨_, rfl⟩
                  rw [← hM24] at hb24
                  have HM24 : Hid (M24 = M23 ++ FN.data.toList) := hM24
                  have hm24 : M24.length = M23.length + FN.size := by rw [hM24, List.length_append]; rfl
                  have hs24 := hs23.keep hb24 hk24 hB24
                  have HI24 := hk24 W0.heap.size _ 25 _ (by decide) HI23
                  clear hM24 hb24 hk24 hB24
                  clear hs23
                  clear HI23
                  obtain ⟨e240, e241, e242, e243, e244, e245⟩ := hs24.cells
                  obtain ⟨g240, g241, g242, g243, g244⟩ := two_cells HI24
                  have hst := hs24.store HI24 hneP hBI hLI (.int .i32 arg)
                  have HIS := two_set (x := .int .i32 arg) HI24
                  go_wp2_with (at_builtin; refine push_byte rfl (.tmp 81) (.tmp 82) rfl w.heap.size _ M24 32 32 (w24_.setCell ⟨W0.heap.size, 1, none⟩ (.int .i32 arg)) _ rfl rfl 1 rfl (by first | rfl | simp [Act.eval, Act.put]) hst.b rfl (by omega) hst.sz ?_)
                  intro v25_ w25_ hb25 hk25 hB25
                  obtain ⟨M25, hM25⟩ : ∃ M, M = M24 ++ [(32 : UInt8)] := ⟨_, rfl⟩
                  rw [← hM25] at hb25
                  have HM25 : Hid (M25 = M24 ++ [(32 : UInt8)]) := hM25
                  have hm25 : M25.length = M24.length + 1 := by rw [hM25, List.length_append]; rfl
                  have hs25 := hst.keep hb25 hk25 hB25
                  have HI25 := hk25 W0.heap.size _ 25 _ (by decide) HIS
                  clear hM25 hb25 hk25 hB25 hst HIS hs24 HI24
                  clear e240 e241 e242 e243 e244 e245 g240 g241 g242 g243 g244
                  obtain ⟨e250, e251, e252, e253, e254, e255⟩ := hs25.cells
                  obtain ⟨g250, g251, g252, g253, g254⟩ := two_cells HI25
                  go_wp2_with fail
                  refine (hJ3 _).mono ?_
                  rintro e w25_ ⟨rfl, rfl⟩
                  go_wp2_with (at_builtin; refine push_text rfl (.tmp 84) (.tmp 88) rfl w.heap.size _ M25 F3 rfl rfl hs25.b (by omega) hs25.sz ?_)
                  intro v26_ w26_ hb26 hk26 hB26
                  obtain ⟨M26, hM26⟩ : ∃ M, M = M25 ++ F3.data.toList := ⟨_, rfl⟩
                  rw [← hM26] at hb26
                  have HM26 : Hid (M26 = M25 ++ F3.data.toList) := hM26
                  have hm26 : M26.length = M25.length + F3.size := by rw [hM26, List.length_append]; rfl
                  have hs26 := hs25.keep hb26 hk26 hB26
                  have HI26 := hk26 W0.heap.size _ 25 _ (by decide) HI25
                  clear hM26 hb26 hk26 hB26
                  clear hs25
                  clear HI25
                  obtain ⟨e260, e261, e262, e263, e264, e265⟩ := hs26.cells
                  obtain ⟨g260, g261, g262, g263, g264⟩ := two_cells HI26
                  clear e250 e251 e252 e253 e254 e255 g250 g251 g252 g253 g254
                  go_wp2_with fail
                  refine (jdec_any arg hg0 hg1 w.heap.size _ M26 _ hs26.b hs26.sz (by omega)).mono ?_
                  rintro e w27_ ⟨v27_, rfl, hb27, hk27, hB27⟩
                  obtain ⟨M27, hM27⟩ : ∃ M, M = M26 ++ fmtI arg := ⟨_, rfl⟩
                  rw [← hM27] at hb27
                  have HM27 : Hid (M27 = M26 ++ fmtI arg) := hM27
                  have hm27 : M27.length ≤ M26.length + 11 := by rw [hM27, List.length_append]; have := fmtI_len arg hg0 hg1; omega
                  have hs27 := hs26.keep hb27 hk27 hB27
                  have HI27 := hk27 W0.heap.size _ 25 _ (by decide) HI26
                  clear hM27 hb27 hk27 hB27 hs26 HI26
                  clear e260 e261 e262 e263 e264 e265 g260 g261 g262 g263 g264
                  obtain ⟨e270, e271, e272, e273, e274, e275⟩ := hs27.cells
                  obtain ⟨g270, g271, g272, g273, g274⟩ := two_cells HI27
                  go_wp2_with fail
                  refine (hJ9 _).mono ?_
                  rintro e w27_ ⟨rfl, rfl⟩
                  go_wp2_with (at_builtin; refine push_text rfl (.tmp 94) (.tmp 98) rfl w.heap.size _ M27 F9 rfl rfl hs27.b (by omega) hs27.sz ?_)
                  intro v28_ w28_ hb28 hk28 hB28
                  obtain ⟨M28, hM28⟩ : ∃ M, M = M27 ++ F9.data.toList := ⟨_, rfl⟩
                  rw [← hM28] at hb28
                  have HM28 : Hid (M28 = M27 ++ F9.data.toList) := hM28
                  have hm28 : M28.length = M27.length + F9.size := by rw [hM28, List.length_append]; rfl
                  have hs28 := hs27.keep hb28 hk28 hB28
                  have HI28 := hk28 W0.heap.size _ 25 _ (by decide) HI27
                  clear hM28 hb28 hk28 hB28
                  clear hs27
                  clear HI27
                  obtain ⟨e280, e281, e282, e283, e284, e285⟩ := hs28.cells
                  obtain ⟨g280, g281, g282, g283, g284⟩ := two_cells HI28
                  clear e270 e271 e272 e273 e274 e275 g270 g271 g272 g273 g274
                  have HLB : Hid (M28 = joinB (A ++ [bodyJ ⟨kd, op, arg, pad⟩])) := by
                    show _ = _
                    rw [HM28.out, HM27.out, HM26.out, HM25.out, HM24.out, HM23.out, HJ.out, bodyJ_num ⟨kd, op, arg, pad⟩ h5 h37 h07, HF1.out, HFN.out, HF3.out, HF9.out]
                    simp only [List.append_assoc]
                  rw [← HA'.out] at HLB
                  have hpar := parse_num ⟨kd, op, arg, pad⟩ hokq h5 h37 h07
                  have HPN : Hid (P ++ [(op % 8, arg)] = insOf ((E.take (k + 1)).map bodyJ)) := by show _ = _; rw [HA'.out, insOf_snoc A _ _ _ _ hpar, if_pos rfl, HP.out]
                  have HBN : Hid (bd = badAt ((E.take (k + 1)).map bodyJ) 1) := by
                    show _ = _
                    rw [HA'.out, badAt_snoc A _ _ _ _ hpar, if_neg (show ¬ ((1 : Int) = 2) by decide), ← HBD.out]
                    split
                    · assumption
                    · rfl
                  have hp2 := alloc_two w28_ (.int .u8 (op % 8)) (.int .i32 arg) 25
                  clear hpar
                  go_wp2_with (at_builtin; refine wpList_push_instr rfl (.tmp 100) (.tmp 102) rfl w.heap.size _ P (op % 8) arg w28_.heap.size 1 rfl (by first | rfl | simp [Act.eval, Act.put]) (hs28.p.alloc _) hp2.1 hp2.2 (by omega) (alloc_le hs28.sz _) ?_)
                  intro vz wz hownz hgrow
                  have hbz := (hs28.b.alloc _).beside (hs28.p.alloc _) hgrow
                  have hbelz : Below w.heap.size w wz := (hs28.bel.alloc hs28.sz _).grown hgrow (alloc_le hs28.sz _) hs28.p.size
                  clear hgrow hp2 hs28 HI28
                  clear e280 e281 e282 e283 e284 e285 g280 g281 g282 g283 g284
                  go_wp2
                  go_roundw
                  case rel => exact ⟨k + 1, M28, (P ++ [(op % 8, arg)]), bd, by omega, by go_num, by go_num, hbz, hownz, hbelz, HLB, HPN, HBN, by omega, by rw [List.length_append, List.length_singleton]; omega, by omega, by omega⟩
                  case measure => simp [intOf] <;> omega
                · skip
                  go_wp2_with (at_builtin; refine push_byte rfl (.tmp 30) (.tmp 31) rfl w.heap.size _ lb 10 10 (wr.alloc (.cells #[.int .u8 kd, .int .u8 op, .int .i32 arg, .int .u8 pad] 34)) _ rfl rfl 1 rfl (by first | rfl | simp [Act.eval, Act.put]) hS0.b rfl (by omega) hS0.sz ?_)
                  intro vb1 W0 hb0 hk0 hB0
                  rw [← HL1.out] at hb0
                  have hs0 := hS0.keep hb0 hk0 hB0
                  have hltP := hs0.p
                  clear hb0 hk0 hB0 hS0
                  obtain ⟨e0, e1, e2, e3, e4, e5⟩ := hs0.cells
                  go_wp2_with fail
                  generalize hW : W0.alloc (.cells #[.int .u8 (op % 8), .int .i32 0] 25) = W
                  have hs : JS w.heap.size w W vb1 L1 u6 P wr.heap.size kd op arg pad := by rw [← hW]; exact hs0.alloc _
                  have HI : W.heap[W0.heap.size]? = some (.cells #[.int .u8 (op % 8), .int .i32 0] 25) := by
                    rw [← hW]
                    exact heap_new W0 (.cells #[.int .u8 (op % 8), .int .i32 0] 25)
                  have hneP : u6.ownBlock ≠ some W0.heap.size := fun h => by
                    have := (World.ownsRow.lt hltP _ h).2
                    omega
                  have hBI : w.heap.size ≤ W0.heap.size := hs0.sz
                  have hLI : ¬ wr.heap.size = W0.heap.size := e5
                  clear hW hs0 hltP e0 e1 e2 e3 e5
                  refine (hJ1 _).mono ?_
                  rintro e W ⟨rfl, rfl⟩
                  go_wp2_with (at_builtin; refine push_text rfl (.tmp 63) (.tmp 66) rfl w.heap.size _ L1 F1 rfl rfl hs.b (by omega) hs.sz ?_)
                  intro v29_ w29_ hb29 hk29 hB29
                  obtain ⟨M29, hM29⟩ : ∃ M, M = L1 ++ F1.data.toList := ⟨_, rfl⟩
                  rw [← hM29] at hb29
                  have HM29 : Hid (M29 = L1 ++ F1.data.toList) := hM29
                  have hm29 : M29.length = L1.length + F1.size := by rw [hM29, List.length_append]; rfl
                  have hs29 := hs.keep hb29 hk29 hB29
                  have HI29 := hk29 W0.heap.size _ 25 _ (by decide) HI
                  clear hM29 hb29 hk29 hB29
                  clear hs
                  clear HI
                  obtain ⟨e290, e291, e292, e293, e294, e295⟩ := hs29.cells
                  obtain ⟨g290, g291, g292, g293, g294⟩ := two_cells HI29
                  go_wp2_with fail
                  clear e290 e291 e292 e293 e294 e295 g290 g291 g292 g293 g294
                  refine (hJN _).mono ?_
                  rintro e w29_ ⟨rfl, rfl⟩
                  go_wp2_with (at_builtin; refine push_text rfl (.tmp 68) (.tmp 70) rfl w.heap.size _ M29 FN rfl rfl hs29.b (by omega) hs29.sz ?_)
                  intro v30_ w30_ hb30 hk30 hB30
                  obtain ⟨M30, hM30⟩ : ∃ M, M = M29 ++ FN.data.toList := ⟨_, rfl⟩
                  rw [← hM30] at hb30
                  have HM30 : Hid (M30 = M29 ++ FN.data.toList) := hM30
                  have hm30 : M30.length = M29.length + FN.size := by rw [hM30, List.length_append]; rfl
                  have hs30 := hs29.keep hb30 hk30 hB30
                  have HI30 := hk30 W0.heap.size _ 25 _ (by decide) HI29
                  clear hM30 hb30 hk30 hB30
                  clear hs29
                  clear HI29
                  obtain ⟨e300, e301, e302, e303, e304, e305⟩ := hs30.cells
                  obtain ⟨g300, g301, g302, g303, g304⟩ := two_cells HI30
                  have hst := hs30.store HI30 hneP hBI hLI (.int .i32 arg)
                  have HIS := two_set (x := .int .i32 arg) HI30
                  go_wp2_with (at_builtin; refine push_byte rfl (.tmp 81) (.tmp 82) rfl w.heap.size _ M30 32 32 (w30_.setCell ⟨W0.heap.size, 1, none⟩ (.int .i32 arg)) _ rfl rfl 1 rfl (by first | rfl | simp [Act.eval, Act.put]) hst.b rfl (by omega) hst.sz ?_)
                  intro v31_ w31_ hb31 hk31 hB31
                  obtain ⟨M31, hM31⟩ : ∃ M, M = M30 ++ [(32 : UInt8)] := ⟨_, rfl⟩
                  rw [← hM31] at hb31
                  have HM31 : Hid (M31 = M30 ++ [(32 : UInt8)]) := hM31
                  have hm31 : M31.length = M30.length + 1 := by rw [hM31, List.length_append]; rfl
                  have hs31 := hst.keep hb31 hk31 hB31
                  have HI31 := hk31 W0.heap.size _ 25 _ (by decide) HIS
                  clear hM31 hb31 hk31 hB31 hst HIS hs30 HI30
                  clear e300 e301 e302 e303 e304 e305 g300 g301 g302 g303 g304
                  obtain ⟨e310, e311, e312, e313, e314, e315⟩ := hs31.cells
                  obtain ⟨g310, g311, g312, g313, g314⟩ := two_cells HI31
                  go_wp2_with fail
                  refine (hJ3 _).mono ?_
                  rintro e w31_ ⟨rfl, rfl⟩
                  go_wp2_with (at_builtin; refine push_text rfl (.tmp 84) (.tmp 88) rfl w.heap.size _ M31 F3 rfl rfl hs31.b (by omega) hs31.sz ?_)
                  intro v32_ w32_ hb32 hk32 hB32
                  obtain ⟨M32, hM32⟩ : ∃ M, M = M31 ++ F3.data.toList := ⟨_, rfl⟩
                  rw [← hM32] at hb32
                  have HM32 : Hid (M32 = M31 ++ F3.data.toList) := hM32
                  have hm32 : M32.length = M31.length + F3.size := by rw [hM32, List.length_append]; rfl
                  have hs32 := hs31.keep hb32 hk32 hB32
                  have HI32 := hk32 W0.heap.size _ 25 _ (by decide) HI31
                  clear hM32 hb32 hk32 hB32
                  clear hs31
                  clear HI31
                  obtain ⟨e320, e321, e322, e323, e324, e325⟩ := hs32.cells
                  obtain ⟨g320, g321, g322, g323, g324⟩ := two_cells HI32
                  clear e310 e311 e312 e313 e314 e315 g310 g311 g312 g313 g314
                  go_wp2_with fail
                  refine (jdec_any arg hg0 hg1 w.heap.size _ M32 _ hs32.b hs32.sz (by omega)).mono ?_
                  rintro e w33_ ⟨v33_, rfl, hb33, hk33, hB33⟩
                  obtain ⟨M33, hM33⟩ : ∃ M, M = M32 ++ fmtI arg := ⟨_, rfl⟩
                  rw [← hM33] at hb33
                  have HM33 : Hid (M33 = M32 ++ fmtI arg) := hM33
                  have hm33 : M33.length ≤ M32.length + 11 := by rw [hM33, List.length_append]; have := fmtI_len arg hg0 hg1; omega
                  have hs33 := hs32.keep hb33 hk33 hB33
                  have HI33 := hk33 W0.heap.size _ 25 _ (by decide) HI32
                  clear hM33 hb33 hk33 hB33 hs32 HI32
                  clear e320 e321 e322 e323 e324 e325 g320 g321 g322 g323 g324
                  obtain ⟨e330, e331, e332, e333, e334, e335⟩ := hs33.cells
                  obtain ⟨g330, g331, g332, g333, g334⟩ := two_cells HI33
                  go_wp2_with fail
                  refine (hJ9 _).mono ?_
                  rintro e w33_ ⟨rfl, rfl⟩
                  go_wp2_with (at_builtin; refine push_text rfl (.tmp 94) (.tmp 98) rfl w.heap.size _ M33 F9 rfl rfl hs33.b (by omega) hs33.sz ?_)
                  intro v34_ w34_ hb34 hk34 hB34
                  obtain ⟨M34, hM34⟩ : ∃ M, M = M33 ++ F9.data.toList := ⟨_, rfl⟩
                  rw [← hM34] at hb34
                  have HM34 : Hid (M34 = M33 ++ F9.data.toList) := hM34
                  have hm34 : M34.length = M33.length + F9.size := by rw [hM34, List.length_append]; rfl
                  have hs34 := hs33.keep hb34 hk34 hB34
                  have HI34 := hk34 W0.heap.size _ 25 _ (by decide) HI33
                  clear hM34 hb34 hk34 hB34
                  clear hs33
                  clear HI33
                  obtain ⟨e340, e341, e342, e343, e344, e345⟩ := hs34.cells
                  obtain ⟨g340, g341, g342, g343, g344⟩ := two_cells HI34
                  clear e330 e331 e332 e333 e334 e335 g330 g331 g332 g333 g334
                  have HLB : Hid (M34 = joinB (A ++ [bodyJ ⟨kd, op, arg, pad⟩])) := by
                    show _ = _
                    rw [HM34.out, HM33.out, HM32.out, HM31.out, HM30.out, HM29.out, HJ.out, bodyJ_num ⟨kd, op, arg, pad⟩ h5 h37 h07, HF1.out, HFN.out, HF3.out, HF9.out]
                    simp only [List.append_assoc]
                  rw [← HA'.out] at HLB
                  have hpar := parse_num ⟨kd, op, arg, pad⟩ hokq h5 h37 h07
                  have HPN : Hid (P ++ [(op % 8, arg)] = insOf ((E.take (k + 1)).map bodyJ)) := by show _ = _; rw [HA'.out, insOf_snoc A _ _ _ _ hpar, if_pos rfl, HP.out]
                  have HBN : Hid (bd = badAt ((E.take (k + 1)).map bodyJ) 1) := by
                    show _ = _
                    rw [HA'.out, badAt_snoc A _ _ _ _ hpar, if_neg (show ¬ ((1 : Int) = 2) by decide), ← HBD.out]
                    split
                    · assumption
                    · rfl
                  have hp2 := alloc_two w34_ (.int .u8 (op % 8)) (.int .i32 arg) 25
                  clear hpar
                  go_wp2_with (at_builtin; refine wpList_push_instr rfl (.tmp 100) (.tmp 102) rfl w.heap.size _ P (op % 8) arg w34_.heap.size 1 rfl (by first | rfl | simp [Act.eval, Act.put]) (hs34.p.alloc _) hp2.1 hp2.2 (by omega) (alloc_le hs34.sz _) ?_)
                  intro vz wz hownz hgrow
                  have hbz := (hs34.b.alloc _).beside (hs34.p.alloc _) hgrow
                  have hbelz : Below w.heap.size w wz := (hs34.bel.alloc hs34.sz _).grown hgrow (alloc_le hs34.sz _) hs34.p.size
                  clear hgrow hp2 hs34 HI34
                  clear e340 e341 e342 e343 e344 e345 g340 g341 g342 g343 g344
                  go_wp2
                  go_roundw
                  case rel => exact ⟨k + 1, M34, (P ++ [(op % 8, arg)]), bd, by omega, by go_num, by go_num, hbz, hownz, hbelz, HLB, HPN, HBN, by omega, by rw [List.length_append, List.length_singleton]; omega, by omega, by omega⟩
                  case measure => simp [intOf] <;> omega
              · have q0 : (op % 8 == 0) = false := int_ne (fun h => h07 (.inl h))
                have qz : (op % 8 == 7) = false := int_ne (fun h => h07 (.inr h))
                go_wp2_with (at_builtin; refine push_byte rfl (.tmp 30) (.tmp 31) rfl w.heap.size _ lb 10 10 (wr.alloc (.cells #[.int .u8 kd, .int .u8 op, .int .i32 arg, .int .u8 pad] 34)) _ rfl rfl 1 rfl (by first | rfl | simp [Act.eval, Act.put]) hS0.b rfl (by omega) hS0.sz ?_)
                intro vb1 W0 hb0 hk0 hB0
                rw [← HL1.out] at hb0
                have hs0 := hS0.keep hb0 hk0 hB0
                have hltP := hs0.p
                clear hb0 hk0 hB0 hS0
                obtain ⟨e0, e1, e2, e3, e4, e5⟩ := hs0.cells
                go_wp2_with fail
                generalize hW : W0.alloc (.cells #[.int .u8 (op % 8), .int .i32 0] 25) = W
                have hs : JS w.heap.size w W vb1 L1 u6 P wr.heap.size kd op arg pad := by rw [← hW]; exact hs0.alloc _
                have HI : W.heap[W0.heap.size]? = some (.cells #[.int .u8 (op % 8), .int .i32 0] 25) := by
                  rw [← hW]
                  exact heap_new W0 (.cells #[.int .u8 (op % 8), .int .i32 0] 25)
                have hneP : u6.ownBlock ≠ some W0.heap.size := fun h => by
                  have := (World.ownsRow.lt hltP _ h).2
                  omega
                have hBI : w.heap.size ≤ W0.heap.size := hs0.sz
                have hLI : ¬ wr.heap.size = W0.heap.size := e5
                clear hW hs0 hltP e0 e1 e2 e3 e5
                refine (hJ1 _).mono ?_
                rintro e W ⟨rfl, rfl⟩
                go_wp2_with (at_builtin; refine push_text rfl (.tmp 63) (.tmp 66) rfl w.heap.size _ L1 F1 rfl rfl hs.b (by omega) hs.sz ?_)
                intro v35_ w35_ hb35 hk35 hB35
                obtain ⟨M35, hM35⟩ : ∃ M, M = L1 ++ F1.data.toList := ⟨_, rfl⟩
                rw [← hM35] at hb35
                have HM35 : Hid (M35 = L1 ++ F1.data.toList) := hM35
                have hm35 : M35.length = L1.length + F1.size := by rw [hM35, List.length_append]; rfl
                have hs35 := hs.keep hb35 hk35 hB35
                have HI35 := hk35 W0.heap.size _ 25 _ (by decide) HI
                clear hM35 hb35 hk35 hB35
                clear hs
                clear HI
                obtain ⟨e350, e351, e352, e353, e354, e355⟩ := hs35.cells
                obtain ⟨g350, g351, g352, g353, g354⟩ := two_cells HI35
                go_wp2_with fail
                clear e350 e351 e352 e353 e354 e355 g350 g351 g352 g353 g354
                refine (hJN _).mono ?_
                rintro e w35_ ⟨rfl, rfl⟩
                go_wp2_with (at_builtin; refine push_text rfl (.tmp 68) (.tmp 70) rfl w.heap.size _ M35 FN rfl rfl hs35.b (by omega) hs35.sz ?_)
                intro v36_ w36_ hb36 hk36 hB36
                obtain ⟨M36, hM36⟩ : ∃ M, M = M35 ++ FN.data.toList := ⟨_, rfl⟩
                rw [← hM36] at hb36
                have HM36 : Hid (M36 = M35 ++ FN.data.toList) := hM36
                have hm36 : M36.length = M35.length + FN.size := by rw [hM36, List.length_append]; rfl
                have hs36 := hs35.keep hb36 hk36 hB36
                have HI36 := hk36 W0.heap.size _ 25 _ (by decide) HI35
                clear hM36 hb36 hk36 hB36
                clear hs35
                clear HI35
                obtain ⟨e360, e361, e362, e363, e364, e365⟩ := hs36.cells
                obtain ⟨g360, g361, g362, g363, g364⟩ := two_cells HI36
                go_wp2_with fail
                refine (hJ9 _).mono ?_
                rintro e w36_ ⟨rfl, rfl⟩
                go_wp2_with (at_builtin; refine push_text rfl (.tmp 94) (.tmp 98) rfl w.heap.size _ M36 F9 rfl rfl hs36.b (by omega) hs36.sz ?_)
                intro v37_ w37_ hb37 hk37 hB37
                obtain ⟨M37, hM37⟩ : ∃ M, M = M36 ++ F9.data.toList := ⟨_, rfl⟩
                rw [← hM37] at hb37
                have HM37 : Hid (M37 = M36 ++ F9.data.toList) := hM37
                have hm37 : M37.length = M36.length + F9.size := by rw [hM37, List.length_append]; rfl
                have hs37 := hs36.keep hb37 hk37 hB37
                have HI37 := hk37 W0.heap.size _ 25 _ (by decide) HI36
                clear hM37 hb37 hk37 hB37
                clear hs36
                clear HI36
                obtain ⟨e370, e371, e372, e373, e374, e375⟩ := hs37.cells
                obtain ⟨g370, g371, g372, g373, g374⟩ := two_cells HI37
                clear e360 e361 e362 e363 e364 e365 g360 g361 g362 g363 g364
                have HLB : Hid (M37 = joinB (A ++ [bodyJ ⟨kd, op, arg, pad⟩])) := by
                  show _ = _
                  rw [HM37.out, HM36.out, HM35.out, HJ.out, bodyJ_plain ⟨kd, op, arg, pad⟩ h5 h37 h07, HF1.out, HFN.out, HF9.out]
                  simp only [List.append_assoc]
                rw [← HA'.out] at HLB
                have hpar := parse_plain ⟨kd, op, arg, pad⟩ hokq h5 h37 h07
                have HPN : Hid (P ++ [(op % 8, 0)] = insOf ((E.take (k + 1)).map bodyJ)) := by show _ = _; rw [HA'.out, insOf_snoc A _ _ _ _ hpar, if_pos rfl, HP.out]
                have HBN : Hid (bd = badAt ((E.take (k + 1)).map bodyJ) 1) := by
                  show _ = _
                  rw [HA'.out, badAt_snoc A _ _ _ _ hpar, if_neg (show ¬ ((1 : Int) = 2) by decide), ← HBD.out]
                  split
                  · assumption
                  · rfl
                have hp2 := alloc_two w37_ (.int .u8 (op % 8)) (.int .i32 0) 25
                clear hpar
                go_wp2_with (at_builtin; refine wpList_push_instr rfl (.tmp 100) (.tmp 102) rfl w.heap.size _ P (op % 8) 0 w37_.heap.size 1 rfl (by first | rfl | simp [Act.eval, Act.put]) (hs37.p.alloc _) hp2.1 hp2.2 (by omega) (alloc_le hs37.sz _) ?_)
                intro vz wz hownz hgrow
                have hbz := (hs37.b.alloc _).beside (hs37.p.alloc _) hgrow
                have hbelz : Below w.heap.size w wz := (hs37.bel.alloc hs37.sz _).grown hgrow (alloc_le hs37.sz _) hs37.p.size
                clear hgrow hp2 hs37 HI37
                clear e370 e371 e372 e373 e374 e375 g370 g371 g372 g373 g374
                go_wp2
                go_roundw
                case rel => exact ⟨k + 1, M37, (P ++ [(op % 8, 0)]), bd, by omega, by go_num, by go_num, hbz, hownz, hbelz, HLB, HPN, HBN, by omega, by rw [List.length_append, List.length_singleton]; omega, by omega, by omega⟩
                case measure => simp [intOf] <;> omega
    · skip
      obtain rfl : k = n := by omega
      have hE : E.take k = E := by rw [HEN.out, List.take_length]
      rw [hE] at HLB0 HP HBD
      have HAS := asm_joinB (E.map bodyJ) (by
        intro x hx
        obtain ⟨q, hq, rfl⟩ := List.mem_map.1 hx
        exact bodyJ_no10 q (HOK.out q hq))
      rw [← HP.out, ← HBD.out, ← HLB0.out] at HAS
      clear hE HLB0 HP HBD HE HOK HEN
      cases fin with
      | false =>
        obtain ⟨T, hT⟩ : ∃ T, T = lb := ⟨_, rfl⟩
        have HT : Hid (asmT T = if bd = 0 then (P, 0) else ([], bd)) := by rw [hT]; exact HAS false
        have hTl : T.length ≤ 30 * k := by rw [hT]; exact hlb
        rw [← hT] at hown
        clear hT HAS
        have ht := hown.text
        obtain ⟨G, hG⟩ : ∃ G : ByteArray, G = ⟨T.toArray⟩ := ⟨_, rfl⟩
        rw [← hG] at ht
        have hGs : G.size ≤ 100000 := by rw [hG]; show T.toArray.size ≤ _; rw [List.size_toArray]; omega
        have hCA := fun W => assemble_any G W hGs
        have hGl : G.data.toList = T := by rw [hG]
        rw [hGl, HT.out] at hCA
        clear hG hGl HT
        by_cases h0 : bd = 0
        · rw [if_pos h0] at hCA
          subst h0
          go_wp2_with fail
          refine (hCA _).mono ?_
          rintro e w2 ⟨v2, rfl, hown2, hb2, _⟩
          obtain ⟨a2, c2, rfl, hp2⟩ := hown2.prog
          obtain ⟨a1, c1, rfl, hp1⟩ := (hownp.below hb2).prog
          have hbel2 := hbel.trans (hb2.mono hbel.size)
          obtain ⟨m, hm⟩ : ∃ m, m = P.length := ⟨_, rfl⟩
          have hJS := jsame_any P m a2 a1 c2 c1 w2 hm (by omega) hp2 hp1
          simp only [← hm]
          clear hm hp1 hp2 hown2 hb2 hCA ht hown hownp
          go_wp2_with fail
          refine hJS.mono ?_
          rintro e w3 ⟨rfl, hb3⟩
          have hbel3 := hbel2.trans (hb3.mono hbel2.size)
          go_wp2_with fail
          go_ret
          exact ⟨rfl, hbel3⟩
        · rw [if_neg h0] at hCA
          have h0' : (bd == 0) = false := int_ne h0
          go_wp2_with fail
          refine (hCA _).mono ?_
          rintro e w2 ⟨v2, rfl, hown2, hb2, hnil⟩
          obtain rfl := hnil h0
          have hbel2 := hbel.trans (hb2.mono hbel.size)
          have hnn : (binOp .eql 32 (.slice none 0 0) (.slice none 0 0)).run Ybym.prog w2 = .ok (.bool true) w2 := Go.Lib.run_eql_slice_nil w2 32 25 none 0 0 0 0 Ybym.underlying32
          clear hown2 hb2 hCA hnil ht hown hownp
          go_wp2_with fail
          go_ret
          exact ⟨rfl, hbel2⟩
      | true =>
        go_wp2_with (at_builtin; refine push_byte rfl (.tmp 105) (.tmp 106) rfl w.heap.size _ lb 10 10 wr _ rfl rfl 1 rfl (by first | rfl | simp [Act.eval, Act.put]) hown rfl (by omega) hsz ?_)
        intro vb1 W0 hb0 hk0 hB0
        have hp0 := hownp.keep hk0
        have hbelx := hbel.trans hB0
        obtain ⟨T, hT⟩ : ∃ T, T = lb ++ [10] := ⟨_, rfl⟩
        have HT : Hid (asmT T = if bd = 0 then (P, 0) else ([], bd)) := by rw [hT]; exact HAS true
        have hTl : T.length ≤ 30 * k + 1 := by rw [hT, List.length_append, List.length_singleton]; omega
        rw [← hT] at hb0
        clear hT HAS hown hownp hbel hk0 hB0
        have ht := hb0.text
        obtain ⟨G, hG⟩ : ∃ G : ByteArray, G = ⟨T.toArray⟩ := ⟨_, rfl⟩
        rw [← hG] at ht
        have hGs : G.size ≤ 100000 := by rw [hG]; show T.toArray.size ≤ _; rw [List.size_toArray]; omega
        have hCA := fun W => assemble_any G W hGs
        have hGl : G.data.toList = T := by rw [hG]
        rw [hGl, HT.out] at hCA
        clear hG hGl HT
        by_cases h0 : bd = 0
        · rw [if_pos h0] at hCA
          subst h0
          go_wp2_with fail
          refine (hCA _).mono ?_
          rintro e w2 ⟨v2, rfl, hown2, hb2, _⟩
          obtain ⟨a2, c2, rfl, hp2⟩ := hown2.prog
          obtain ⟨a1, c1, rfl, hp1⟩ := (hp0.below hb2).prog
          have hbel2 := hbelx.trans (hb2.mono hbelx.size)
          obtain ⟨m, hm⟩ : ∃ m, m = P.length := ⟨_, rfl⟩
          have hJS := jsame_any P m a2 a1 c2 c1 w2 hm (by omega) hp2 hp1
          simp only [← hm]
          clear hm hp1 hp2 hown2 hb2 hCA ht hb0 hp0
          go_wp2_with fail
          refine hJS.mono ?_
          rintro e w3 ⟨rfl, hb3⟩
          have hbel3 := hbel2.trans (hb3.mono hbel2.size)
          go_wp2_with fail
          go_ret
          exact ⟨rfl, hbel3⟩
        · rw [if_neg h0] at hCA
          have h0' : (bd == 0) = false := int_ne h0
          go_wp2_with fail
          refine (hCA _).mono ?_
          rintro e w2 ⟨v2, rfl, hown2, hb2, hnil⟩
          obtain rfl := hnil h0
          have hbel2 := hbelx.trans (hb2.mono hbelx.size)
          have hnn : (binOp .eql 32 (.slice none 0 0) (.slice none 0 0)).run Ybym.prog w2 = .ok (.bool true) w2 := Go.Lib.run_eql_slice_nil w2 32 25 none 0 0 0 0 Ybym.underlying32
          clear hown2 hb2 hCA hnil ht hb0 hp0
          go_wp2_with fail
          go_ret
          exact ⟨rfl, hbel2⟩

set_option maxHeartbeats 4000000 in
theorem JBuild_walk (a : Option Addr) (n cap : Nat) (fin : Bool) (w : World) (w0 : LinesAt w a n) :
    Calls Ybym.prog 4 #[.slice a n cap, .bool fin] w fun e w' => e = .returned (.bool true) ∧ Below w.heap.size w w' := by
  have hm := w0.1
  unfold maxLen at hm
  by_cases hl : (256 : Int) < (n : Int)
  · clear w0
    go_enter Ybym.func4, Ybym.ntmps4
    go_wp2
    go_ret
    exact ⟨rfl, Below.refl _ _⟩
  · obtain ⟨E, hEn, hok, hE⟩ := lines_list w0
    exact JBuild_core E n a cap fin w (by omega) hEn.symm hok hE
end Go.Proofs.Ymbrby

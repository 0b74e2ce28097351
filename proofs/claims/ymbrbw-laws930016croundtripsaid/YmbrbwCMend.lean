import Derived.Test.YmbrbwOwnProg
namespace Go.Proofs.Ymbrbw
open Go.ChangeShapes Go.WideShapes Go.ChangeAt Go.RowKit
set_option linter.unusedVariables false
set_option linter.unusedSimpArgs false

def mendI (q : Int × Int) : Int × Int := (q.1 % 8, if q.1 % 8 = 0 ∨ q.1 % 8 = 7 then q.2 else 0)
theorem mendI_ok (q : Int × Int) (h : okI q) : okI (mendI q) ∧ wfI (mendI q).1 (mendI q).2 = true := by
  unfold okI at h
  unfold okI mendI wfI
  dsimp only
  by_cases h7 : q.1 % 8 = 0 ∨ q.1 % 8 = 7
  · rw [if_pos h7]
    exact ⟨by omega, decide_eq_true (by omega)⟩
  · rw [if_neg h7]
    exact ⟨by omega, decide_eq_true (by omega)⟩
theorem alloc_pair (w : World) (u v : Value) (t : TypeId) : (w.alloc (.cells #[u, v] t)).cell? ⟨w.heap.size, 0, none⟩ = some u ∧ (w.alloc (.cells #[u, v] t)).cell? ⟨w.heap.size, 1, none⟩ = some v := by
  rw [World.cell?_alloc_mark, World.cell?_alloc_mark]
  exact ⟨rfl, rfl⟩
theorem map_take_succ (P : List (Int × Int)) (f : Int × Int → Int × Int) (k : Nat) (h : k < P.length) : (P.take (k + 1)).map f = (P.take k).map f ++ [f P[k]] := by
  rw [List.take_succ_eq_append_getElem h, List.map_append]
  rfl

set_option maxRecDepth 100000 in
set_option maxHeartbeats 8000000 in
theorem cmend_any (P : List (Int × Int)) (a : Option Addr) (cap : Nat) (w : World) (hn : P.length ≤ 1024) (hok : Hid (∀ q ∈ P, okI q)) (hP : Hid (ProgIn w a P)) :
    Calls Ybwm.prog 24 #[.slice a P.length cap] w fun e w' => ∃ v, e = .returned v ∧ OwnP w.heap.size w' v (P.map mendI) ∧ Below w.heap.size w w' := by
  obtain ⟨n, hln⟩ : ∃ n, n = P.length := ⟨_, rfl⟩
  have HN : Hid (n = P.length) := hln
  rw [← hln]
  rw [← hln] at hn
  clear hln
  go_enter Ybwm.func24, Ybwm.ntmps24
  go_wp2_with (at_make; refine wpList_make_instrs rfl (.const (.int .i64 0)) (.tmp 9) rfl w.heap.size n (n : Int) rfl rfl rfl (by omega) (Nat.le_refl _) ?_)
  intro w1 hown1 hgrow1
  have hbel1 : Below w.heap.size w w1 := (Below.refl _ _).grown hgrow1 (Nat.le_refl _) (fun k hk => by cases hk)
  clear hgrow1
  go_wp2
  go_loopw [3, 13] (fun v i wr => ∃ (k : Nat), k ≤ n ∧ i = .int .i64 k ∧ OwnP w.heap.size wr v ((P.take k).map mendI) ∧ Below w.heap.size w wr) (fun _ i _ => n - (intOf i).toNat)
  case atStart => exact ⟨0, by omega, rfl, hown1, hbel1⟩
  case round =>
    obtain ⟨k, hk, rfl, hown, hbel⟩ := hrel
    clear hown1 hbel1
    have hsz := hbel.size
    by_cases hlt : k < n
    · have hkP : k < P.length := by have := HN.out; omega
      rcases hP.out with h | ⟨b, off, rfl, hb, hc⟩
      · omega
      · obtain ⟨c0, c1⟩ := hc k hkP
        obtain ⟨⟨o0, o1⟩, ⟨g0, g1⟩⟩ := hok.out P[k] (List.getElem_mem hkP)
        obtain ⟨op, hop⟩ : ∃ op, op = P[k].1 := ⟨_, rfl⟩
        obtain ⟨arg, harg⟩ : ∃ arg, arg = P[k].2 := ⟨_, rfl⟩
        have HM : Hid ((P.take (k + 1)).map mendI = (P.take k).map mendI ++ [mendI (op, arg)]) := by show _ = _; rw [map_take_succ P mendI k hkP, hop, harg]
        rw [← hop] at c0 o0 o1
        rw [← harg] at c1 g0 g1
        have k0 : wr.cell? ⟨b, off + k * 2, none⟩ = some (.int .u8 op) := (hbel.cell (p := ⟨b, off + k * 2, none⟩) hb).trans c0
        have k1 : wr.cell? ⟨b, off + k * 2 + 1, none⟩ = some (.int .i32 arg) := (hbel.cell (p := ⟨b, off + k * 2 + 1, none⟩) hb).trans c1
        have hbn : ¬ b = wr.heap.size := by omega
        obtain ⟨L, hL⟩ : ∃ L, L = (P.take k).map mendI := ⟨_, rfl⟩
        have hLl : L.length < 1000000 := by rw [hL, List.length_map, List.length_take]; omega
        rw [← hL] at hown
        have HM' : Hid ((P.take (k + 1)).map mendI = L ++ [mendI (op, arg)]) := by show _ = _; rw [hL]; exact HM.out
        have hownA := (hown.alloc (.cells #[.int .u8 op, .int .i32 arg] 38))
        have hsz1 := alloc_le hsz (.cells #[.int .u8 op, .int .i32 arg] 38)
        clear c0 c1 hc hop harg HM hL
        have hsa : (wr.alloc (.cells #[.int .u8 op, .int .i32 arg] 38)).heap.size = wr.heap.size + 1 := by
          show (wr.heap.push _).size = _
          rw [Array.size_push]
        by_cases h07 : op % 8 = 0 ∨ op % 8 = 7
        · have HE : Hid (mendI (op, arg) = (op % 8, arg)) := by show _ = _; unfold mendI; rw [if_pos h07]
          have hp := alloc_pair (wr.alloc (.cells #[.int .u8 op, .int .i32 arg] 38)) (.int .u8 (op % 8)) (.int .i32 arg) 38
          rw [hsa] at hp
          have hq : (op % 8 == 0) = true ∨ ((op % 8 == 0) = false ∧ (op % 8 == 7) = true) := by
            by_cases h : op % 8 = 0
            · exact .inl (int_eq h)
            · exact .inr ⟨int_ne h, int_eq (by omega)⟩
          clear h07 hsa
          rcases hq with q0 | ⟨q0, q7⟩
          · have z0 : op % 8 = 0 := by simpa using q0
            rw [z0] at hp HE
            clear q0
            go_wp2_with (at_builtin; refine wpList_push_instr rfl (.tmp 28) (.tmp 32) rfl w.heap.size _ L 0 arg (wr.heap.size + 1) 1 rfl (by first | rfl | simp [Act.eval, Act.put]) (hownA.alloc _) hp.1 hp.2 hLl (alloc_le hsz1 _) ?_)
            intro v' w2 hown' hgrow
            have hbel' : Below w.heap.size w w2 := ((hbel.alloc hsz _).alloc hsz1 _).grown hgrow (alloc_le hsz1 _) hown.size
            rw [← HE.out, ← HM'.out] at hown'
            clear hown hgrow hbel hownA hp
            go_wp2
            go_roundw
            case rel => exact ⟨k + 1, by omega, by go_num, hown', hbel'⟩
            case measure => simp [intOf]; omega
          · have z7 : op % 8 = 7 := by simpa using q7
            rw [z7] at hp HE
            clear q0 q7
            go_wp2_with (at_builtin; refine wpList_push_instr rfl (.tmp 28) (.tmp 32) rfl w.heap.size _ L 7 arg (wr.heap.size + 1) 1 rfl (by first | rfl | simp [Act.eval, Act.put]) (hownA.alloc _) hp.1 hp.2 hLl (alloc_le hsz1 _) ?_)
            intro v' w2 hown' hgrow
            have hbel' : Below w.heap.size w w2 := ((hbel.alloc hsz _).alloc hsz1 _).grown hgrow (alloc_le hsz1 _) hown.size
            rw [← HE.out, ← HM'.out] at hown'
            clear hown hgrow hbel hownA hp
            go_wp2
            go_roundw
            case rel => exact ⟨k + 1, by omega, by go_num, hown', hbel'⟩
            case measure => simp [intOf]; omega
        · have HE : Hid (mendI (op, arg) = (op % 8, 0)) := by show _ = _; unfold mendI; rw [if_neg h07]
          have hp := alloc_pair (wr.alloc (.cells #[.int .u8 op, .int .i32 arg] 38)) (.int .u8 (op % 8)) (.int .i32 0) 38
          rw [hsa] at hp
          have q0 : (op % 8 == 0) = false := int_ne (fun h => h07 (.inl h))
          have q7 : (op % 8 == 7) = false := int_ne (fun h => h07 (.inr h))
          clear h07 hsa
          go_wp2_with (at_builtin; refine wpList_push_instr rfl (.tmp 28) (.tmp 32) rfl w.heap.size _ L (op % 8) 0 (wr.heap.size + 1) 1 rfl (by first | rfl | simp [Act.eval, Act.put]) (hownA.alloc _) hp.1 hp.2 hLl (alloc_le hsz1 _) ?_)
          intro v' w2 hown' hgrow
          have hbel' : Below w.heap.size w w2 := ((hbel.alloc hsz _).alloc hsz1 _).grown hgrow (alloc_le hsz1 _) hown.size
          rw [← HE.out, ← HM'.out] at hown'
          clear hown hgrow hbel hownA hp
          go_wp2
          go_roundw
          case rel => exact ⟨k + 1, by omega, by go_num, hown', hbel'⟩
          case measure => simp [intOf]; omega
    · obtain rfl : k = n := by omega
      have e : Hid (P.take k = P) := by show _ = _; rw [HN.out, List.take_length]
      rw [e.out] at hown
      go_wp2
      go_ret
      exact ⟨_, rfl, hown, hbel⟩
end Go.Proofs.Ymbrbw

import Derived.Test.YmbrbwFormatW
import Derived.Test.YmbrbwCMend
import Derived.Test.YmbrbwCRoundPlain
import Derived.BigQuiet
namespace Go.Proofs.Ymbrbw
open Go.ChangeShapes Go.WideShapes Go.ChangeAt Go.RowKit
set_option linter.unusedVariables false
set_option linter.unusedSimpArgs false

set_option maxRecDepth 100000 in
set_option maxHeartbeats 16000000 in
theorem CRound_mend (Q : List (Int × Int)) (a0 : Option Addr) (n cap0 : Nat) (w : World) (hn : n ≤ 1024) (HN : Hid (n = Q.length)) (G : ByteArray)
    (hCM : Calls Ybwm.prog 24 #[.slice a0 n cap0] w fun e w' => ∃ v, e = .returned v ∧ OwnP w.heap.size w' v Q ∧ Below w.heap.size w w')
    (hCF : ∀ a' cap W, Hid (ProgIn W a' Q) → Calls Ybwm.prog 25 #[.slice a' n cap] W fun e w' => e = .returned (.tuple #[.string G, .bool true]) ∧ Below W.heap.size W w')
    (hCA : ∀ W, Calls Ybwm.prog 27 #[.string G] W fun e w' => ∃ v, e = .returned (.tuple #[v, .int .i64 0]) ∧ OwnP W.heap.size w' v Q ∧ Below W.heap.size W w') :
    Calls Ybwm.prog 10 #[.slice a0 n cap0] w fun e w' => e = .returned (.bool true) ∧ Below w.heap.size w w' := by
  have hl : ¬ ((1024 : Int) < (n : Int)) := by omega
  go_enter Ybwm.func10, Ybwm.ntmps10
  go_wp2_with fail
  refine hCM.mono ?_
  rintro e w1 ⟨v, rfl, hown, hb1⟩
  obtain ⟨a', cap, rfl, hpr⟩ := hown.prog
  rw [← HN.out]
  have HPW : Hid (ProgIn w1 a' Q) := hpr
  clear hown hpr hCM
  go_wp2_with fail
  refine (hCF a' cap _ HPW).mono ?_
  rintro e w2 ⟨rfl, hb2⟩
  have hbel2 : Below w.heap.size w w2 := hb1.trans (hb2.mono hb1.size)
  have HP2 : Hid (ProgIn w2 a' Q) := HPW.out.below hb2 (Nat.le_refl _)
  clear hb2 HPW hCF hb1
  go_wp2_with fail
  refine (hCA _).mono ?_
  rintro e w3 ⟨v, rfl, hown, hb3⟩
  obtain ⟨a2, cap2, rfl, hpr⟩ := hown.prog
  rw [← HN.out]
  have hbel3 : Below w.heap.size w w3 := hbel2.trans (hb3.mono hbel2.size)
  have HP3 : Hid (ProgIn w3 a' Q) := HP2.out.below hb3 (Nat.le_refl _)
  have HR3 : Hid (ProgIn w3 a2 Q) := hpr
  clear hown hpr hb3 HP2 hbel2 hCA
  go_wp2_with fail
  go_loopw [37] (fun i wr => ∃ (k : Nat), k ≤ n ∧ i = .int .i64 k ∧ Below w.heap.size w wr ∧ Hid (ProgIn wr a' Q) ∧ Hid (ProgIn wr a2 Q)) (fun i _ => n - (intOf i).toNat)
  case atStart => exact ⟨0, by omega, rfl, hbel3, HP3, HR3⟩
  case round =>
    obtain ⟨k, hk, rfl, hbel, HPr, HRr⟩ := hrel
    clear HP3 HR3 hbel3
    by_cases hlt : k < n
    · have hkP : k < Q.length := by have := HN.out; omega
      rcases HPr.out with h | ⟨b, off, rfl, hb, hc⟩
      · omega
      rcases HRr.out with h | ⟨b2, off2, rfl, hb2, hc2⟩
      · omega
      obtain ⟨c0, c1⟩ := hc k hkP
      obtain ⟨d0, d1⟩ := hc2 k hkP
      obtain ⟨op, hop⟩ : ∃ op, op = Q[k].1 := ⟨_, rfl⟩
      obtain ⟨arg, harg⟩ : ∃ arg, arg = Q[k].2 := ⟨_, rfl⟩
      rw [← hop] at c0 d0
      rw [← harg] at c1 d1
      clear hc hc2 hop harg
      go_wp2_with fail
      go_quiet (fail)
      go_wp2_with fail
      go_roundw
      case rel => exact ⟨k + 1, by omega, by go_num, below_drewN hbel _, HPr, HRr⟩
      case measure => simp [intOf]; omega
    · obtain rfl : k = n := by omega
      go_wp2_with fail
      go_ret
      exact ⟨rfl, hbel⟩

set_option maxHeartbeats 4000000 in
theorem CRoundTrip_walk (a0 : Option Addr) (n cap : Nat) (w : World) (w0 : RecsAt w a0 n) :
    Calls Ybwm.prog 10 #[.slice a0 n cap] w fun e w' => e = .returned (.bool true) ∧ Below w.heap.size w w' := by
  obtain ⟨P, hPl, hok, hpr⟩ := recs_prog w0
  have hm := w0.1
  unfold maxLen at hm
  by_cases hl : (1024 : Int) < (n : Int)
  · clear hpr w0 hok hPl
    go_enter Ybwm.func10, Ybwm.ntmps10
    go_wp2
    go_ret
    exact ⟨rfl, Below.refl _ _⟩
  · have hl2 : (P.map mendI).length = n := by rw [List.length_map, hPl]
    have hok2 : ∀ q ∈ P.map mendI, okI q := by
      intro q hq
      obtain ⟨p, hp, rfl⟩ := List.mem_map.1 hq
      exact (mendI_ok p (hok p hp)).1
    have hwf2 : ∀ q ∈ P.map mendI, wfI q.1 q.2 = true := by
      intro q hq
      obtain ⟨p, hp, rfl⟩ := List.mem_map.1 hq
      exact (mendI_ok p (hok p hp)).2
    have hCM := cmend_any P a0 cap w (by omega) hok hpr
    rw [hPl] at hCM
    refine CRound_mend (P.map mendI) a0 n cap w (by omega) hl2.symm ⟨(textOf (P.map mendI)).toArray⟩ hCM (fun a' cap' W hW => ?_) (fun W => ?_)
    · have h := format_any (P.map mendI) a' cap' W (by omega) hok2 hW
      rw [hl2] at h
      refine h.mono ?_
      rintro e w' ⟨h1, h2⟩
      rcases h1 with ⟨_, h1⟩ | ⟨⟨q, hq, hf⟩, _⟩
      · exact ⟨h1, h2⟩
      · rw [hwf2 q hq] at hf
        cases hf
    · have hlen := textOf_len (P.map mendI) hok2
      have h := assemble_any ⟨(textOf (P.map mendI)).toArray⟩ W (by show (textOf (P.map mendI)).toArray.size ≤ _; rw [List.size_toArray]; omega)
      rw [show (⟨(textOf (P.map mendI)).toArray⟩ : ByteArray).data.toList = textOf (P.map mendI) from rfl, asm_text _ hok2 hwf2] at h
      refine h.mono ?_
      rintro e w' ⟨v, h1, h2, h3, _⟩
      exact ⟨v, h1, h2, h3⟩
end Go.Proofs.Ymbrbw

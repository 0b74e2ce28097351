import Derived.Test.YmbrbwProgs
import Derived.Test.YmbrbwFormatInt32
namespace Go.Proofs.Ymbrbw
open Go.ChangeShapes Go.WideShapes Go.ChangeAt Go.RowKit
set_option linter.unusedVariables false
set_option linter.unusedSimpArgs false

theorem fmt_same (n : Int) : fmt32 n = fmtI n := rfl

set_option maxRecDepth 100000 in
set_option maxHeartbeats 8000000 in
theorem format_any (P : List (Int × Int)) (a : Option Addr) (cap : Nat) (w : World) (hn : P.length ≤ 1024) (hok : Hid (∀ q ∈ P, okI q)) (hP : Hid (ProgIn w a P)) :
    Calls Ybwm.prog 25 #[.slice a P.length cap] w fun e w' => (((∀ q ∈ P, wfI q.1 q.2 = true) ∧ e = .returned (.tuple #[.string ⟨(textOf P).toArray⟩, .bool true])) ∨ ((∃ q ∈ P, wfI q.1 q.2 = false) ∧ e = .returned (.tuple #[.string ⟨#[]⟩, .bool false]))) ∧ Below w.heap.size w w' := by
  obtain ⟨n, hln⟩ : ∃ n, n = P.length := ⟨_, rfl⟩
  have HN : Hid (n = P.length) := hln
  rw [← hln]
  rw [← hln] at hn
  clear hln
  go_enter Ybwm.func25, Ybwm.ntmps25
  go_wp2
  go_loopw [4, 11] (fun x i wr => ∃ (k : Nat) (t : ByteArray), k ≤ n ∧ i = .int .i64 k ∧ x = .string t ∧ t.size ≤ 17 * k ∧ Hid (t.data.toList = textOf (P.take k)) ∧ Hid (∀ j, j < k → (h : j < P.length) → wfI P[j].1 P[j].2 = true) ∧ Below w.heap.size w wr) (fun _ i _ => n - (intOf i).toNat)
  case atStart => exact ⟨0, _, by omega, rfl, rfl, by decide, rfl, fun j hj => by omega, Below.refl _ _⟩
  case round =>
    obtain ⟨k, t, hk, rfl, rfl, hts, HT, HW, hbel⟩ := hrel
    have hsz := hbel.size
    by_cases hlt : k < n
    · have hkP : k < P.length := by have := HN.out; omega
      rcases hP.out with h | ⟨b, off, rfl, hb, hc⟩
      · omega
      · obtain ⟨c0, c1⟩ := hc k hkP
        obtain ⟨⟨o0, o1⟩, ⟨g0, g1⟩⟩ := hok.out P[k] (List.getElem_mem hkP)
        obtain ⟨op, hop⟩ : ∃ op, op = P[k].1 := ⟨_, rfl⟩
        obtain ⟨arg, harg⟩ : ∃ arg, arg = P[k].2 := ⟨_, rfl⟩
        have hline : lineOf P[k] = lineOf (op, arg) := by rw [hop, harg]
        rw [← hop] at c0 o0 o1
        rw [← harg] at c1 g0 g1
        have k0 : wr.cell? ⟨b, off + k * 2, none⟩ = some (.int .u8 op) := (hbel.cell (p := ⟨b, off + k * 2, none⟩) hb).trans c0
        have k1 : wr.cell? ⟨b, off + k * 2 + 1, none⟩ = some (.int .i32 arg) := (hbel.cell (p := ⟨b, off + k * 2 + 1, none⟩) hb).trans c1
        have HL : Hid (textOf (P.take (k + 1)) = textOf (P.take k) ++ lineOf (op, arg)) := by show _ = _; rw [textOf_take P k hkP, hline]
        have hbn : ¬ b = wr.heap.size := by omega
        have hnsz := opName_size op
        cases hw : wfI op arg with
        | false =>
          have HNo : Hid (∃ q ∈ P, wfI q.1 q.2 = false) := ⟨P[k], List.getElem_mem hkP, by rw [← hop, ← harg]; exact hw⟩
          have hCW := fun w' => wellFormed_any op arg o0 w'
          rw [hw] at hCW
          clear c0 c1 hc hline hop harg HT HW HL hw
          go_wp2_with (go_at_call 33; refine (hCW _).mono ?_; rintro e w' ⟨rfl, rfl⟩)
          go_ret2
          exact ⟨.inr ⟨HNo.out, rfl⟩, by repeat (first | exact hbel | (refine Below.alloc ?_ (by first | omega | (simp; done) | (simp; omega)) _))⟩
        | true =>
          have HW' : Hid (∀ j, j < k + 1 → (h : j < P.length) → wfI P[j].1 P[j].2 = true) := by
            intro j hj h
            by_cases hjk : j = k
            · subst hjk
              rw [← hop, ← harg]
              exact hw
            · exact HW.out j (by omega) h
          have hCW := fun w' => wellFormed_any op arg o0 w'
          rw [hw] at hCW
          have hCO := fun w' => opName_any op o0 w'
          by_cases h07 : op = 0 ∨ op = 7
          · have hCF := fun w' => formatInt32_any arg g0 g1 w'
            rw [fmt_same] at hCF
            obtain ⟨F, hF⟩ : ∃ F : ByteArray, F = ⟨(fmtI arg).toArray⟩ := ⟨_, rfl⟩
            rw [← hF] at hCF
            have hFz : F.size ≤ 11 := by
              have := fmtI_len arg g0 g1
              rw [hF]
              show (fmtI arg).toArray.size ≤ 11
              rw [List.size_toArray]
              exact this
            have HT' : Hid ((t ++ opName op ++ (⟨#[32]⟩ ++ F) ++ ⟨#[10]⟩ : ByteArray).data.toList = textOf (P.take (k + 1))) := by
              show _ = _
              rw [HL.out]
              unfold lineOf
              rw [if_pos h07, hF]
              simp only [ByteArray.data_append, Array.toList_append, HT.out, List.append_assoc]
              rfl
            clear c0 c1 hc hline hop harg HT HW HL hw hF
            rcases h07 with h | h
            · subst h
              go_wp2_with fail
              refine (hCW _).mono ?_
              rintro e w' ⟨rfl, rfl⟩
              go_wp2_with fail
              refine (hCO _).mono ?_
              rintro e w2 ⟨rfl, rfl⟩
              go_wp2_with fail
              refine (hCF _).mono ?_
              rintro e w3 ⟨rfl, hb3⟩
              have hz3 := hb3.size
              have hbel3 : Below w.heap.size w w3 := by
                refine Below.trans ?_ (hb3.mono (by first | omega | (simp; omega)))
                repeat (first | exact hbel | (refine Below.alloc ?_ (by first | omega | (simp; done) | (simp; omega)) _))
              clear hb3
              go_wp2_with fail
              go_roundw
              case rel => exact ⟨k + 1, _, by omega, by go_num, rfl, by simp only [ByteArray.size_append]; have e1 : (⟨#[32]⟩ : ByteArray).size = 1 := rfl; have e2 : (⟨#[10]⟩ : ByteArray).size = 1 := rfl; omega, HT', HW', hbel3⟩
              case measure => simp [intOf]; omega
            · subst h
              go_wp2_with fail
              refine (hCW _).mono ?_
              rintro e w' ⟨rfl, rfl⟩
              go_wp2_with fail
              refine (hCO _).mono ?_
              rintro e w2 ⟨rfl, rfl⟩
              go_wp2_with fail
              refine (hCF _).mono ?_
              rintro e w3 ⟨rfl, hb3⟩
              have hz3 := hb3.size
              have hbel3 : Below w.heap.size w w3 := by
                refine Below.trans ?_ (hb3.mono (by first | omega | (simp; omega)))
                repeat (first | exact hbel | (refine Below.alloc ?_ (by first | omega | (simp; done) | (simp; omega)) _))
              clear hb3
              go_wp2_with fail
              go_roundw
              case rel => exact ⟨k + 1, _, by omega, by go_num, rfl, by simp only [ByteArray.size_append]; have e1 : (⟨#[32]⟩ : ByteArray).size = 1 := rfl; have e2 : (⟨#[10]⟩ : ByteArray).size = 1 := rfl; omega, HT', HW', hbel3⟩
              case measure => simp [intOf]; omega
          · have q0 : (op == 0) = false := int_ne (fun h => h07 (.inl h))
            have q7 : (op == 7) = false := int_ne (fun h => h07 (.inr h))
            have HT' : Hid ((t ++ opName op ++ ⟨#[10]⟩ : ByteArray).data.toList = textOf (P.take (k + 1))) := by
              have hw' := of_decide_eq_true hw
              show _ = _
              rw [HL.out]
              unfold lineOf
              rw [if_neg h07, if_pos (by omega)]
              simp only [ByteArray.data_append, Array.toList_append, HT.out, List.append_assoc]
            clear c0 c1 hc hline hop harg HT HW HL hw h07
            go_wp2_with fail
            refine (hCW _).mono ?_
            rintro e w' ⟨rfl, rfl⟩
            go_wp2_with fail
            refine (hCO _).mono ?_
            rintro e w2 ⟨rfl, rfl⟩
            go_wp2_with fail
            go_roundw
            case rel => exact ⟨k + 1, _, by omega, by go_num, rfl, by simp only [ByteArray.size_append]; have e2 : (⟨#[10]⟩ : ByteArray).size = 1 := rfl; omega, HT', HW', by repeat (first | exact hbel | (refine Below.alloc ?_ (by first | omega | (simp; done) | (simp; omega)) _))⟩
            case measure => simp [intOf]; omega
    · obtain rfl : k = n := by omega
      have e : Hid (t = ⟨(textOf P).toArray⟩) := str_ext (by rw [HT.out, HN.out, List.take_length])
      have HA : Hid (∀ q ∈ P, wfI q.1 q.2 = true) := by
        intro q hq
        obtain ⟨j, hj, rfl⟩ := List.getElem_of_mem hq
        exact HW.out j (by have := HN.out; omega) hj
      go_wp2
      go_ret2
      exact ⟨.inl ⟨HA.out, by rw [← e.out]; rfl⟩, hbel⟩
end Go.Proofs.Ymbrbw

import Derived.Test.YmbrbwFormatW
import Derived.Test.YmbrbwCLine
import Derived.Test.YmbrbwCMend
namespace Go.Proofs.Ymbrbw
open Go.ChangeShapes Go.WideShapes Go.ChangeAt Go.RowKit
set_option linter.unusedVariables false
set_option linter.unusedSimpArgs false

set_option maxRecDepth 100000 in
set_option maxHeartbeats 16000000 in
theorem CExact_raw (Q : List (Int × Int)) (a' : Option Addr) (n cap : Nat) (w : World) (hn : n ≤ 1024) (HN : Hid (n = Q.length)) (HOK : Hid (∀ q ∈ Q, okI q)) (HPW : Hid (ProgIn w a' Q))
    (hCF : ∀ W, Hid (ProgIn W a' Q) → Calls Ybwm.prog 25 #[.slice a' n cap] W fun e w' => (((∀ q ∈ Q, wfI q.1 q.2 = true) ∧ e = .returned (.tuple #[.string ⟨(textOf Q).toArray⟩, .bool true])) ∨ ((∃ q ∈ Q, wfI q.1 q.2 = false) ∧ e = .returned (.tuple #[.string ⟨#[]⟩, .bool false]))) ∧ Below W.heap.size W w') :
    Calls Ybwm.prog 9 #[.slice a' n cap, .bool false] w fun e w' => e = .returned (.bool true) ∧ Below w.heap.size w w' := by
  have hl : ¬ ((1024 : Int) < (n : Int)) := by omega
  go_enter Ybwm.func9, Ybwm.ntmps9
  go_wp2_with fail
  refine (hCF _ HPW).mono ?_
  rintro e w2 ⟨hres, hb2⟩
  have hbel2 : Below w.heap.size w w2 := hb2
  have HP2 : Hid (ProgIn w2 a' Q) := HPW.out.below hb2 (Nat.le_refl _)
  clear hb2 HPW hCF
  rcases hres with ⟨hall, rfl⟩ | ⟨hno, rfl⟩
  · have HALL : Hid (∀ q ∈ Q, wfI q.1 q.2 = true) := hall
    obtain ⟨G, hG⟩ : ∃ G : ByteArray, G = ⟨(textOf Q).toArray⟩ := ⟨_, rfl⟩
    rw [← hG]
    have HG : Hid (G.data.toList = textOf Q) := by show _ = _; rw [hG]
    clear hG hall
    go_wp2_with fail
    go_loopw [8, 26] (fun x i wr => ∃ (k : Nat) (t : ByteArray), k ≤ n ∧ i = .int .i64 k ∧ x = .string t ∧ t.size ≤ 17 * k ∧ Hid (t.data.toList = textOf (Q.take k)) ∧ Below w.heap.size w wr ∧ Hid (ProgIn wr a' Q)) (fun _ i _ => n - (intOf i).toNat)
    case atStart => exact ⟨0, _, by omega, rfl, rfl, by decide, rfl, hbel2, HP2⟩
    case round =>
      obtain ⟨k, t, hk, rfl, rfl, hts, HT, hbel, HPr⟩ := hrel
      clear HP2 hbel2
      have hsz := hbel.size
      by_cases hlt : k < n
      · have hkP : k < Q.length := by have := HN.out; omega
        rcases HPr.out with h | ⟨b, off, rfl, hb, hc⟩
        · omega
        · obtain ⟨c0, c1⟩ := hc k hkP
          have hokk := HOK.out Q[k] (List.getElem_mem hkP)
          obtain ⟨op, hop⟩ : ∃ op, op = Q[k].1 := ⟨_, rfl⟩
          obtain ⟨arg, harg⟩ : ∃ arg, arg = Q[k].2 := ⟨_, rfl⟩
          have hq : Q[k] = (op, arg) := by rw [hop, harg]
          rw [← hop] at c0
          rw [← harg] at c1
          rw [hq] at hokk
          have hwk := HALL.out Q[k] (List.getElem_mem hkP)
          rw [hq] at hwk
          have hCL := fun w' => cline_any op arg hokk w'
          obtain ⟨F, hF⟩ : ∃ F : ByteArray, F = ⟨(lineOf (op, arg)).toArray⟩ := ⟨_, rfl⟩
          rw [← hF] at hCL
          have hFz : F.size ≤ 17 := by rw [hF]; show (lineOf (op, arg)).toArray.size ≤ 17; rw [List.size_toArray]; exact lineOf_len _ hokk
          have hFn : (F.toList == []) = false := by
            refine eqb_lit ?_
            intro e
            rw [hF] at e
            have h2 : lineOf (op, arg) = [] := by have := congrArg (fun s : ByteArray => s.data.toList) e; simpa using this
            rw [(lineOf_ne (op, arg)).1 h2] at hwk
            cases hwk
          have HT' : Hid ((t ++ F : ByteArray).data.toList = textOf (Q.take (k + 1))) := by
            show _ = _
            rw [textOf_take Q k hkP, hq, ByteArray.data_append, Array.toList_append, HT.out, hF]
          have hbn : ¬ b = wr.heap.size := by omega
          have HPA : Hid (ProgIn (wr.alloc (.cells #[.int .u8 op, .int .i32 arg] 38)) (some ⟨b, off, none⟩) Q) := HPr.out.below ((Below.refl _ _).alloc (Nat.le_refl _) _) (Nat.le_refl _)
          clear hc hop harg hq hokk hwk hF HT HPr
          go_wp2_with fail
          refine (hCL _).mono ?_
          rintro e w3 ⟨rfl, hb3⟩
          have hbel3 : Below w.heap.size w w3 := (hbel.alloc hsz _).trans (hb3.mono (by simp; omega))
          have HP3 : Hid (ProgIn w3 (some ⟨b, off, none⟩) Q) := HPA.out.below hb3 (Nat.le_refl _)
          clear hb3 HPA
          go_wp2_with fail
          go_roundw
          case rel => exact ⟨k + 1, _, by omega, by go_num, rfl, by rw [ByteArray.size_append]; omega, HT', hbel3, HP3⟩
          case measure => simp [intOf]; omega
      · obtain rfl : k = n := by omega
        have e : Hid ((G.toList == t.toList) = true) := eqb_pos (str_ext (by rw [HG.out, HT.out, HN.out, List.take_length]))
        have he := e.out
        clear HG HT
        go_wp2_with fail
        go_ret
        exact ⟨rfl, hbel⟩
  · have HNO : Hid (∃ q ∈ Q, wfI q.1 q.2 = false) := hno
    clear hno
    go_wp2_with fail
    go_loopw [8, 26] (fun x i wr => ∃ (k : Nat) (t : ByteArray), k ≤ n ∧ i = .int .i64 k ∧ x = .string t ∧ t.size ≤ 17 * k ∧ Hid (∀ j, j < k → (h : j < Q.length) → wfI Q[j].1 Q[j].2 = true) ∧ Below w.heap.size w wr ∧ Hid (ProgIn wr a' Q)) (fun _ i _ => n - (intOf i).toNat)
    case atStart => exact ⟨0, _, by omega, rfl, rfl, by decide, fun j hj => by omega, hbel2, HP2⟩
    case round =>
      obtain ⟨k, t, hk, rfl, rfl, hts, HW, hbel, HPr⟩ := hrel
      clear HP2 hbel2
      have hsz := hbel.size
      by_cases hlt : k < n
      · have hkP : k < Q.length := by have := HN.out; omega
        rcases HPr.out with h | ⟨b, off, rfl, hb, hc⟩
        · omega
        · obtain ⟨c0, c1⟩ := hc k hkP
          have hokk := HOK.out Q[k] (List.getElem_mem hkP)
          obtain ⟨op, hop⟩ : ∃ op, op = Q[k].1 := ⟨_, rfl⟩
          obtain ⟨arg, harg⟩ : ∃ arg, arg = Q[k].2 := ⟨_, rfl⟩
          have hq : Q[k] = (op, arg) := by rw [hop, harg]
          rw [← hop] at c0
          rw [← harg] at c1
          rw [hq] at hokk
          have hCL := fun w' => cline_any op arg hokk w'
          obtain ⟨F, hF⟩ : ∃ F : ByteArray, F = ⟨(lineOf (op, arg)).toArray⟩ := ⟨_, rfl⟩
          rw [← hF] at hCL
          have hFz : F.size ≤ 17 := by rw [hF]; show (lineOf (op, arg)).toArray.size ≤ 17; rw [List.size_toArray]; exact lineOf_len _ hokk
          have hbn : ¬ b = wr.heap.size := by omega
          have HPA : Hid (ProgIn (wr.alloc (.cells #[.int .u8 op, .int .i32 arg] 38)) (some ⟨b, off, none⟩) Q) := HPr.out.below ((Below.refl _ _).alloc (Nat.le_refl _) _) (Nat.le_refl _)
          cases hwk : wfI op arg with
          | true =>
            have hFn : (F.toList == []) = false := by
              refine eqb_lit ?_
              intro e
              rw [hF] at e
              have h2 : lineOf (op, arg) = [] := by have := congrArg (fun s : ByteArray => s.data.toList) e; simpa using this
              rw [(lineOf_ne (op, arg)).1 h2] at hwk
              cases hwk
            have HW' : Hid (∀ j, j < k + 1 → (h : j < Q.length) → wfI Q[j].1 Q[j].2 = true) := by
              intro j hj h
              by_cases hjk : j = k
              · subst hjk; rw [hq]; exact hwk
              · exact HW.out j (by omega) h
            clear hc hop harg hq hokk hwk hF HW HPr
            go_wp2_with fail
            refine (hCL _).mono ?_
            rintro e w3 ⟨rfl, hb3⟩
            have hbel3 : Below w.heap.size w w3 := (hbel.alloc hsz _).trans (hb3.mono (by simp; omega))
            have HP3 : Hid (ProgIn w3 (some ⟨b, off, none⟩) Q) := HPA.out.below hb3 (Nat.le_refl _)
            clear hb3 HPA
            go_wp2_with fail
            go_roundw
            case rel => exact ⟨k + 1, _, by omega, by go_num, rfl, by rw [ByteArray.size_append]; omega, HW', hbel3, HP3⟩
            case measure => simp [intOf]; omega
          | false =>
            have hFn : (F.toList == []) = true := eqb_lit_pos (by rw [hF, (lineOf_ne (op, arg)).2 hwk])
            clear hc hop harg hq hokk hwk hF HW HPr
            go_wp2_with fail
            refine (hCL _).mono ?_
            rintro e w3 ⟨rfl, hb3⟩
            have hbel3 : Below w.heap.size w w3 := (hbel.alloc hsz _).trans (hb3.mono (by simp; omega))
            clear hb3 HPA
            go_wp2_with fail
            go_ret
            exact ⟨rfl, hbel3⟩
      · exfalso
        obtain ⟨q, hq, hqf⟩ := HNO.out
        obtain ⟨j, hj, rfl⟩ := List.getElem_of_mem hq
        rw [HW.out j (by have := HN.out; omega) hj] at hqf
        cases hqf

set_option maxRecDepth 100000 in
set_option maxHeartbeats 16000000 in
theorem CExact_mend (Q : List (Int × Int)) (a0 : Option Addr) (n cap0 : Nat) (w : World) (hn : n ≤ 1024) (HN : Hid (n = Q.length)) (HOK : Hid (∀ q ∈ Q, okI q))
    (hCM : Calls Ybwm.prog 24 #[.slice a0 n cap0] w fun e w' => ∃ v, e = .returned v ∧ OwnP w.heap.size w' v Q ∧ Below w.heap.size w w')
    (hCF0 : ∀ a' cap W, Hid (ProgIn W a' Q) → Calls Ybwm.prog 25 #[.slice a' n cap] W fun e w' => (((∀ q ∈ Q, wfI q.1 q.2 = true) ∧ e = .returned (.tuple #[.string ⟨(textOf Q).toArray⟩, .bool true])) ∨ ((∃ q ∈ Q, wfI q.1 q.2 = false) ∧ e = .returned (.tuple #[.string ⟨#[]⟩, .bool false]))) ∧ Below W.heap.size W w') :
    Calls Ybwm.prog 9 #[.slice a0 n cap0, .bool true] w fun e w' => e = .returned (.bool true) ∧ Below w.heap.size w w' := by
  have hl : ¬ ((1024 : Int) < (n : Int)) := by omega
  go_enter Ybwm.func9, Ybwm.ntmps9
  go_wp2_with fail
  refine hCM.mono ?_
  rintro e w1 ⟨v, rfl, hown, hb1⟩
  obtain ⟨a', cap, rfl, hpr⟩ := hown.prog
  rw [← HN.out]
  have HPW : Hid (ProgIn w1 a' Q) := hpr
  have hCF := fun W => hCF0 a' cap W
  clear hown hpr hCF0 hCM
  go_wp2_with fail
  refine (hCF _ HPW).mono ?_
  rintro e w2 ⟨hres, hb2⟩
  have hbel2 : Below w.heap.size w w2 := hb1.trans (hb2.mono hb1.size)
  have HP2 : Hid (ProgIn w2 a' Q) := HPW.out.below hb2 (Nat.le_refl _)
  clear hb2 HPW hCF hb1
  rcases hres with ⟨hall, rfl⟩ | ⟨hno, rfl⟩
  · have HALL : Hid (∀ q ∈ Q, wfI q.1 q.2 = true) := hall
    obtain ⟨G, hG⟩ : ∃ G : ByteArray, G = ⟨(textOf Q).toArray⟩ := ⟨_, rfl⟩
    rw [← hG]
    have HG : Hid (G.data.toList = textOf Q) := by show _ = _; rw [hG]
    clear hG hall
    go_wp2_with fail
    go_loopw [8, 26] (fun x i wr => ∃ (k : Nat) (t : ByteArray), k ≤ n ∧ i = .int .i64 k ∧ x = .string t ∧ t.size ≤ 17 * k ∧ Hid (t.data.toList = textOf (Q.take k)) ∧ Below w.heap.size w wr ∧ Hid (ProgIn wr a' Q)) (fun _ i _ => n - (intOf i).toNat)
    case atStart => exact ⟨0, _, by omega, rfl, rfl, by decide, rfl, hbel2, HP2⟩
    case round =>
      obtain ⟨k, t, hk, rfl, rfl, hts, HT, hbel, HPr⟩ := hrel
      clear HP2 hbel2
      have hsz := hbel.size
      by_cases hlt : k < n
      · have hkP : k < Q.length := by have := HN.out; omega
        rcases HPr.out with h | ⟨b, off, rfl, hb, hc⟩
        · omega
        · obtain ⟨c0, c1⟩ := hc k hkP
          have hokk := HOK.out Q[k] (List.getElem_mem hkP)
          obtain ⟨op, hop⟩ : ∃ op, op = Q[k].1 := ⟨_, rfl⟩
          obtain ⟨arg, harg⟩ : ∃ arg, arg = Q[k].2 := ⟨_, rfl⟩
          have hq : Q[k] = (op, arg) := by rw [hop, harg]
          rw [← hop] at c0
          rw [← harg] at c1
          rw [hq] at hokk
          have hwk := HALL.out Q[k] (List.getElem_mem hkP)
          rw [hq] at hwk
          have hCL := fun w' => cline_any op arg hokk w'
          obtain ⟨F, hF⟩ : ∃ F : ByteArray, F = ⟨(lineOf (op, arg)).toArray⟩ := ⟨_, rfl⟩
          rw [← hF] at hCL
          have hFz : F.size ≤ 17 := by rw [hF]; show (lineOf (op, arg)).toArray.size ≤ 17; rw [List.size_toArray]; exact lineOf_len _ hokk
          have hFn : (F.toList == []) = false := by
            refine eqb_lit ?_
            intro e
            rw [hF] at e
            have h2 : lineOf (op, arg) = [] := by have := congrArg (fun s : ByteArray => s.data.toList) e; simpa using this
            rw [(lineOf_ne (op, arg)).1 h2] at hwk
            cases hwk
          have HT' : Hid ((t ++ F : ByteArray).data.toList = textOf (Q.take (k + 1))) := by
            show _ = _
            rw [textOf_take Q k hkP, hq, ByteArray.data_append, Array.toList_append, HT.out, hF]
          have hbn : ¬ b = wr.heap.size := by omega
          have HPA : Hid (ProgIn (wr.alloc (.cells #[.int .u8 op, .int .i32 arg] 38)) (some ⟨b, off, none⟩) Q) := HPr.out.below ((Below.refl _ _).alloc (Nat.le_refl _) _) (Nat.le_refl _)
          clear hc hop harg hq hokk hwk hF HT HPr
          go_wp2_with fail
          refine (hCL _).mono ?_
          rintro e w3 ⟨rfl, hb3⟩
          have hbel3 : Below w.heap.size w w3 := (hbel.alloc hsz _).trans (hb3.mono (by simp; omega))
          have HP3 : Hid (ProgIn w3 (some ⟨b, off, none⟩) Q) := HPA.out.below hb3 (Nat.le_refl _)
          clear hb3 HPA
          go_wp2_with fail
          go_roundw
          case rel => exact ⟨k + 1, _, by omega, by go_num, rfl, by rw [ByteArray.size_append]; omega, HT', hbel3, HP3⟩
          case measure => simp [intOf]; omega
      · obtain rfl : k = n := by omega
        have e : Hid ((G.toList == t.toList) = true) := eqb_pos (str_ext (by rw [HG.out, HT.out, HN.out, List.take_length]))
        have he := e.out
        clear HG HT
        go_wp2_with fail
        go_ret
        exact ⟨rfl, hbel⟩
  · have HNO : Hid (∃ q ∈ Q, wfI q.1 q.2 = false) := hno
    clear hno
    go_wp2_with fail
    go_loopw [8, 26] (fun x i wr => ∃ (k : Nat) (t : ByteArray), k ≤ n ∧ i = .int .i64 k ∧ x = .string t ∧ t.size ≤ 17 * k ∧ Hid (∀ j, j < k → (h : j < Q.length) → wfI Q[j].1 Q[j].2 = true) ∧ Below w.heap.size w wr ∧ Hid (ProgIn wr a' Q)) (fun _ i _ => n - (intOf i).toNat)
    case atStart => exact ⟨0, _, by omega, rfl, rfl, by decide, fun j hj => by omega, hbel2, HP2⟩
    case round =>
      obtain ⟨k, t, hk, rfl, rfl, hts, HW, hbel, HPr⟩ := hrel
      clear HP2 hbel2
      have hsz := hbel.size
      by_cases hlt : k < n
      · have hkP : k < Q.length := by have := HN.out; omega
        rcases HPr.out with h | ⟨b, off, rfl, hb, hc⟩
        · omega
        · obtain ⟨c0, c1⟩ := hc k hkP
          have hokk := HOK.out Q[k] (List.getElem_mem hkP)
          obtain ⟨op, hop⟩ : ∃ op, op = Q[k].1 := ⟨_, rfl⟩
          obtain ⟨arg, harg⟩ : ∃ arg, arg = Q[k].2 := ⟨_, rfl⟩
          have hq : Q[k] = (op, arg) := by rw [hop, harg]
          rw [← hop] at c0
          rw [← harg] at c1
          rw [hq] at hokk
          have hCL := fun w' => cline_any op arg hokk w'
          obtain ⟨F, hF⟩ : ∃ F : ByteArray, F = ⟨(lineOf (op, arg)).toArray⟩ := ⟨_, rfl⟩
          rw [← hF] at hCL
          have hFz : F.size ≤ 17 := by rw [hF]; show (lineOf (op, arg)).toArray.size ≤ 17; rw [List.size_toArray]; exact lineOf_len _ hokk
          have hbn : ¬ b = wr.heap.size := by omega
          have HPA : Hid (ProgIn (wr.alloc (.cells #[.int .u8 op, .int .i32 arg] 38)) (some ⟨b, off, none⟩) Q) := HPr.out.below ((Below.refl _ _).alloc (Nat.le_refl _) _) (Nat.le_refl _)
          cases hwk : wfI op arg with
          | true =>
            have hFn : (F.toList == []) = false := by
              refine eqb_lit ?_
              intro e
              rw [hF] at e
              have h2 : lineOf (op, arg) = [] := by have := congrArg (fun s : ByteArray => s.data.toList) e; simpa using this
              rw [(lineOf_ne (op, arg)).1 h2] at hwk
              cases hwk
            have HW' : Hid (∀ j, j < k + 1 → (h : j < Q.length) → wfI Q[j].1 Q[j].2 = true) := by
              intro j hj h
              by_cases hjk : j = k
              · subst hjk; rw [hq]; exact hwk
              · exact HW.out j (by omega) h
            clear hc hop harg hq hokk hwk hF HW HPr
            go_wp2_with fail
            refine (hCL _).mono ?_
            rintro e w3 ⟨rfl, hb3⟩
            have hbel3 : Below w.heap.size w w3 := (hbel.alloc hsz _).trans (hb3.mono (by simp; omega))
            have HP3 : Hid (ProgIn w3 (some ⟨b, off, none⟩) Q) := HPA.out.below hb3 (Nat.le_refl _)
            clear hb3 HPA
            go_wp2_with fail
            go_roundw
            case rel => exact ⟨k + 1, _, by omega, by go_num, rfl, by rw [ByteArray.size_append]; omega, HW', hbel3, HP3⟩
            case measure => simp [intOf]; omega
          | false =>
            have hFn : (F.toList == []) = true := eqb_lit_pos (by rw [hF, (lineOf_ne (op, arg)).2 hwk])
            clear hc hop harg hq hokk hwk hF HW HPr
            go_wp2_with fail
            refine (hCL _).mono ?_
            rintro e w3 ⟨rfl, hb3⟩
            have hbel3 : Below w.heap.size w w3 := (hbel.alloc hsz _).trans (hb3.mono (by simp; omega))
            clear hb3 HPA
            go_wp2_with fail
            go_ret
            exact ⟨rfl, hbel3⟩
      · exfalso
        obtain ⟨q, hq, hqf⟩ := HNO.out
        obtain ⟨j, hj, rfl⟩ := List.getElem_of_mem hq
        rw [HW.out j (by have := HN.out; omega) hj] at hqf
        cases hqf

set_option maxHeartbeats 4000000 in
theorem CExact_walk (a0 : Option Addr) (n cap : Nat) (mend : Bool) (w : World) (w0 : RecsAt w a0 n) :
    Calls Ybwm.prog 9 #[.slice a0 n cap, .bool mend] w fun e w' => e = .returned (.bool true) ∧ Below w.heap.size w w' := by
  obtain ⟨P, hPl, hok, hpr⟩ := recs_prog w0
  have hm := w0.1
  unfold maxLen at hm
  by_cases hl : (1024 : Int) < (n : Int)
  · clear hpr w0 hok hPl
    go_enter Ybwm.func9, Ybwm.ntmps9
    go_wp2
    go_ret
    exact ⟨rfl, Below.refl _ _⟩
  · cases mend with
    | false =>
      refine CExact_raw P a0 n cap w (by omega) hPl.symm hok hpr (fun W hW => ?_)
      have h := format_any P a0 cap W (by omega) hok hW
      rw [hPl] at h
      exact h
    | true =>
      have hl2 : (P.map mendI).length = n := by rw [List.length_map, hPl]
      have hok2 : ∀ q ∈ P.map mendI, okI q := by
        intro q hq
        obtain ⟨p, hp, rfl⟩ := List.mem_map.1 hq
        exact (mendI_ok p (hok p hp)).1
      have hCM := cmend_any P a0 cap w (by omega) hok hpr
      rw [hPl] at hCM
      refine CExact_mend (P.map mendI) a0 n cap w (by omega) hl2.symm hok2 hCM (fun a' cap' W hW => ?_)
      have h := format_any (P.map mendI) a' cap' W (by omega) hok2 hW
      rw [hl2] at h
      exact h
end Go.Proofs.Ymbrbw

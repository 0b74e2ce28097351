import Derived.Test.YmbrbyJPlain
import Derived.BigQuiet
import Derived.Lib.SliceRun
namespace Go.Proofs.Ymbrby
open Go.ChangeShapes Go.WideShapes Go.ChangeAt Go.RowKit
set_option linter.unusedVariables false
set_option linter.unusedSimpArgs false

/-- What the backward loop knows at i = k - 2. -/
def AtK (s : ByteArray) (k : Nat) (E : Int) (m : Nat) (suf : List (List UInt8)) : Prop :=
  (k = 0 ∧ m = 0 ∧ linesOf s.data.toList = suf) ∨ (1 ≤ k ∧ ∃ e : Nat, E = e ∧ Back s (k - 1) e m suf)
theorem Hid.mk' {p : Prop} (h : p) : Hid p := h
theorem rev_at (P R : List (Int × Int)) (h : R = P.reverse) (k r : Nat) (hk : k < P.length) (hr : r = P.length - 1 - k) (hR : r < R.length) : R[r] = P[k] := by
  subst h
  rw [List.getElem_reverse]
  congr 1
  omega

set_option maxRecDepth 100000 in
set_option maxHeartbeats 32000000 in
theorem JText_walk (s : ByteArray) (w : World) (hm : s.size ≤ maxLen) :
    Calls Ybym.prog 5 #[.string s] w fun e w' => e = .returned (.bool true) ∧ Below w.heap.size w w' := by
  unfold maxLen at hm
  by_cases hl : (4096 : Int) < (s.size : Int)
  · go_enter Ybym.func5, Ybym.ntmps5
    go_wp2
    go_ret
    exact ⟨rfl, Below.refl _ _⟩
  have hJL := fun w' => jlines_any s w' (by omega)
  have hCA := fun w' => assemble_any s w' (by omega)
  obtain ⟨A, hA⟩ : ∃ A, A = asmT s.data.toList := ⟨_, rfl⟩
  rw [← hA] at hCA
  have HA : Hid (A = asmT s.data.toList) := hA
  obtain ⟨m0, hm0⟩ : ∃ m0, m0 = (linesOf s.data.toList).length := ⟨_, rfl⟩
  rw [← hm0] at hJL
  have HB0 : Hid (Back s s.size s.size m0 []) := by have := Back.start s; rw [← hm0] at this; exact this
  have hm0b := HB0.out.few
  clear hm0 hA
  go_enter Ybym.func5, Ybym.ntmps5
  go_wp2_with fail
  refine (hJL _).mono ?_
  rintro e w ⟨rfl, rfl⟩
  clear hJL
  go_wp2_with fail
  go_loopw [3, 4, 5, 6, 7] (fun v y x z i wr => ∃ (k m : Nat) (E bd : Int) (suf : List (List UInt8)) (rv : List (Int × Int)), i = .int .i64 ((k : Int) - 2) ∧ z = .int .i64 E ∧ x = .int .i64 m ∧ y = .int .i64 bd ∧ k ≤ s.size + 1 ∧ m ≤ s.size + 1 ∧ rv.length ≤ s.size + 1 ∧ Hid (AtK s k E m suf) ∧ Hid (bd = badAt suf ((m : Int) + 1)) ∧ Hid (rv = (insOf suf).reverse) ∧ OwnP w.heap.size wr v rv ∧ Below w.heap.size w wr) (fun _ _ _ _ i _ => (intOf i + 2).toNat)
  case atStart => exact ⟨s.size + 1, m0, s.size, 0, [], [], by go_num, rfl, rfl, rfl, by omega, by omega, by simp, .inr ⟨by omega, s.size, rfl, HB0⟩, rfl, rfl, OwnP.nil _ _, Below.refl _ _⟩
  case round =>
    obtain ⟨k, m, E, bd, suf, rv, rfl, rfl, rfl, rfl, hk, hmb, hrl, HN, HBD, HRV, hown, hbel⟩ := hrel
    clear HB0
    have hsz := hbel.size
    match k, hk, HN with
    | 0, hk, HN =>
      rcases HN.out with ⟨_, rfl, hL⟩ | ⟨h, _⟩
      · have hA := HA.out
        rw [asmT_is, hL, show badAt suf 1 = bd from HBD.out.symm] at hA
        clear HN hL HA
        rw [show ((0 : Nat) : Int) - 2 = -2 from rfl]
        by_cases h0 : bd = 0
        · rw [if_pos h0] at hA
          rw [hA] at hCA
          subst h0
          obtain ⟨P, hP⟩ : ∃ P, P = insOf suf := ⟨_, rfl⟩
          rw [← hP] at hCA
          have HRV' : Hid (rv = P.reverse) := by rw [hP]; exact HRV.out
          clear HBD HRV hA hP
          go_wp2_with fail
          refine (hCA _).mono ?_
          rintro e w2 ⟨v2, rfl, hown2, hb2, _⟩
          obtain ⟨a1, c1, rfl, hp1⟩ := (hown.below hb2).prog
          obtain ⟨a2, c2, rfl, hp2⟩ := hown2.prog
          have hbel2 := hbel.trans (hb2.mono hsz)
          obtain ⟨n, hn⟩ : ∃ n, n = P.length := ⟨_, rfl⟩
          have hn2 : rv.length = n := by rw [HRV'.out, List.length_reverse, hn]
          rw [hn2] at hrl
          rw [hn2]
          simp only [← hn]
          have HN1 : Hid (n = P.length) := hn
          have HN2 : Hid (rv.length = n) := hn2
          have HP1 : Hid (ProgIn w2 a1 rv) := hp1
          have HP2 : Hid (ProgIn w2 a2 P) := hp2
          clear hn hn2 hp1 hp2 hown hown2 hb2 hbel hCA
          go_wp2_with fail
          go_loopw [12] (fun i wr => ∃ (k : Nat), k ≤ n ∧ i = .int .i64 k ∧ Below w.heap.size w wr ∧ Hid (ProgIn wr a1 rv) ∧ Hid (ProgIn wr a2 P)) (fun i _ => n - (intOf i).toNat)
          case atStart => exact ⟨0, by omega, rfl, hbel2, HP1, HP2⟩
          case round =>
            obtain ⟨k, hk, rfl, hbel, HPr, HRr⟩ := hrel
            clear HP1 HP2 hbel2
            have hsz := hbel.size
            by_cases hlt : k < n
            · have hkP : k < P.length := by have := HN1.out; omega
              obtain ⟨r, hr⟩ : ∃ r, r = n - 1 - k := ⟨_, rfl⟩
              have hrR : r < rv.length := by have := HN2.out; omega
              have hrv := rev_at P rv HRV'.out k r hkP (by have := HN1.out; omega) hrR
              have hri : ((n : Int) - 1 - (k : Int)) = (r : Int) := by omega
              have hrn : (r : Int) < (n : Int) := by omega
              rcases HPr.out with h | ⟨b, off, rfl, hb, hc⟩
              · omega
              rcases HRr.out with h | ⟨b2, off2, rfl, hb2, hc2⟩
              · omega
              obtain ⟨c0, c1⟩ := hc r hrR
              obtain ⟨d0, d1⟩ := hc2 k hkP
              rw [hrv] at c0 c1
              obtain ⟨op, hop⟩ : ∃ op, op = P[k].1 := ⟨_, rfl⟩
              obtain ⟨arg, harg⟩ : ∃ arg, arg = P[k].2 := ⟨_, rfl⟩
              rw [← hop] at c0 d0
              rw [← harg] at c1 d1
              have hbn : ¬ b = wr.heap.size := by omega
              have hbn2 : ¬ b2 = wr.heap.size := by omega
              have hbA := hbel.alloc hsz (.cells #[.int .u8 op, .int .i32 arg] 25)
              have HPA : Hid (ProgIn (wr.alloc (.cells #[.int .u8 op, .int .i32 arg] 25)) (some ⟨b, off, none⟩) rv) := HPr.out.below ((Below.refl _ _).alloc (Nat.le_refl _) _) (Nat.le_refl _)
              have HRA : Hid (ProgIn (wr.alloc (.cells #[.int .u8 op, .int .i32 arg] 25)) (some ⟨b2, off2, none⟩) P) := HRr.out.below ((Below.refl _ _).alloc (Nat.le_refl _) _) (Nat.le_refl _)
              clear hc hc2 hop harg hrv HPr HRr hbel hr
              go_wp2_with fail
              go_quiet (fail)
              go_wp2_with fail
              go_roundw
              case rel => exact ⟨k + 1, by omega, by go_num, below_drewN hbA _, HPA, HRA⟩
              case measure => simp [intOf]; omega
            · obtain rfl : k = n := by omega
              go_wp2_with fail
              go_ret
              exact ⟨rfl, hbel⟩
        · rw [if_neg h0] at hA
          rw [hA] at hCA
          clear HBD HRV hA
          go_wp2_with fail
          refine (hCA _).mono ?_
          rintro e w2 ⟨v2, rfl, hown2, hb2, hnil⟩
          obtain rfl := hnil h0
          have hbel2 := hbel.trans (hb2.mono hsz)
          have h0' : (bd == 0) = false := int_ne h0
          have hnn : (binOp .eql 32 (.slice none 0 0) (.slice none 0 0)).run Ybym.prog w2 = .ok (.bool true) w2 := Go.Lib.run_eql_slice_nil w2 32 25 none 0 0 0 0 Ybym.underlying32
          clear hown hown2 hb2 hbel hCA hnil
          go_wp2_with fail
          go_ret
          exact ⟨rfl, hbel2⟩
      · omega
    | 1, hk, HN =>
      rcases HN.out with ⟨h, _⟩ | ⟨_, e, rfl, hB⟩
      · omega
      · have hfew := hB.few
        obtain ⟨hL, rfl⟩ := hB.last
        have hN' : linesOf s.data.toList = seg s 0 e :: suf := hL
        have hlen : (seg s 0 e :: suf).length ≤ s.size + 1 := by rw [← hL]; exact linesOf_len _
        clear HN hL hmb
        rw [List.length_cons] at hlen
        rw [show ((1 : Nat) : Int) - 2 = -1 from rfl]
        · skip
          have hcut : (s.extract 0 e).data.toList = seg s 0 e := cut_seg s 0 e hB.en
          obtain ⟨t, ht⟩ : ∃ t : ByteArray, t = s.extract 0 e := ⟨_, rfl⟩
          rw [← ht] at hcut
          have hje := hB.je
          have hen := hB.en
          have hsl : (Instr.slice 9 (.string s) (some (.int .i64 0)) (some (.int .i64 (e : Int))) none).run Ybym.prog wr = .ok (.string t) wr := by
            rw [run_slice_string wr 9 s .i64 .i64 0 (e : Int) Ybym.underlying9 (by omega) (by omega) (by omega), ht]
            rfl
          have htl : t.size ≤ maxLen := by
            have h1 := congrArg List.length hcut
            rw [seg_len s 0 e hen] at h1
            have h2 : t.data.toList.length = t.size := rfl
            unfold maxLen
            omega
          have hPL := fun w' => parseLine_any t w' htl
          rw [hcut] at hPL
          obtain ⟨hd, hhd⟩ : ∃ hd, hd = seg s 0 e := ⟨_, rfl⟩
          rw [← hhd] at hPL hN'
          have hkind := parseL_kind hd
          obtain ⟨op, hop⟩ : ∃ op, op = (parseL hd).1 := ⟨_, rfl⟩
          obtain ⟨arg, harg⟩ : ∃ arg, arg = (parseL hd).2.1 := ⟨_, rfl⟩
          obtain ⟨kd, hkd⟩ : ∃ kd, kd = (parseL hd).2.2 := ⟨_, rfl⟩
          have HBA : Hid (∀ q : Int, badAt (hd :: suf) q = if kd = 2 then q else badAt suf (q + 1)) := by rw [hkd]; exact fun q => rfl
          have HIN : Hid (insOf (hd :: suf) = if kd = 1 then (op, arg) :: insOf suf else insOf suf) := by rw [hkd, hop, harg]; rfl
          rw [← hop, ← harg, ← hkd] at hPL
          rw [← hkd] at hkind
          have HN' := Hid.mk' hN'
          clear hop harg hkd hcut ht htl hhd hB hfew hN'
          rcases hkind with rfl | rfl | rfl
          · have HBD' : Hid (bd = badAt (hd :: suf) ((1 : Nat) : Int)) := by show _ = _; rw [HBA.out, if_neg (by omega)]; exact HBD.out
            have HRV' : Hid (rv = (insOf (hd :: suf)).reverse) := by show _ = _; rw [HIN.out, if_neg (by omega)]; exact HRV.out
            clear HBA HIN HBD HRV
            go_wp2_with fail
            refine (hPL _).mono ?_
            rintro e w2 ⟨rfl, hb2⟩
            have hsz2 := Nat.le_trans hsz hb2.size
            have hown' := (hown.below hb2).alloc (.cells #[.int .u8 op, .int .i32 arg] 25)
            have hbel' := (hbel.trans (hb2.mono hsz)).alloc hsz2 (.cells #[.int .u8 op, .int .i32 arg] 25)
            clear hb2 hown hbel hsl hPL
            go_wp2
            go_roundw
            case rel => exact ⟨0, 0, _, _, hd :: suf, _, by go_num, rfl, by go_num, rfl, by omega, by omega, by rw [HRV'.out, List.length_reverse]; exact Nat.le_trans (insOf_len _) (by rw [List.length_cons]; omega), .inl ⟨rfl, rfl, HN'⟩, HBD', HRV', hown', hbel'⟩
            case measure => simp [intOf]
          · have HBD' : Hid (bd = badAt (hd :: suf) ((1 : Nat) : Int)) := by show _ = _; rw [HBA.out, if_neg (by omega)]; exact HBD.out
            have HRV' : Hid (rv ++ [(op, arg)] = (insOf (hd :: suf)).reverse) := by show _ = _; rw [HIN.out, if_pos rfl, List.reverse_cons, HRV.out]
            clear HBA HIN HBD HRV
            go_wp2_with fail
            refine (hPL _).mono ?_
            rintro e w2 ⟨rfl, hb2⟩
            have hsz2 := Nat.le_trans hsz hb2.size
            have hown2 := (hown.below hb2).alloc (.cells #[.int .u8 op, .int .i32 arg] 25)
            have hsz3 := alloc_le hsz2 (.cells #[.int .u8 op, .int .i32 arg] 25)
            have hbel2 := (hbel.trans (hb2.mono hsz)).alloc hsz2 (.cells #[.int .u8 op, .int .i32 arg] 25)
            have hp := alloc_two (w2.alloc (.cells #[.int .u8 op, .int .i32 arg] 25)) (.int .u8 op) (.int .i32 arg) 25
            rw [show (w2.alloc (.cells #[.int .u8 op, .int .i32 arg] 25)).heap.size = w2.heap.size + 1 from by show (w2.heap.push _).size = _; rw [Array.size_push]] at hp
            have hsr := hown.size
            clear hb2 hown hbel hsl hPL
            go_wp2_with (at_builtin; refine wpList_push_instr rfl (.tmp 50) (.tmp 52) rfl w.heap.size _ rv op arg (w2.heap.size + 1) 1 rfl (by first | rfl | simp [Act.eval, Act.put]) (hown2.alloc _) hp.1 hp.2 (by omega) (alloc_le hsz3 _) ?_)
            intro v' w3 hown' hgrow
            have hbel' : Below w.heap.size w w3 := (hbel2.alloc hsz3 _).grown hgrow (alloc_le hsz3 _) hsr
            clear hown2 hgrow hbel2 hp
            go_wp2
            go_roundw
            case rel => exact ⟨0, 0, _, _, hd :: suf, _, by go_num, rfl, by go_num, rfl, by omega, by omega, by rw [HRV'.out, List.length_reverse]; exact Nat.le_trans (insOf_len _) (by rw [List.length_cons]; omega), .inl ⟨rfl, rfl, HN'⟩, HBD', HRV', hown', hbel'⟩
            case measure => simp [intOf]
          · have HBD' : Hid (((1 : Nat) : Int) = badAt (hd :: suf) ((1 : Nat) : Int)) := by show _ = _; rw [HBA.out, if_pos rfl]
            have HRV' : Hid (rv = (insOf (hd :: suf)).reverse) := by show _ = _; rw [HIN.out, if_neg (by omega)]; exact HRV.out
            clear HBA HIN HBD HRV
            go_wp2_with fail
            refine (hPL _).mono ?_
            rintro e w2 ⟨rfl, hb2⟩
            have hsz2 := Nat.le_trans hsz hb2.size
            have hown' := (hown.below hb2).alloc (.cells #[.int .u8 op, .int .i32 arg] 25)
            have hbel' := (hbel.trans (hb2.mono hsz)).alloc hsz2 (.cells #[.int .u8 op, .int .i32 arg] 25)
            clear hb2 hown hbel hsl hPL
            go_wp2
            go_roundw
            case rel => exact ⟨0, 0, _, _, hd :: suf, _, by go_num, rfl, by go_num, rfl, by omega, by omega, by rw [HRV'.out, List.length_reverse]; exact Nat.le_trans (insOf_len _) (by rw [List.length_cons]; omega), .inl ⟨rfl, rfl, HN'⟩, HBD', HRV', hown', hbel'⟩
            case measure => simp [intOf]
    | p + 2, hk, HN =>
      rcases HN.out with ⟨h, _⟩ | ⟨_, e, rfl, hB0⟩
      · omega
      · have hB : Back s (p + 1) e m suf := hB0
        clear hB0 HN
        have hfew := hB.few
        rw [show (((p + 2 : Nat) : Int) - 2) = (p : Int) from by omega]
        have hp : p < s.size := by omega
        by_cases hc : s[p] = 10
        · obtain ⟨hN', hm1⟩ := hB.cut hp hc
          have hlen : suf.length + 1 ≤ s.size + 1 := by have := hN'.few.1; rw [List.length_cons] at this; exact this
          obtain ⟨m', rfl⟩ : ∃ m', m = m' + 1 := ⟨m - 1, by omega⟩
          rw [Nat.add_sub_cancel] at hN' hm1
          have q10 : ((s[p].toNat : Int) == 10) = true := int_eq (by rw [hc]; rfl)
          have hp1 : ((p : Int) + 1) = ((p + 1 : Nat) : Int) := rfl
          clear hc hp1
          have hcut : (s.extract (p + 1) e).data.toList = seg s (p + 1) e := cut_seg s (p + 1) e hB.en
          obtain ⟨t, ht⟩ : ∃ t : ByteArray, t = s.extract (p + 1) e := ⟨_, rfl⟩
          rw [← ht] at hcut
          have hje := hB.je
          have hen := hB.en
          have hsl : (Instr.slice 9 (.string s) (some (.int .i64 ((p : Int) + 1))) (some (.int .i64 (e : Int))) none).run Ybym.prog wr = .ok (.string t) wr := by
            rw [run_slice_string wr 9 s .i64 .i64 ((p : Int) + 1) (e : Int) Ybym.underlying9 (by omega) (by omega) (by omega), ht]
            rfl
          have htl : t.size ≤ maxLen := by
            have h1 := congrArg List.length hcut
            rw [seg_len s (p + 1) e hen] at h1
            have h2 : t.data.toList.length = t.size := rfl
            unfold maxLen
            omega
          have hPL := fun w' => parseLine_any t w' htl
          rw [hcut] at hPL
          obtain ⟨hd, hhd⟩ : ∃ hd, hd = seg s (p + 1) e := ⟨_, rfl⟩
          rw [← hhd] at hPL hN'
          have hkind := parseL_kind hd
          obtain ⟨op, hop⟩ : ∃ op, op = (parseL hd).1 := ⟨_, rfl⟩
          obtain ⟨arg, harg⟩ : ∃ arg, arg = (parseL hd).2.1 := ⟨_, rfl⟩
          obtain ⟨kd, hkd⟩ : ∃ kd, kd = (parseL hd).2.2 := ⟨_, rfl⟩
          have HBA : Hid (∀ q : Int, badAt (hd :: suf) q = if kd = 2 then q else badAt suf (q + 1)) := by rw [hkd]; exact fun q => rfl
          have HIN : Hid (insOf (hd :: suf) = if kd = 1 then (op, arg) :: insOf suf else insOf suf) := by rw [hkd, hop, harg]; rfl
          rw [← hop, ← harg, ← hkd] at hPL
          rw [← hkd] at hkind
          have HN' := Hid.mk' hN'
          clear hop harg hkd hcut ht htl hhd hB hfew hN'
          rcases hkind with rfl | rfl | rfl
          · have HBD' : Hid (bd = badAt (hd :: suf) ((m' + 1 : Nat) : Int)) := by show _ = _; rw [HBA.out, if_neg (by omega)]; exact HBD.out
            have HRV' : Hid (rv = (insOf (hd :: suf)).reverse) := by show _ = _; rw [HIN.out, if_neg (by omega)]; exact HRV.out
            clear HBA HIN HBD HRV
            go_wp2_with fail
            refine (hPL _).mono ?_
            rintro e w2 ⟨rfl, hb2⟩
            have hsz2 := Nat.le_trans hsz hb2.size
            have hown' := (hown.below hb2).alloc (.cells #[.int .u8 op, .int .i32 arg] 25)
            have hbel' := (hbel.trans (hb2.mono hsz)).alloc hsz2 (.cells #[.int .u8 op, .int .i32 arg] 25)
            clear hb2 hown hbel hsl hPL
            go_wp2
            go_roundw
            case rel => exact ⟨p + 1, m', _, _, hd :: suf, _, by go_num, rfl, by go_num, rfl, by omega, by omega, by rw [HRV'.out, List.length_reverse]; exact Nat.le_trans (insOf_len _) (by rw [List.length_cons]; omega), .inr ⟨by omega, p, rfl, HN'.out⟩, HBD', HRV', hown', hbel'⟩
            case measure => simp [intOf]; omega
          · have HBD' : Hid (bd = badAt (hd :: suf) ((m' + 1 : Nat) : Int)) := by show _ = _; rw [HBA.out, if_neg (by omega)]; exact HBD.out
            have HRV' : Hid (rv ++ [(op, arg)] = (insOf (hd :: suf)).reverse) := by show _ = _; rw [HIN.out, if_pos rfl, List.reverse_cons, HRV.out]
            clear HBA HIN HBD HRV
            go_wp2_with fail
            refine (hPL _).mono ?_
            rintro e w2 ⟨rfl, hb2⟩
            have hsz2 := Nat.le_trans hsz hb2.size
            have hown2 := (hown.below hb2).alloc (.cells #[.int .u8 op, .int .i32 arg] 25)
            have hsz3 := alloc_le hsz2 (.cells #[.int .u8 op, .int .i32 arg] 25)
            have hbel2 := (hbel.trans (hb2.mono hsz)).alloc hsz2 (.cells #[.int .u8 op, .int .i32 arg] 25)
            have hp := alloc_two (w2.alloc (.cells #[.int .u8 op, .int .i32 arg] 25)) (.int .u8 op) (.int .i32 arg) 25
            rw [show (w2.alloc (.cells #[.int .u8 op, .int .i32 arg] 25)).heap.size = w2.heap.size + 1 from by show (w2.heap.push _).size = _; rw [Array.size_push]] at hp
            have hsr := hown.size
            clear hb2 hown hbel hsl hPL
            go_wp2_with (at_builtin; refine wpList_push_instr rfl (.tmp 50) (.tmp 52) rfl w.heap.size _ rv op arg (w2.heap.size + 1) 1 rfl (by first | rfl | simp [Act.eval, Act.put]) (hown2.alloc _) hp.1 hp.2 (by omega) (alloc_le hsz3 _) ?_)
            intro v' w3 hown' hgrow
            have hbel' : Below w.heap.size w w3 := (hbel2.alloc hsz3 _).grown hgrow (alloc_le hsz3 _) hsr
            clear hown2 hgrow hbel2 hp
            go_wp2
            go_roundw
            case rel => exact ⟨p + 1, m', _, _, hd :: suf, _, by go_num, rfl, by go_num, rfl, by omega, by omega, by rw [HRV'.out, List.length_reverse]; exact Nat.le_trans (insOf_len _) (by rw [List.length_cons]; omega), .inr ⟨by omega, p, rfl, HN'.out⟩, HBD', HRV', hown', hbel'⟩
            case measure => simp [intOf]; omega
          · have HBD' : Hid (((m' + 1 : Nat) : Int) = badAt (hd :: suf) ((m' + 1 : Nat) : Int)) := by show _ = _; rw [HBA.out, if_pos rfl]
            have HRV' : Hid (rv = (insOf (hd :: suf)).reverse) := by show _ = _; rw [HIN.out, if_neg (by omega)]; exact HRV.out
            clear HBA HIN HBD HRV
            go_wp2_with fail
            refine (hPL _).mono ?_
            rintro e w2 ⟨rfl, hb2⟩
            have hsz2 := Nat.le_trans hsz hb2.size
            have hown' := (hown.below hb2).alloc (.cells #[.int .u8 op, .int .i32 arg] 25)
            have hbel' := (hbel.trans (hb2.mono hsz)).alloc hsz2 (.cells #[.int .u8 op, .int .i32 arg] 25)
            clear hb2 hown hbel hsl hPL
            go_wp2
            go_roundw
            case rel => exact ⟨p + 1, m', _, _, hd :: suf, _, by go_num, rfl, by go_num, rfl, by omega, by omega, by rw [HRV'.out, List.length_reverse]; exact Nat.le_trans (insOf_len _) (by rw [List.length_cons]; omega), .inr ⟨by omega, p, rfl, HN'.out⟩, HBD', HRV', hown', hbel'⟩
            case measure => simp [intOf]; omega
        · have HN' : Hid (AtK s (p + 1) (e : Int) m suf) := .inr ⟨by omega, e, rfl, hB.goes hp hc⟩
          have q10 : ((s[p].toNat : Int) == 10) = false := int_ne (fun h => hc (UInt8.toNat.inj (by show _ = 10; omega)))
          clear hc hB hfew
          go_wp2_with fail
          go_roundw
          case rel => exact ⟨p + 1, m, _, _, suf, _, by go_num, rfl, rfl, rfl, by omega, by omega, hrl, HN', HBD, HRV, hown, hbel⟩
          case measure => simp [intOf]; omega
end Go.Proofs.Ymbrby

/- Contracts: names, what a bond is: both sides. -/
import Derived.Test.YtnhmcmohnpbcjaaBond0
import Derived.Test.YtnhmcmohnpbcjaaBasic
namespace Go.Proofs.Ytnhmcmohnpbcjaa
open Go.RowKit
set_option linter.unusedSimpArgs false
set_option linter.unusedVariables false
set_option linter.unnecessarySimpa false

theorem bts_getD (s : ByteArray) (k : Nat) (h : k < s.size) : (bts s).getD k 0 = s[k] := by
  obtain ⟨h1, h2⟩ := byte_at s k h
  rw [List.getD_eq_getElem?_getD, List.getElem?_eq_getElem h1, Option.getD_some]
  exact h2
theorem nmB_iff (b : UInt8) : nmB b = true ↔ ((97 ≤ (b.toNat : Int) ∧ (b.toNat : Int) ≤ 122) ∨ (48 ≤ (b.toNat : Int) ∧ (b.toNat : Int) ≤ 57) ∨ (b.toNat : Int) = 45) := by
  unfold nmB nmI; rw [decide_eq_true_eq]
theorem nmB_no (b : UInt8) : nmB b = false ↔ (((b.toNat : Int) < 97 ∨ 122 < (b.toNat : Int)) ∧ ((b.toNat : Int) < 48 ∨ 57 < (b.toNat : Int)) ∧ ¬ (b.toNat : Int) = 45) := by
  unfold nmB nmI; rw [decide_eq_false_iff_not]; omega
theorem nameB_eq (s : ByteArray) : nameB (bts s) = (inB s.size 1 12 && (smI ((bts s).getD 0 0).toNat && (bts s).all nmB)) := by unfold nameB; rw [bts_length]
set_option maxHeartbeats 800000 in
theorem i_IsName (s : ByteArray) (hs : s.size ≤ 9223372036854775807) (w : World) : Calls Try.prog 113 #[.string s] w (RetV (.bool (nameB (bts s))) w) := by
  have hn := nameB_eq s
  by_cases g0 : s.size < 1
  · have HV : Hid (nameB (bts s) = false) := Lib.hid (by rw [hn, show inB s.size 1 12 = false by simp [inB]; omega]; rfl)
    clear hn
    go_enter Try.func113, Try.ntmps113
    go_wp2
    go_ret
    exact RetV.mk (bool_eq HV.out.symm)
  · by_cases g1 : 12 < s.size
    · have HV : Hid (nameB (bts s) = false) := Lib.hid (by rw [hn, show inB s.size 1 12 = false by simp [inB]; omega]; rfl)
      clear hn
      have g1' : (12 : Int) < (s.size : Int) := by omega
      have g0' : ¬ (s.size : Int) < 1 := by omega
      go_enter Try.func113, Try.ntmps113
      go_wp2
      go_ret
      exact RetV.mk (bool_eq HV.out.symm)
    · have h0 : 0 < s.size := by omega
      have g0' : ¬ (s.size : Int) < 1 := by omega
      have g1' : ¬ (12 : Int) < (s.size : Int) := by omega
      rw [show inB s.size 1 12 = true by simp [inB]; omega, Bool.true_and, bts_getD s 0 h0] at hn
      have HN := Lib.hid hn
      clear hn
      by_cases c1 : (s[0].toNat : Int) < 97
      · have HV : Hid (nameB (bts s) = false) := Lib.hid (by rw [HN.out, show smI (s[0].toNat : Int) = false by simp [smI]; omega]; rfl)
        go_enter Try.func113, Try.ntmps113
        go_wp2
        go_ret
        exact RetV.mk (bool_eq HV.out.symm)
      · by_cases c2 : 122 < (s[0].toNat : Int)
        · have HV : Hid (nameB (bts s) = false) := Lib.hid (by rw [HN.out, show smI (s[0].toNat : Int) = false by simp [smI]; omega]; rfl)
          go_enter Try.func113, Try.ntmps113
          go_wp2
          go_ret
          exact RetV.mk (bool_eq HV.out.symm)
        · have HV : Hid (nameB (bts s) = (bts s).all nmB) := Lib.hid (by rw [HN.out, show smI (s[0].toNat : Int) = true by simp [smI]; omega]; rfl)
          have ht0 : ((bts s).take 1).all nmB = true := by
            rw [take_snoc s 0 h0, List.take_zero, List.nil_append, List.all_cons, List.all_nil, Bool.and_true, nmB_iff]
            left; omega
          have HT0 := Lib.hid ht0
          clear ht0
          go_enter Try.func113, Try.ntmps113
          go_wp2
          clear c1 c2
          go_loop [3] (fun i => ∃ k : Nat, 1 ≤ k ∧ k ≤ s.size ∧ i = .int .i64 k ∧ ((bts s).take k).all nmB = true) (fun i => s.size - (intOf i).toNat)
          case atStart => exact ⟨1, Nat.le_refl _, h0, rfl, HT0.out⟩
          case round =>
            obtain ⟨k, hk1, hk, rfl, ht⟩ := hrel
            have HT := Lib.hid ht
            clear ht
            by_cases hlt : k < s.size
            · obtain ⟨hkl, hb⟩ := byte_at s k hlt
              have hsucc := all_take_succ (p := nmB) hkl
              have hf := all_false_of (p := nmB) hkl
              rw [hb] at hsucc hf
              have HS := Lib.hid hsucc
              have HF := Lib.hid hf
              have hyes := (nmB_iff s[k]).1
              have hno := (nmB_no s[k]).1
              clear hsucc hf hb
              cases hq : nmB s[k] with
              | true =>
                have HQ := Lib.hid hq
                rcases hyes hq with ⟨y1, y2⟩ | ⟨y1, y2⟩ | y1
                · have z1 : ¬ (s[k].toNat : Int) < 97 := by omega
                  have z2 : ¬ 122 < (s[k].toNat : Int) := by omega
                  clear hq hyes hno
                  go_wp2
                  go_round
                  case rel => exact ⟨k + 1, by omega, by omega, by go_num, by rw [HS.out, HT.out, HQ.out]; rfl⟩
                  case measure => simp [intOf]; omega
                · have z1 : (s[k].toNat : Int) < 97 := by omega
                  have z2 : ¬ (s[k].toNat : Int) < 48 := by omega
                  have z3 : ¬ 57 < (s[k].toNat : Int) := by omega
                  clear hq hyes hno
                  go_wp2
                  go_round
                  case rel => exact ⟨k + 1, by omega, by omega, by go_num, by rw [HS.out, HT.out, HQ.out]; rfl⟩
                  case measure => simp [intOf]; omega
                · have z1 : (s[k].toNat : Int) < 97 := by omega
                  have z2 : (s[k].toNat : Int) < 48 := by omega
                  have z3 : ((s[k].toNat : Int) != 45) = false := by simp [y1]
                  clear hq hyes hno y1
                  go_wp2
                  go_round
                  case rel => exact ⟨k + 1, by omega, by omega, by go_num, by rw [HS.out, HT.out, HQ.out]; rfl⟩
                  case measure => simp [intOf]; omega
              | false =>
                have HV2 : Hid ((bts s).all nmB = false) := Lib.hid (HF.out hq)
                obtain ⟨y1, y2, y3⟩ := hno hq
                have z3 : ((s[k].toNat : Int) != 45) = true := by simp [y3]
                clear hq hyes hno y3
                go_wp2
                all_goals first
                  | (go_ret; exact RetV.mk (bool_eq (by rw [HV.out, HV2.out])))
                  | (exfalso; simp only [bne_iff_ne, ne_eq, bne_eq_false_iff_eq] at *; omega)
            · go_wp2
              go_ret
              exact RetV.mk (bool_eq (by have h := HT.out; rw [take_all s k (by omega)] at h; rw [HV.out, h]))
/-- a digit -/
def dgI (n : Int) : Bool := decide (48 ≤ n ∧ n ≤ 57)
theorem s_l01Small (n : Int) (w : World) : Calls Try.prog 146 #[.int .u8 n] w (RetV (.bool (smI n)) w) := by
  by_cases h1 : 97 ≤ n <;> by_cases h2 : n ≤ 122
  all_goals
    go_enter Try.func146, Try.ntmps146
    go_wp2
    go_ret
    exact RetV.mk (by simp [smI, *])
theorem s_l01Digit (n : Int) (w : World) : Calls Try.prog 147 #[.int .u8 n] w (RetV (.bool (dgI n)) w) := by
  by_cases h1 : 48 ≤ n <;> by_cases h2 : n ≤ 57
  all_goals
    go_enter Try.func147, Try.ntmps147
    go_wp2
    go_ret
    exact RetV.mk (by simp [dgI, *])
theorem nmI_or (n : Int) : nmI n = (smI n || (dgI n || decide (n = 45))) := by
  unfold nmI smI dgI; rw [Bool.eq_iff_iff]; simp
set_option maxHeartbeats 800000 in
theorem s_IsName (s : ByteArray) (hs : s.size ≤ 9223372036854775807) (w : World) : Calls Try.prog 108 #[.string s] w (RetV (.bool (nameB (bts s))) w) := by
  have hn := nameB_eq s
  by_cases g0 : s.size < 1
  · have HV : Hid (nameB (bts s) = false) := Lib.hid (by rw [hn, show inB s.size 1 12 = false by simp [inB]; omega]; rfl)
    have he : s.toList = [] := by rw [ByteArray.toList_eq]; exact List.eq_nil_of_length_eq_zero (by have := bts_length s; unfold bts at this; omega)
    clear hn
    go_enter Try.func108, Try.ntmps108
    go_wp2
    go_ret
    exact RetV.mk (bool_eq HV.out.symm)
  · have he : s.toList.isEmpty = false := by rw [ByteArray.toList_eq]; cases h : s.data.toList with
      | nil => have := bts_length s; unfold bts at this; rw [h] at this; simp at this; omega
      | cons a l => rfl
    have he2 : (s.toList == []) = false := by cases h : s.toList with
      | nil => rw [h] at he; cases he
      | cons a l => rfl
    by_cases g1 : 12 < s.size
    · have HV : Hid (nameB (bts s) = false) := Lib.hid (by rw [hn, show inB s.size 1 12 = false by simp [inB]; omega]; rfl)
      clear hn
      have g1' : (12 : Int) < (s.size : Int) := by omega
      go_enter Try.func108, Try.ntmps108
      go_wp2
      go_ret
      exact RetV.mk (bool_eq HV.out.symm)
    · have h0 : 0 < s.size := by omega
      have g1' : ¬ (12 : Int) < (s.size : Int) := by omega
      rw [show inB s.size 1 12 = true by simp [inB]; omega, Bool.true_and, bts_getD s 0 h0] at hn
      have HN := Lib.hid hn
      clear hn
      cases hc : smI (s[0].toNat : Int) with
      | false =>
        have HV : Hid (nameB (bts s) = false) := Lib.hid (by rw [HN.out, hc]; rfl)
        have HC := Lib.hid hc
        clear hc
        go_enter Try.func108, Try.ntmps108
        go_wp2_with (go_at_call 146; refine (s_l01Small _ _).mono ?_; rw [HC.out]; rintro e w' ⟨rfl, rfl⟩)
        go_ret
        exact RetV.mk (bool_eq HV.out.symm)
      | true =>
        have HV : Hid (nameB (bts s) = (bts s).all nmB) := Lib.hid (by rw [HN.out, hc]; rfl)
        have HC := Lib.hid hc
        clear hc
        go_enter Try.func108, Try.ntmps108
        go_wp2_with (go_at_call 146; refine (s_l01Small _ _).mono ?_; rw [HC.out]; rintro e w' ⟨rfl, rfl⟩)
        go_loop [3] (fun i => ∃ k : Nat, k ≤ s.size ∧ i = .int .i64 k ∧ ((bts s).take k).all nmB = true) (fun i => s.size - (intOf i).toNat)
        case atStart => exact ⟨0, Nat.zero_le _, rfl, rfl⟩
        case round =>
          obtain ⟨k, hk, rfl, ht⟩ := hrel
          have HT := Lib.hid ht
          clear ht
          by_cases hlt : k < s.size
          · obtain ⟨hkl, hb⟩ := byte_at s k hlt
            have hsucc := all_take_succ (p := nmB) hkl
            have hf := all_false_of (p := nmB) hkl
            rw [hb] at hsucc hf
            have HS := Lib.hid hsucc
            have HF := Lib.hid hf
            have hor : nmB s[k] = (smI (s[k].toNat : Int) || (dgI (s[k].toNat : Int) || decide ((s[k].toNat : Int) = 45))) := nmI_or _
            have HOR := Lib.hid hor
            clear hsucc hf hb hor
            cases h1 : smI (s[k].toNat : Int) with
            | true =>
              have H1 : Hid (∀ W, Calls Try.prog 146 #[.int .u8 (s[k].toNat : Int)] W (RetV (.bool true) W)) := Lib.hid (fun W => by rw [← h1]; exact s_l01Small _ W)
              have HQ : Hid (nmB s[k] = true) := Lib.hid (by rw [HOR.out, h1]; rfl)
              clear h1
              go_wp2_with (go_at_call 146; refine (H1.out _).mono ?_; rintro e w' ⟨rfl, rfl⟩)
              go_round
              case rel => exact ⟨k + 1, by omega, by go_num, by rw [HS.out, HT.out, HQ.out]; rfl⟩
              case measure => simp [intOf]; omega
            | false =>
              have H1 : Hid (∀ W, Calls Try.prog 146 #[.int .u8 (s[k].toNat : Int)] W (RetV (.bool false) W)) := Lib.hid (fun W => by rw [← h1]; exact s_l01Small _ W)
              cases h2 : dgI (s[k].toNat : Int) with
              | true =>
                have H2 : Hid (∀ W, Calls Try.prog 147 #[.int .u8 (s[k].toNat : Int)] W (RetV (.bool true) W)) := Lib.hid (fun W => by rw [← h2]; exact s_l01Digit _ W)
                have HQ : Hid (nmB s[k] = true) := Lib.hid (by rw [HOR.out, h1, h2]; rfl)
                clear h1 h2
                go_wp2_with (first | (go_at_call 146; refine (H1.out _).mono ?_; rintro e w' ⟨rfl, rfl⟩) | (go_at_call 147; refine (H2.out _).mono ?_; rintro e w' ⟨rfl, rfl⟩))
                go_round
                case rel => exact ⟨k + 1, by omega, by go_num, by rw [HS.out, HT.out, HQ.out]; rfl⟩
                case measure => simp [intOf]; omega
              | false =>
                have H2 : Hid (∀ W, Calls Try.prog 147 #[.int .u8 (s[k].toNat : Int)] W (RetV (.bool false) W)) := Lib.hid (fun W => by rw [← h2]; exact s_l01Digit _ W)
                by_cases h3 : (s[k].toNat : Int) = 45
                · have HQ : Hid (nmB s[k] = true) := Lib.hid (by rw [HOR.out, h1, h2]; simp [h3])
                  have z3 : ((s[k].toNat : Int) != 45) = false := by simp [h3]
                  clear h1 h2 h3
                  go_wp2_with (first | (go_at_call 146; refine (H1.out _).mono ?_; rintro e w' ⟨rfl, rfl⟩) | (go_at_call 147; refine (H2.out _).mono ?_; rintro e w' ⟨rfl, rfl⟩))
                  go_round
                  case rel => exact ⟨k + 1, by omega, by go_num, by rw [HS.out, HT.out, HQ.out]; rfl⟩
                  case measure => simp [intOf]; omega
                · have HQ : Hid ((bts s).all nmB = false) := Lib.hid (HF.out (by rw [HOR.out, h1, h2]; simp [h3]))
                  have z3 : ((s[k].toNat : Int) != 45) = true := by simp [h3]
                  clear h1 h2 h3
                  go_wp2_with (first | (go_at_call 146; refine (H1.out _).mono ?_; rintro e w' ⟨rfl, rfl⟩) | (go_at_call 147; refine (H2.out _).mono ?_; rintro e w' ⟨rfl, rfl⟩))
                  go_ret
                  exact RetV.mk (bool_eq (by rw [HV.out, HQ.out]))
          · go_wp2
            go_ret
            exact RetV.mk (bool_eq (by have h := HT.out; rw [take_all s k (by omega)] at h; rw [HV.out, h]))
end Go.Proofs.Ytnhmcmohnpbcjaa

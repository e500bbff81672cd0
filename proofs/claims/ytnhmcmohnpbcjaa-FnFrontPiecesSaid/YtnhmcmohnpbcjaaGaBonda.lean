/- A group of texts, one behind the other: Bond1, Bond2. -/
import Derived.Test.YtnhmcmohnpbcjaaBond0
import Derived.Test.YtnhmcmohnpbcjaaBasic
/- Contracts: names, what a bond is: both sides. -/
namespace Go.Proofs.Ytnhmcmohnpbcjaa
open Go.RowKit
set_option linter.unusedSimpArgs false
set_option linter.unusedVariables false
set_option linter.unnecessarySimpa false

theorem bts_getD (s : ByteArray) (k : Nat) (h : k < s.size) : (bts s).getD k 0 = s[k] := by
  obtain ⟨h1, h2⟩ := byte_at s k h
  rw [List.getD_eq_getElem?_getD, List.getElem?_eq_getElem h1, Option.getD_some]
  exact h2
theorem nmB_iff (b : UInt8) : nmB b = true ↔ ((97 ≤ (b.toNat : Int) ∧ (b.toNat : Int) ≤ 122) ∨ (48 ≤ (b.toNat : Int) ∧ (b.toNat : Int) ≤ 57) ∨ (b.toNat : Int) = 45) := by
  unfold nmB nmI; rw [decide_eq_true_eq]
theorem nmB_no (b : UInt8) : nmB b = false ↔ (((b.toNat : Int) < 97 ∨ 122 < (b.toNat : Int)) ∧ ((b.toNat : Int) < 48 ∨ 57 < (b.toNat : Int)) ∧ ¬ (b.toNat : Int) = 45) := by
  unfold nmB nmI; rw [decide_eq_false_iff_not]; omega
theorem nameB_eq (s : ByteArray) : nameB (bts s) = (inB s.size 1 12 && (smI ((bts s).getD 0 0).toNat && (bts s).all nmB)) := by unfold nameB; rw [bts_length]
set_option maxHeartbeats 800000 in
theorem i_IsName (s : ByteArray) (hs : s.size ≤ 9223372036854775807) (w : World) : Calls Try.prog 113 #[.string s] w (RetV (.bool (nameB (bts s))) w) := by
  have hn := nameB_eq s
  by_cases g0 : s.size < 1
  · have HV : Hid (nameB (bts s) = false) := Lib.hid (by rw [hn, show inB s.size 1 12 = false by simp [inB]; omega]; rfl)
    clear hn
    go_enter Try.func113, Try.ntmps113
    go_wp2
    go_ret
    exact RetV.mk (bool_eq HV.out.symm)
  · by_cases g1 : 12 < s.size
    · have HV : Hid (nameB (bts s) = false) := Lib.hid (by rw [hn, show inB s.size 1 12 = false by simp [inB]; omega]; rfl)
      clear hn
      have g1' : (12 : Int) < (s.size : Int) := by omega
      have g0' : ¬ (s.size : Int) < 1 := by omega
      go_enter Try.func113, Try.ntmps113
      go_wp2
      go_ret
      exact RetV.mk (bool_eq HV.out.symm)
    · have h0 : 0 < s.size := by omega
      have g0' : ¬ (s.size : Int) < 1 := by omega
      have g1' : ¬ (12 : Int) < (s.size : Int) := by omega
      rw [show inB s.size 1 12 = true by simp [inB]; omega, Bool.true_and, bts_getD s 0 h0] at hn
      have HN := Lib.hid hn
      clear hn
      by_cases c1 : (s[0].toNat : Int) < 97
      · have HV : Hid (nameB (bts s) = false) := Lib.hid (by rw [HN.out, show smI (s[0].toNat : Int) = false by simp [smI]; omega]; rfl)
        go_enter Try.func113, Try.ntmps113
        go_wp2
        go_ret
        exact RetV.mk (bool_eq HV.out.symm)
      · by_cases c2 : 122 < (s[0].toNat : Int)
        · have HV : Hid (nameB (bts s) = false) := Lib.hid (by rw [HN.out, show smI (s[0].toNat : Int) = false by simp [smI]; omega]; rfl)
          go_enter Try.func113, Try.ntmps113
          go_wp2
          go_ret
          exact RetV.mk (bool_eq HV.out.symm)
        · have HV : Hid (nameB (bts s) = (bts s).all nmB) := Lib.hid (by rw [HN.out, show smI (s[0].toNat : Int) = true by simp [smI]; omega]; rfl)
          have ht0 : ((bts s).take 1).all nmB = true := by
            rw [take_snoc s 0 h0, List.take_zero, List.nil_append, List.all_cons, List.all_nil, Bool.and_true, nmB_iff]
            left; omega
          have HT0 := Lib.hid ht0
          clear ht0
          go_enter Try.func113, Try.ntmps113
          go_wp2
          clear c1 c2
          go_loop [3] (fun i => ∃ k : Nat, 1 ≤ k ∧ k ≤ s.size ∧ i = .int .i64 k ∧ ((bts s).take k).all nmB = true) (fun i => s.size - (intOf i).toNat)
          case atStart => exact ⟨1, Nat.le_refl _, h0, rfl, HT0.out⟩
          case round =>
            obtain ⟨k, hk1, hk, rfl, ht⟩ := hrel
            have HT := Lib.hid ht
            clear ht
            by_cases hlt : k < s.size
            · obtain ⟨hkl, hb⟩ := byte_at s k hlt
              have hsucc := all_take_succ (p := nmB) hkl
              have hf := all_false_of (p := nmB) hkl
              rw [hb] at hsucc hf
              have HS := Lib.hid hsucc
              have HF := Lib.hid hf
              have hyes := (nmB_iff s[k]).1
              have hno := (nmB_no s[k]).1
              clear hsucc hf hb
              cases hq : nmB s[k] with
              | true =>
                have HQ := Lib.hid hq
                rcases hyes hq with ⟨y1, y2⟩ | ⟨y1, y2⟩ | y1
                · have z1 : ¬ (s[k].toNat : Int) < 97 := by omega
                  have z2 : ¬ 122 < (s[k].toNat : Int) := by omega
                  clear hq hyes hno
                  go_wp2
                  go_round
                  case rel => exact ⟨k + 1, by omega, by omega, by go_num, by rw [HS.out, HT.out, HQ.out]; rfl⟩
                  case measure => simp [intOf]; omega
                · have z1 : (s[k].toNat : Int) < 97 := by omega
                  have z2 : ¬ (s[k].toNat : Int) < 48 := by omega
                  have z3 : ¬ 57 < (s[k].toNat : Int) := by omega
                  clear hq hyes hno
                  go_wp2
                  go_round
                  case rel => exact ⟨k + 1, by omega, by omega, by go_num, by rw [HS.out, HT.out, HQ.out]; rfl⟩
                  case measure => simp [intOf]; omega
                · have z1 : (s[k].toNat : Int) < 97 := by omega
                  have z2 : (s[k].toNat : Int) < 48 := by omega
                  have z3 : ((s[k].toNat : Int) != 45) = false := by simp [y1]
                  clear hq hyes hno y1
                  go_wp2
                  go_round
                  case rel => exact ⟨k + 1, by omega, by omega, by go_num, by rw [HS.out, HT.out, HQ.out]; rfl⟩
                  case measure => simp [intOf]; omega
              | false =>
                have HV2 : Hid ((bts s).all nmB = false) := Lib.hid (HF.out hq)
                obtain ⟨y1, y2, y3⟩ := hno hq
                have z3 : ((s[k].toNat : Int) != 45) = true := by simp [y3]
                clear hq hyes hno y3
                go_wp2
                all_goals first
                  | (go_ret; exact RetV.mk (bool_eq (by rw [HV.out, HV2.out])))
                  | (exfalso; simp only [bne_iff_ne, ne_eq, bne_eq_false_iff_eq] at *; omega)
            · go_wp2
              go_ret
              exact RetV.mk (bool_eq (by have h := HT.out; rw [take_all s k (by omega)] at h; rw [HV.out, h]))
/-- a digit -/
def dgI (n : Int) : Bool := decide (48 ≤ n ∧ n ≤ 57)
theorem s_l01Small (n : Int) (w : World) : Calls Try.prog 146 #[.int .u8 n] w (RetV (.bool (smI n)) w) := by
  by_cases h1 : 97 ≤ n <;> by_cases h2 : n ≤ 122
  all_goals
    go_enter Try.func146, Try.ntmps146
    go_wp2
    go_ret
    exact RetV.mk (by simp [smI, *])
theorem s_l01Digit (n : Int) (w : World) : Calls Try.prog 147 #[.int .u8 n] w (RetV (.bool (dgI n)) w) := by
  by_cases h1 : 48 ≤ n <;> by_cases h2 : n ≤ 57
  all_goals
    go_enter Try.func147, Try.ntmps147
    go_wp2
    go_ret
    exact RetV.mk (by simp [dgI, *])
theorem nmI_or (n : Int) : nmI n = (smI n || (dgI n || decide (n = 45))) := by
  unfold nmI smI dgI; rw [Bool.eq_iff_iff]; simp
set_option maxHeartbeats 800000 in
theorem s_IsName (s : ByteArray) (hs : s.size ≤ 9223372036854775807) (w : World) : Calls Try.prog 108 #[.string s] w (RetV (.bool (nameB (bts s))) w) := by
  have hn := nameB_eq s
  by_cases g0 : s.size < 1
  · have HV : Hid (nameB (bts s) = false) := Lib.hid (by rw [hn, show inB s.size 1 12 = false by simp [inB]; omega]; rfl)
    have he : s.toList = [] := by rw [ByteArray.toList_eq]; exact List.eq_nil_of_length_eq_zero (by have := bts_length s; unfold bts at this; omega)
    clear hn
    go_enter Try.func108, Try.ntmps108
    go_wp2
    go_ret
    exact RetV.mk (bool_eq HV.out.symm)
  · have he : s.toList.isEmpty = false := by rw [ByteArray.toList_eq]; cases h : s.data.toList with
      | nil => have := bts_length s; unfold bts at this; rw [h] at this; simp at this; omega
      | cons a l => rfl
    have he2 : (s.toList == []) = false := by cases h : s.toList with
      | nil => rw [h] at he; cases he
      | cons a l => rfl
    by_cases g1 : 12 < s.size
    · have HV : Hid (nameB (bts s) = false) := Lib.hid (by rw [hn, show inB s.size 1 12 = false by simp [inB]; omega]; rfl)
      clear hn
      have g1' : (12 : Int) < (s.size : Int) := by omega
      go_enter Try.func108, Try.ntmps108
      go_wp2
      go_ret
      exact RetV.mk (bool_eq HV.out.symm)
    · have h0 : 0 < s.size := by omega
      have g1' : ¬ (12 : Int) < (s.size : Int) := by omega
      rw [show inB s.size 1 12 = true by simp [inB]; omega, Bool.true_and, bts_getD s 0 h0] at hn
      have HN := Lib.hid hn
      clear hn
      cases hc : smI (s[0].toNat : Int) with
      | false =>
        have HV : Hid (nameB (bts s) = false) := Lib.hid (by rw [HN.out, hc]; rfl)
        have HC := Lib.hid hc
        clear hc
        go_enter Try.func108, Try.ntmps108
        go_wp2_with (go_at_call 146; refine (s_l01Small _ _).mono ?_; rw [HC.out]; rintro e w' ⟨rfl, rfl⟩)
        go_ret
        exact RetV.mk (bool_eq HV.out.symm)
      | true =>
        have HV : Hid (nameB (bts s) = (bts s).all nmB) := Lib.hid (by rw [HN.out, hc]; rfl)
        have HC := Lib.hid hc
        clear hc
        go_enter Try.func108, Try.ntmps108
        go_wp2_with (go_at_call 146; refine (s_l01Small _ _).mono ?_; rw [HC.out]; rintro e w' ⟨rfl, rfl⟩)
        go_loop [3] (fun i => ∃ k : Nat, k ≤ s.size ∧ i = .int .i64 k ∧ ((bts s).take k).all nmB = true) (fun i => s.size - (intOf i).toNat)
        case atStart => exact ⟨0, Nat.zero_le _, rfl, rfl⟩
        case round =>
          obtain ⟨k, hk, rfl, ht⟩ := hrel
          have HT := Lib.hid ht
          clear ht
          by_cases hlt : k < s.size
          · obtain ⟨hkl, hb⟩ := byte_at s k hlt
            have hsucc := all_take_succ (p := nmB) hkl
            have hf := all_false_of (p := nmB) hkl
            rw [hb] at hsucc hf
            have HS := Lib.hid hsucc
            have HF := Lib.hid hf
            have hor : nmB s[k] = (smI (s[k].toNat : Int) || (dgI (s[k].toNat : Int) || decide ((s[k].toNat : Int) = 45))) := nmI_or _
            have HOR := Lib.hid hor
            clear hsucc hf hb hor
            cases h1 : smI (s[k].toNat : Int) with
            | true =>
              have H1 : Hid (∀ W, Calls Try.prog 146 #[.int .u8 (s[k].toNat : Int)] W (RetV (.bool true) W)) := Lib.hid (fun W => by rw [← h1]; exact s_l01Small _ W)
              have HQ : Hid (nmB s[k] = true) := Lib.hid (by rw [HOR.out, h1]; rfl)
              clear h1
              go_wp2_with (go_at_call 146; refine (H1.out _).mono ?_; rintro e w' ⟨rfl, rfl⟩)
              go_round
              case rel => exact ⟨k + 1, by omega, by go_num, by rw [HS.out, HT.out, HQ.out]; rfl⟩
              case measure => simp [intOf]; omega
            | false =>
              have H1 : Hid (∀ W, Calls Try.prog 146 #[.int .u8 (s[k].toNat : Int)] W (RetV (.bool false) W)) := Lib.hid (fun W => by rw [← h1]; exact s_l01Small _ W)
              cases h2 : dgI (s[k].toNat : Int) with
              | true =>
                have H2 : Hid (∀ W, Calls Try.prog 147 #[.int .u8 (s[k].toNat : Int)] W (RetV (.bool true) W)) := Lib.hid (fun W => by rw [← h2]; exact s_l01Digit _ W)
                have HQ : Hid (nmB s[k] = true) := Lib.hid (by rw [HOR.out, h1, h2]; rfl)
                clear h1 h2
                go_wp2_with (first | (go_at_call 146; refine (H1.out _).mono ?_; rintro e w' ⟨rfl, rfl⟩) | (go_at_call 147; refine (H2.out _).mono ?_; rintro e w' ⟨rfl, rfl⟩))
                go_round
                case rel => exact ⟨k + 1, by omega, by go_num, by rw [HS.out, HT.out, HQ.out]; rfl⟩
                case measure => simp [intOf]; omega
              | false =>
                have H2 : Hid (∀ W, Calls Try.prog 147 #[.int .u8 (s[k].toNat : Int)] W (RetV (.bool false) W)) := Lib.hid (fun W => by rw [← h2]; exact s_l01Digit _ W)
                by_cases h3 : (s[k].toNat : Int) = 45
                · have HQ : Hid (nmB s[k] = true) := Lib.hid (by rw [HOR.out, h1, h2]; simp [h3])
                  have z3 : ((s[k].toNat : Int) != 45) = false := by simp [h3]
                  clear h1 h2 h3
                  go_wp2_with (first | (go_at_call 146; refine (H1.out _).mono ?_; rintro e w' ⟨rfl, rfl⟩) | (go_at_call 147; refine (H2.out _).mono ?_; rintro e w' ⟨rfl, rfl⟩))
                  go_round
                  case rel => exact ⟨k + 1, by omega, by go_num, by rw [HS.out, HT.out, HQ.out]; rfl⟩
                  case measure => simp [intOf]; omega
                · have HQ : Hid ((bts s).all nmB = false) := Lib.hid (HF.out (by rw [HOR.out, h1, h2]; simp [h3]))
                  have z3 : ((s[k].toNat : Int) != 45) = true := by simp [h3]
                  clear h1 h2 h3
                  go_wp2_with (first | (go_at_call 146; refine (H1.out _).mono ?_; rintro e w' ⟨rfl, rfl⟩) | (go_at_call 147; refine (H2.out _).mono ?_; rintro e w' ⟨rfl, rfl⟩))
                  go_ret
                  exact RetV.mk (bool_eq (by rw [HV.out, HQ.out]))
          · go_wp2
            go_ret
            exact RetV.mk (bool_eq (by have h := HT.out; rw [take_all s k (by omega)] at h; rw [HV.out, h]))
end Go.Proofs.Ytnhmcmohnpbcjaa

/- Contracts: what a bond is: both sides. -/
namespace Go.Proofs.Ytnhmcmohnpbcjaa
open Go.RowKit
set_option linter.unusedSimpArgs false
set_option linter.unusedVariables false
set_option linter.unnecessarySimpa false

theorem inL_whole (b : UInt8) : inL [83, 72] b = isWh b := by
  have h := forall_u8 (p := fun b => inL [83, 72] b == isWh b) (by decide +kernel) b
  exact eq_of_beq h
theorem crsB_eq (a b : ByteArray) : crsB (bts a) (bts b) = (decide (a.size ≤ 6) && ((bts a).all isPc && (inB b.size 1 8 && (bts b).all isWh))) := by unfold crsB; rw [bts_length, bts_length]
theorem i_onlyOf_all (s : ByteArray) (hs : s.size ≤ 9223372036854775807) (w : World) : Calls Try.prog 116 #[.string s, .string ⟨#[83, 72, 84, 66, 67]⟩] w (RetV (.bool ((bts s).all isPc)) w) := by
  have h := i_onlyOf s ⟨#[83, 72, 84, 66, 67]⟩ hs w
  rw [letters_bts] at h
  rwa [show inL [83, 72, 84, 66, 67] = isPc from funext inL_pieces] at h
theorem i_onlyOf_whole (s : ByteArray) (hs : s.size ≤ 9223372036854775807) (w : World) : Calls Try.prog 116 #[.string s, .string ⟨#[83, 72]⟩] w (RetV (.bool ((bts s).all isWh)) w) := by
  have h := i_onlyOf s ⟨#[83, 72]⟩ hs w
  rw [show bts ⟨#[83, 72]⟩ = [83, 72] from rfl] at h
  rwa [show inL [83, 72] = isWh from funext inL_whole] at h
set_option maxHeartbeats 800000 in
theorem i_ValidBond_1 (a b : ByteArray) (ha : a.size ≤ 9223372036854775807) (hb : b.size ≤ 9223372036854775807) (w : World) : Calls Try.prog 115 #[.agg #[.string a, .string b]] w (RetE (.bool (!crsB (bts a) (bts b))) w) := by
  have hv := crsB_eq a b
  have e0 : Ext w (w.alloc (.cells #[.string a, .string b] 151)) := (Ext.refl w).alloc _
  by_cases g1 : a.size ≤ 6
  · have g1' : ¬ (6 : Int) < (a.size : Int) := by omega
    rw [show decide (a.size ≤ 6) = true by simp [g1], Bool.true_and] at hv
    cases g2 : (bts a).all isPc with
    | false =>
      have HV : Hid ((!crsB (bts a) (bts b)) = true) := Lib.hid (by rw [hv, g2]; rfl)
      have H1 : Hid (∀ W, Calls Try.prog 116 #[.string a, .string ⟨#[83, 72, 84, 66, 67]⟩] W (RetV (.bool false) W)) := Lib.hid (fun W => by rw [← g2]; exact i_onlyOf_all a ha W)
      clear hv g2
      go_enter Try.func115, Try.ntmps115
      go_wp2_with (go_at_call 116; refine (H1.out _).mono ?_; rintro e w' ⟨rfl, rfl⟩)
      go_ret
      exact RetE.mk (bool_eq HV.out.symm) e0
    | true =>
      have H1 : Hid (∀ W, Calls Try.prog 116 #[.string a, .string ⟨#[83, 72, 84, 66, 67]⟩] W (RetV (.bool true) W)) := Lib.hid (fun W => by rw [← g2]; exact i_onlyOf_all a ha W)
      rw [g2, Bool.true_and] at hv
      clear g2
      cases g3 : inB b.size 1 8 with
      | false =>
        have HV : Hid ((!crsB (bts a) (bts b)) = true) := Lib.hid (by rw [hv, g3]; rfl)
        have H2 : Hid (∀ W, Calls Try.prog 79 #[.int .i64 b.size, .int .i64 1, .int .i64 8] W (RetV (.bool false) W)) := Lib.hid (fun W => by rw [← g3]; exact i_within _ _ _ W)
        clear hv g3
        go_enter Try.func115, Try.ntmps115
        go_wp2_with (first | (go_at_call 116; refine (H1.out _).mono ?_; rintro e w' ⟨rfl, rfl⟩) | (go_at_call 79; refine (H2.out _).mono ?_; rintro e w' ⟨rfl, rfl⟩))
        go_ret
        exact RetE.mk (bool_eq HV.out.symm) e0
      | true =>
        have H2 : Hid (∀ W, Calls Try.prog 79 #[.int .i64 b.size, .int .i64 1, .int .i64 8] W (RetV (.bool true) W)) := Lib.hid (fun W => by rw [← g3]; exact i_within _ _ _ W)
        rw [g3, Bool.true_and] at hv
        clear g3
        cases g4 : (bts b).all isWh
        all_goals
          have H3 := Lib.hid (fun W => i_onlyOf_whole b hb W)
          rw [g4] at hv H3
          have HV := Lib.hid hv
          clear hv g4
          go_enter Try.func115, Try.ntmps115
          go_wp2_with (first | (go_at_call_of 116 (Value.string ⟨#[83, 72, 84, 66, 67]⟩); refine (H1.out _).mono ?_; rintro e w' ⟨rfl, rfl⟩) | (go_at_call 79; refine (H2.out _).mono ?_; rintro e w' ⟨rfl, rfl⟩) | (go_at_call_of 116 (Value.string ⟨#[83, 72]⟩); refine (H3.out _).mono ?_; rintro e w' ⟨rfl, rfl⟩))
          go_ret
          exact RetE.mk (bool_eq (by rw [HV.out]; rfl)) e0
  · have g1' : (6 : Int) < (a.size : Int) := by omega
    have HV : Hid ((!crsB (bts a) (bts b)) = true) := Lib.hid (by rw [hv]; simp [g1])
    clear hv
    go_enter Try.func115, Try.ntmps115
    go_wp2
    go_ret
    exact RetE.mk (bool_eq HV.out.symm) e0
def crsV (c : Crs) : Value := .agg #[.string c.lead, .string c.cyc]
theorem f_IndexFunc_crs (F : Nat) (caps : Array Value) (p : Crs → Bool) (ao : Option Addr) (n c : Nat) (xs : List Crs) (w : World) (hx : Crss w ao n xs)
    (eg : ∀ args w', (callFunc F args).run Try.prog w' = .ok (.enter F args) w')
    (hp : ∀ x w', x ∈ xs → Ext w w' → Calls Try.prog F (#[crsV x] ++ caps) w' (RetE (.bool (p x)) w')) :
    Calls Try.prog 148 #[.slice ao n c, .func (.func F) #[] caps] w (fun e w' => (∃ i : Int, e = .returned (.int .i64 i) ∧ (decide (0 ≤ i)) = xs.any p) ∧ Ext w w') := by
  obtain ⟨hxl, hxm, hxc, hxi⟩ := hx
  go_enter Try.func148, Try.ntmps148
  go_wp2
  go_loopw [8] (fun i wr => ∃ k : Nat, k ≤ n ∧ i = .int .i64 k ∧ (xs.take k).any p = false ∧ Ext w wr) (fun i _ => n - (intOf i).toNat)
  case atStart => exact ⟨0, Nat.zero_le _, rfl, by simp, Ext.refl _⟩
  case round =>
    obtain ⟨k, hk, rfl, htk, er⟩ := hrel
    have HT := Lib.hid htk; clear htk
    by_cases hlt : k < n
    · obtain ⟨b, off, rfl, c0, c1⟩ := hxc k hlt
      obtain ⟨x, hxk⟩ : ∃ x, xs.getD k default = x := ⟨_, rfl⟩
      rw [hxk] at c0 c1
      have hkx : k < xs.length := by omega
      rw [List.getD_eq_getElem?_getD, List.getElem?_eq_getElem hkx, Option.getD_some] at hxk
      have hxm2 : x ∈ xs := by rw [← hxk]; exact List.getElem_mem _
      have HX := Lib.hid hxk
      have HP := Lib.hid (fun w' e => hp x w' hxm2 e)
      have HA : Hid (p x = true → xs.any p = true) := Lib.hid (fun h => by rw [List.any_eq_true]; exact ⟨x, hxm2, h⟩)
      have HB : Hid (p x = false → (xs.take (k + 1)).any p = false) := Lib.hid (fun h => by
        rw [List.take_succ_eq_append_getElem hkx, List.any_append, HT.out, HX.out]
        simp [h])
      obtain ⟨v, hv⟩ : ∃ v, p x = v := ⟨_, rfl⟩
      rw [hv] at HA HB HP
      obtain ⟨x1, x2⟩ := x
      have K0 := er.cell c0
      have K1 := er.cell c1
      clear c0 c1 hxc hxk hp hxm2 HX hv
      cases v with
      | true =>
        go_wp2_with (refine (HP.out _ er).mono ?_; rintro e w1 ⟨rfl, e1⟩)
        go_ret
        refine ⟨⟨k, rfl, ?_⟩, er.trans e1⟩
        rw [show decide ((0 : Int) ≤ (k : Int)) = true from by simp, HA.out (by trivial)]
      | false =>
        go_wp2_with (refine (HP.out _ er).mono ?_; rintro e w1 ⟨rfl, e1⟩)
        go_roundw
        case rel => exact ⟨k + 1, by omega, by go_num, HB.out (by trivial), er.trans e1⟩
        case measure => simp [intOf]; omega
    · go_wp2
      go_ret
      refine ⟨⟨-1, rfl, ?_⟩, er⟩
      have h := HT.out
      rw [List.take_of_length_le (by omega)] at h
      rw [h]; rfl
theorem f_ContainsFunc_crs (F : Nat) (caps : Array Value) (p : Crs → Bool) (ao : Option Addr) (n c : Nat) (xs : List Crs) (w : World) (hx : Crss w ao n xs)
    (eg : ∀ args w', (callFunc F args).run Try.prog w' = .ok (.enter F args) w')
    (hp : ∀ x w', x ∈ xs → Ext w w' → Calls Try.prog F (#[crsV x] ++ caps) w' (RetE (.bool (p x)) w')) :
    Calls Try.prog 114 #[.slice ao n c, .func (.func F) #[] caps] w (RetE (.bool (xs.any p)) w) := by
  have HI := Lib.hid (f_IndexFunc_crs F caps p ao n c xs w hx eg hp)
  clear hp
  go_enter Try.func114, Try.ntmps114
  go_wp2_with (go_at_call 148; refine HI.out.mono ?_; rintro e w1 ⟨⟨i, rfl, hi⟩, e1⟩; have HJ := Lib.hid hi; clear hi)
  go_ret
  exact RetE.mk (bool_eq HJ.out) e1
theorem bondB_eq (nm : ByteArray) (cs : List Crs) (n : Nat) (h : cs.length = n) : bondB (bts nm) cs = (nameB (bts nm) && (inB n 1 8 && !(cs.any fun c => !crsOk c))) := by
  unfold bondB
  rw [h]
  congr 2
  rw [List.all_eq_not_any_not]
theorem enters_ValidBond1 : ∀ args w, (callFunc 115 args).run Try.prog w = .ok (.enter 115 args) w := enters_of Try.func115 (by kernel_rfl) rfl
set_option maxHeartbeats 800000 in
theorem i_ValidBond (nm : ByteArray) (ao : Option Addr) (n c : Nat) (cs : List Crs) (w : World) (hn : nm.size ≤ 9223372036854775807) (hx : Crss w ao n cs) :
    Calls Try.prog 78 #[.agg #[.string nm, .slice ao n c]] w (RetE (.bool (bondB (bts nm) cs)) w) := by
  have hB := bondB_eq nm cs n hx.1
  have e0 : Ext w (w.alloc (.cells #[.string nm, .slice ao n c] 66)) := (Ext.refl w).alloc _
  have HN := Lib.hid (fun W => i_IsName nm hn W)
  have HX := Lib.hid hx
  cases g1 : nameB (bts nm) with
  | false =>
    rw [g1] at HN hB
    have HV := Lib.hid hB
    clear hB g1 hx
    go_enter Try.func78, Try.ntmps78
    go_wp2_with (go_at_call 113; refine (HN.out _).mono ?_; rintro e w' ⟨rfl, rfl⟩)
    go_ret
    exact RetE.mk (bool_eq HV.out.symm) e0
  | true =>
    rw [g1] at HN hB
    have HW := Lib.hid (fun W => i_within n 1 8 W)
    cases g2 : inB n 1 8 with
    | false =>
      rw [g2] at HW hB
      have HV := Lib.hid hB
      clear hB g1 g2 hx
      go_enter Try.func78, Try.ntmps78
      go_wp2_with (first | (go_at_call 113; refine (HN.out _).mono ?_; rintro e w' ⟨rfl, rfl⟩) | (go_at_call 79; refine (HW.out _).mono ?_; rintro e w' ⟨rfl, rfl⟩))
      go_ret
      exact RetE.mk (bool_eq HV.out.symm) e0
    | true =>
      rw [g2] at HW hB
      have HC := Lib.hid (fun W (e : Ext w W) => f_ContainsFunc_crs 115 #[] (fun c => !crsOk c) ao n c cs W (hx.ext e) enters_ValidBond1 (fun x w' hm e' => i_ValidBond_1 x.lead x.cyc (hx.2.2.2 x hm).1 (hx.2.2.2 x hm).2 w'))
      have HV := Lib.hid hB
      clear hB g1 g2 hx
      go_enter Try.func78, Try.ntmps78
      go_wp2_with (first | (go_at_call 113; refine (HN.out _).mono ?_; rintro e w' ⟨rfl, rfl⟩) | (go_at_call 79; refine (HW.out _).mono ?_; rintro e w' ⟨rfl, rfl⟩) | (go_at_call 114; refine (HC.out _ e0).mono ?_; rintro e w1 ⟨rfl, e1⟩))
      go_ret
      exact RetE.mk (bool_eq (by rw [HV.out]; rfl)) (e0.trans e1)
set_option maxHeartbeats 800000 in
theorem s_l04Plain (s : ByteArray) (hs : s.size ≤ 9223372036854775807) (w : World) : Calls Try.prog 145 #[.string s] w (RetV (.bool ((bts s).all isWh)) w) := by
  go_enter Try.func145, Try.ntmps145
  go_wp2
  go_loop [3] (fun i => ∃ k : Nat, k ≤ s.size ∧ i = .int .i64 k ∧ ((bts s).take k).all isWh = true) (fun i => s.size - (intOf i).toNat)
  case atStart => exact ⟨0, Nat.zero_le _, rfl, rfl⟩
  case round =>
    obtain ⟨k, hk, rfl, ht⟩ := hrel
    have HT := Lib.hid ht
    clear ht
    by_cases hlt : k < s.size
    · obtain ⟨hkl, hb⟩ := byte_at s k hlt
      have hsucc := all_take_succ (p := isWh) hkl
      have hf := all_false_of (p := isWh) hkl
      rw [hb] at hsucc hf
      have HS := Lib.hid hsucc
      have HF := Lib.hid hf
      clear hsucc hf hb
      by_cases h1 : (s[k].toNat : Int) = 83
      · have HQ : Hid (isWh s[k] = true) := Lib.hid (by unfold isWh; rw [decide_eq_true_eq]; left; omega)
        go_wp2
        go_round
        case rel => exact ⟨k + 1, by omega, by go_num, by rw [HS.out, HT.out, HQ.out]; rfl⟩
        case measure => simp [intOf]; omega
      · have z1 : ((s[k].toNat : Int) != 83) = true := by simp [h1]
        by_cases h2 : (s[k].toNat : Int) = 72
        · have HQ : Hid (isWh s[k] = true) := Lib.hid (by unfold isWh; rw [decide_eq_true_eq]; right; omega)
          go_wp2
          all_goals first
            | (exfalso; simp only [bne_iff_ne, ne_eq, bne_eq_false_iff_eq] at *; omega)
            | skip
          go_round
          case rel => first | exact ⟨k + 1, by omega, by go_num, by rw [HS.out, HT.out, HQ.out]; rfl⟩ | ((repeat apply Exists.intro); exact ⟨⟨k + 1, by omega, by go_num, by rw [HS.out, HT.out, HQ.out]; rfl⟩, rfl⟩)
          case measure => simp [intOf]; omega
        · have HQ : Hid ((bts s).all isWh = false) := Lib.hid (HF.out (by unfold isWh; rw [decide_eq_false_iff_not]; omega))
          go_wp2
          all_goals first
            | (exfalso; simp only [bne_iff_ne, ne_eq, bne_eq_false_iff_eq] at *; omega)
            | skip
          go_ret
          exact RetV.mk (bool_eq HQ.out.symm)
    · go_wp2
      go_ret
      exact RetV.mk (bool_eq (by have h := HT.out; rw [take_all s k (by omega)] at h; exact h.symm))
set_option maxHeartbeats 800000 in
theorem s_l04Course (a b : ByteArray) (ha : a.size ≤ 9223372036854775807) (hb : b.size ≤ 9223372036854775807) (w : World) : Calls Try.prog 107 #[.agg #[.string a, .string b]] w (RetE (.bool (crsB (bts a) (bts b))) w) := by
  have hv := crsB_eq a b
  have e0 : Ext w (w.alloc (.cells #[.string a, .string b] 151)) := (Ext.refl w).alloc _
  by_cases g1 : a.size ≤ 6
  · have g1' : (a.size : Int) ≤ 6 := by omega
    rw [show decide (a.size ≤ 6) = true by simp [g1], Bool.true_and] at hv
    cases g2 : (bts a).all isPc with
    | false =>
      have HV : Hid (crsB (bts a) (bts b) = false) := Lib.hid (by rw [hv, g2]; rfl)
      have H1 : Hid (∀ W, Calls Try.prog 126 #[.string a] W (RetV (.bool false) W)) := Lib.hid (fun W => by rw [← g2]; exact s_l04Pieces a ha W)
      clear hv g2
      go_enter Try.func107, Try.ntmps107
      go_wp2_with (go_at_call 126; refine (H1.out _).mono ?_; rintro e w' ⟨rfl, rfl⟩)
      go_ret
      exact RetE.mk (bool_eq HV.out.symm) e0
    | true =>
      have H1 : Hid (∀ W, Calls Try.prog 126 #[.string a] W (RetV (.bool true) W)) := Lib.hid (fun W => by rw [← g2]; exact s_l04Pieces a ha W)
      rw [g2, Bool.true_and] at hv
      clear g2
      cases g3 : inB b.size 1 8 with
      | false =>
        have HV : Hid (crsB (bts a) (bts b) = false) := Lib.hid (by rw [hv, g3]; rfl)
        have H2 : Hid (∀ W, Calls Try.prog 86 #[.int .i64 b.size, .int .i64 1, .int .i64 8] W (RetV (.bool false) W)) := Lib.hid (fun W => by rw [← g3]; exact s_l00In _ _ _ W)
        clear hv g3
        go_enter Try.func107, Try.ntmps107
        go_wp2_with (first | (go_at_call 126; refine (H1.out _).mono ?_; rintro e w' ⟨rfl, rfl⟩) | (go_at_call 86; refine (H2.out _).mono ?_; rintro e w' ⟨rfl, rfl⟩))
        go_ret
        exact RetE.mk (bool_eq HV.out.symm) e0
      | true =>
        have H2 : Hid (∀ W, Calls Try.prog 86 #[.int .i64 b.size, .int .i64 1, .int .i64 8] W (RetV (.bool true) W)) := Lib.hid (fun W => by rw [← g3]; exact s_l00In _ _ _ W)
        rw [g3, Bool.true_and] at hv
        clear g3
        have H3 := Lib.hid (fun W => s_l04Plain b hb W)
        have HV := Lib.hid hv
        clear hv
        go_enter Try.func107, Try.ntmps107
        go_wp2_with (first | (go_at_call 126; refine (H1.out _).mono ?_; rintro e w' ⟨rfl, rfl⟩) | (go_at_call 86; refine (H2.out _).mono ?_; rintro e w' ⟨rfl, rfl⟩) | (go_at_call 145; refine (H3.out _).mono ?_; rintro e w' ⟨rfl, rfl⟩))
        go_ret
        exact RetE.mk (bool_eq HV.out.symm) e0
  · have g1' : ¬ (a.size : Int) ≤ 6 := by omega
    have HV : Hid (crsB (bts a) (bts b) = false) := Lib.hid (by rw [hv]; simp [g1])
    clear hv
    go_enter Try.func107, Try.ntmps107
    go_wp2
    go_ret
    exact RetE.mk (bool_eq HV.out.symm) e0
theorem bondB_eq2 (nm : ByteArray) (cs : List Crs) (n : Nat) (h : cs.length = n) : bondB (bts nm) cs = (nameB (bts nm) && (inB n 1 8 && cs.all crsOk)) := by unfold bondB; rw [h]
set_option maxHeartbeats 800000 in
theorem s_l04Ok (pb : Nat) (nm : ByteArray) (ao : Option Addr) (n c : Nat) (cs : List Crs) (w : World) (hB : Two w pb (.string nm) (.slice ao n c)) (hn : nm.size ≤ 9223372036854775807) (hx : Crss w ao n cs) :
    Calls Try.prog 73 #[.pointer (some ⟨pb, 0, none⟩)] w (RetE (.bool (bondB (bts nm) cs)) w) := by
  have HV := Lib.hid (bondB_eq2 nm cs n hx.1)
  have HN := Lib.hid (fun W => s_IsName nm hn W)
  have HW := Lib.hid (fun W => s_l00In n 1 8 W)
  have HB := Lib.hid hB
  obtain ⟨hxl, hxm, hxc, hxi⟩ := hx
  obtain ⟨q0, q1, q2⟩ := hB
  go_enter Try.func73, Try.ntmps73
  go_wp2
  clear q0 q1 q2
  go_loopw [3] (fun i wr => ∃ k : Nat, k ≤ n ∧ i = .int .i64 k ∧ (cs.take k).all crsOk = true ∧ Ext w wr) (fun i _ => n - (intOf i).toNat)
  case atStart => exact ⟨0, Nat.zero_le _, rfl, by simp, Ext.refl _⟩
  case round =>
    obtain ⟨k, hk, rfl, htk, er⟩ := hrel
    have HT := Lib.hid htk; clear htk
    obtain ⟨q0, q1, q2⟩ := HB.out.ext er
    by_cases hlt : k < n
    · obtain ⟨b, off, rfl, c0, c1⟩ := hxc k hlt
      obtain ⟨x, hxk⟩ : ∃ x, cs.getD k default = x := ⟨_, rfl⟩
      rw [hxk] at c0 c1
      have hkx : k < cs.length := by omega
      rw [List.getD_eq_getElem?_getD, List.getElem?_eq_getElem hkx, Option.getD_some] at hxk
      have hxm2 : x ∈ cs := by rw [← hxk]; exact List.getElem_mem _
      have hok := hxi x hxm2
      have HX := Lib.hid hxk
      have HC := Lib.hid (fun W => s_l04Course x.lead x.cyc hok.1 hok.2 W)
      have HA : Hid (crsOk x = false → cs.all crsOk = false) := Lib.hid (fun h => by rw [List.all_eq_false]; exact ⟨x, hxm2, by simp [h]⟩)
      have HD : Hid (crsOk x = true → (cs.take (k + 1)).all crsOk = true) := Lib.hid (fun h => by
        rw [List.take_succ_eq_append_getElem hkx, List.all_append, HT.out, HX.out]
        simp [h])
      have hcv : crsB (bts x.lead) (bts x.cyc) = crsOk x := rfl
      rw [hcv] at HC
      obtain ⟨v, hv⟩ : ∃ v, crsOk x = v := ⟨_, rfl⟩
      rw [hv] at HA HD HC
      obtain ⟨x1, x2⟩ := x
      have K0 := er.cell c0
      have K1 := er.cell c1
      clear c0 c1 hxc hxk hxm2 HX hv hcv hok
      cases v with
      | true =>
        go_wp2_with (go_at_call 107; refine (HC.out _).mono ?_; rintro e w1 ⟨rfl, e1⟩)
        go_roundw
        case rel => exact ⟨k + 1, by omega, by go_num, HD.out (by trivial), er.trans e1⟩
        case measure => simp [intOf]; omega
      | false =>
        go_wp2_with (go_at_call 107; refine (HC.out _).mono ?_; rintro e w1 ⟨rfl, e1⟩)
        go_ret
        exact RetE.mk (bool_eq (by rw [HV.out, HA.out (by trivial), Bool.and_false, Bool.and_false])) (er.trans e1)
    · have hall := HT.out
      rw [List.take_of_length_le (by omega)] at hall
      rw [hall, Bool.and_true] at HV
      clear hall
      cases g1 : nameB (bts nm) with
      | false =>
        rw [g1] at HN HV
        clear g1
        go_wp2_with (go_at_call 108; refine (HN.out _).mono ?_; rintro e w' ⟨rfl, rfl⟩)
        go_ret
        exact RetE.mk (bool_eq HV.out.symm) er
      | true =>
        rw [g1] at HN HV
        clear g1
        go_wp2_with (first | (go_at_call 108; refine (HN.out _).mono ?_; rintro e w' ⟨rfl, rfl⟩) | (go_at_call 86; refine (HW.out _).mono ?_; rintro e w' ⟨rfl, rfl⟩))
        go_ret
        exact RetE.mk (bool_eq (by rw [HV.out]; rfl)) er
/-- the code of a bond, a course and a length -/
def codeB (nm : List UInt8) (cs : List Crs) (k n : Int) : Int := if bondB nm cs = true then (if inB k 0 1000 = true ∧ inB n 1 200 = true then 0 else 2) else 1
end Go.Proofs.Ytnhmcmohnpbcjaa

/- Plans whose sides do not meet: the program's and the reference's answer. -/
import Derived.Test.YtchimcahfmkbdaaHouse10
namespace Go.Proofs.Ytchimcahfmkbdaa
open Go.RowKit
set_option linter.unusedSimpArgs false
set_option linter.unusedVariables false
set_option linter.unnecessarySimpa false

set_option maxRecDepth 100000 in
set_option maxHeartbeats 4000000 in
theorem i_IsSimple (ao : Option Addr) (n c : Nat) (xs : List Int) (s : ByteArray) (w : World) (hx : Ints w ao n xs) (hs : s.size ≤ 9223372036854775807) :
    Calls Try.prog 30 #[.agg #[.slice ao n c, .string s]] w (RetE (.tuple #[.bool (simpH xs (bts s) n), .int .i64 (sel (validH xs (bts s)) 0 1)]) w) := by
  have e0 : Ext w (w.alloc (.cells #[.slice ao n c, .string s] 27)) := (Ext.refl w).alloc _
  have HX := Lib.hid hx
  have HL := Lib.hid hx.1
  have hxm := hx.2.1
  clear hx
  obtain ⟨v, hv⟩ : ∃ v, validH xs (bts s) = v := ⟨_, rfl⟩
  have hA : simpH xs (bts s) n = (v && simpleP (ptH xs (bts s)) n) := by unfold simpH; rw [hv]
  rw [hv, hA]
  clear hA
  have HBX : Hid (v = true → s.size = n ∧ 4 ≤ n ∧ n ≤ 12 ∧ ∀ x ∈ xs, 8 ≤ x ∧ x ≤ 200) := Lib.hid (fun h => by have h1 := validH_bd (hv.trans h); have := HL.out; rw [bts_length] at h1; exact ⟨by omega, by omega, by omega, h1.2.2.1⟩)
  cases v
  · go_enter Try.func30, Try.ntmps30
    go_wp2_with (go_at_call 17; refine (i_ValidHouse _ _ _ _ _ _ (HX.out.ext e0) hs).mono ?_; rw [hv]; rintro e w1 ⟨rfl, e1⟩; obtain ⟨p0, p1, p2, p3, p4⟩ := two_cells (e1.block (heap_alloc_new w _)); have E1 := Lib.hid (e0.trans e1))
    go_ret2
    exact RetE.mk rfl E1.out
  · obtain ⟨g3, n4, n12, hb⟩ := HBX.out rfl
    have HB8 := Lib.hid hb
    obtain ⟨R, hR⟩ : ∃ R, simpleP (ptH xs (bts s)) n = R := ⟨_, rfl⟩
    have HHit : Hid (∀ i k, i < n → k < n → hitP (ptH xs (bts s)) n i k = true → R = false) := Lib.hid (fun i k hi hk h => hR.symm.trans (simple_hit hi hk h))
    have HNone : Hid ((∀ i, i < n → ∀ k, k < n → hitP (ptH xs (bts s)) n i k = false) → R = true) := Lib.hid (fun h => hR.symm.trans (simple_none h))
    have HLow : Hid (∀ i k, ¬ i + 2 ≤ k → hitP (ptH xs (bts s)) n i k = false) := Lib.hid (fun i k h => hit_low h)
    have HLast : Hid (∀ k, k + 1 = n → hitP (ptH xs (bts s)) n 0 k = false) := Lib.hid (fun k h => hit_last ⟨rfl, h⟩)
    have HMeet : Hid (∀ i k, i + 2 ≤ k → ¬ (i = 0 ∧ k + 1 = n) → hitP (ptH xs (bts s)) n i k = meetB (ptH xs (bts s) i) (ptH xs (bts s) (i + 1)) (ptH xs (bts s) k) (ptH xs (bts s) (k + 1))) := Lib.hid (fun i k h1 h2 => hit_meet h1 h2)
    rw [hR]
    clear hb hR
    go_enter Try.func30, Try.ntmps30
    go_wp2_with (go_at_call 17; refine (i_ValidHouse _ _ _ _ _ _ (HX.out.ext e0) hs).mono ?_; rw [hv]; rintro e w1 ⟨rfl, e1⟩; have A := (Two.new w (.slice ao n c) (.string s) 27).ext e1; have E1 := Lib.hid (e0.trans e1))
    go_region_held3 (fun W => Two W w.heap.size (.slice ao n c) (.string s) ∧ Ext w1 W) (first | exact ⟨A.ext (Ext.refl _).drew, (Ext.refl _).drew⟩ | exact keepT1 (by assumption) (by assumption)) ((go_at_call 58; refine (i_corners _ _ _ _ _ _ ?_ g3 n12 HB8.out).mono ?_; exact HX.out.ext (E1.out.trans (heldT1 (by assumption))); rintro e w2 ⟨a2, c2, rfl, o2, e2⟩; rw [ptsH_len] at o2 ⊢; have HP := Lib.hid o2.pts; clear o2))
    have hS := (by assumption : Two w2 w.heap.size (.slice ao n c) (.string s) ∧ Ext w1 w2)
    have E2 := Lib.hid (E1.out.trans hS.2)
    obtain ⟨pg, rfl, hp⟩ := HP.out.uni (Nat.succ_pos n)
    have HPA := Lib.hid hp
    clear hp hS A e2 HP
    go_wp2
    go_loopw [17] (fun v wr => ∃ i : Nat, i ≤ n ∧ v = .int .i64 i ∧ Hid (∀ i', i' < i → ∀ k, k < n → hitP (ptH xs (bts s)) n i' k = false) ∧ Hid (Ext w2 wr)) (fun v _ => n - (intOf v).toNat)
    case atStart => exact ⟨0, Nat.zero_le _, rfl, Lib.hid (fun i' h => absurd h (Nat.not_lt_zero _)), Lib.hid (Ext.refl _)⟩
    case round =>
      obtain ⟨i, hi, rfl, HN, HER⟩ := hrel
      by_cases hlt : i < n
      · obtain ⟨g0, d0, d1, d2⟩ := HPA.out i (by omega)
        obtain ⟨g1, d3, d4, d5⟩ := HPA.out (i + 1) (by omega)
        rw [ptsH_at _ _ _ _ (by omega)] at d1 d2 d4 d5
        have HI0 := Lib.hid (show PtC w2 g0 (ptH xs (bts s) i) from ⟨d1, d2⟩)
        have HI1 := Lib.hid (show PtC w2 g1 (ptH xs (bts s) (i + 1)) from ⟨d4, d5⟩)
        have HD0 := Lib.hid d0
        have HD3 := Lib.hid d3
        clear d0 d1 d2 d3 d4 d5
        go_wp2
        obtain ⟨wo, rfl⟩ : ∃ wo : World, wo = wr := ⟨_, rfl⟩
        go_loopw [7] (fun v wi => ∃ k : Nat, i + 2 ≤ k ∧ k ≤ n + 1 ∧ v = .int .i64 k ∧ Hid (∀ k', k' < k → k' < n → hitP (ptH xs (bts s)) n i k' = false) ∧ Hid (Ext w2 wi)) (fun v _ => n + 1 - (intOf v).toNat)
        case atStart => exact ⟨i + 2, Nat.le_refl _, by omega, by go_num, Lib.hid (fun k' h1 h2 => HLow.out i k' (by omega)), HER⟩
        case round =>
          obtain ⟨k, hk1, hk2, rfl, HK, HEI⟩ := hrel
          by_cases hkn : k < n
          · obtain ⟨g2, d0, d1, d2⟩ := HPA.out k (by omega)
            obtain ⟨g3', d3, d4, d5⟩ := HPA.out (k + 1) (by omega)
            rw [ptsH_at _ _ _ _ (by omega)] at d1 d2 d4 d5
            have HK0 := Lib.hid (PtC.ext (show PtC w2 g2 (ptH xs (bts s) k) from ⟨d1, d2⟩) HEI.out)
            have HK1 := Lib.hid (PtC.ext (show PtC w2 g3' (ptH xs (bts s) (k + 1)) from ⟨d4, d5⟩) HEI.out)
            have HI0' := Lib.hid (HI0.out.ext HEI.out)
            have HI1' := Lib.hid (HI1.out.ext HEI.out)
            have q0 := HEI.out.cell HD0.out
            have q1 := HEI.out.cell HD3.out
            have q2 := HEI.out.cell d0
            have q3 := HEI.out.cell d3
            clear d0 d1 d2 d3 d4 d5
            by_cases hg : i = 0 ∧ k + 1 = n
            · obtain ⟨rfl, hkn1⟩ := hg
              have HN2 := Lib.hid (HLast.out k hkn1)
              have hr0 : Int.tmod ((k : Int) + 1) n = 0 := by rw [show (k : Int) + 1 = n by omega]; exact Int.tmod_self
              have hr1 : ((k : Int) + 1) % n = 0 := by rw [show (k : Int) + 1 = n by omega]; exact Int.emod_self
              go_upto_region 10 with fail
              go_quiet (fail)
              go_wp2
              go_roundw
              case rel => exact ⟨k + 1, by omega, by omega, by go_num, Lib.hid (fun k' h1 h2 => by rcases Nat.lt_or_eq_of_le (Nat.le_of_lt_succ h1) with h | rfl; exact HK.out k' h h2; exact HN2.out), Lib.hid (HEI.out.drewN _)⟩
              case measure => (simp [intOf] <;> omega)
            · have hme := HMeet.out i k hk1 hg
              obtain ⟨mb, hmb⟩ : ∃ b, meetB (ptH xs (bts s) i) (ptH xs (bts s) (i + 1)) (ptH xs (bts s) k) (ptH xs (bts s) (k + 1)) = b := ⟨_, rfl⟩
              rw [hmb] at hme
              have HM := Lib.hid hme
              have HC := Lib.hid (fun q => i_meet g0 g1 g2 g3' _ _ _ _ (wr.drewN q) (HI0'.out.drewN q) (HI1'.out.drewN q) (HK0.out.drewN q) (HK1.out.drewN q))
              rw [hmb] at HC
              clear hme hmb
              have hr0 : (Int.tmod ((k : Int) + 1) n != (i : Int)) = true := by
                rw [Int.tmod_eq_emod_of_nonneg (by omega), bne_iff_ne]
                intro h
                rcases Nat.lt_or_eq_of_le (show k + 1 ≤ n by omega) with h2 | h2
                · rw [Int.emod_eq_of_lt (by omega) (by omega)] at h; omega
                · rw [show (k : Int) + 1 = n by omega, Int.emod_self] at h; exact hg ⟨by omega, h2⟩
              have hr1 : (((k : Int) + 1) % n != (i : Int)) = true := by rw [← Int.tmod_eq_emod_of_nonneg (by omega)]; exact hr0
              clear hg
              cases mb
              case false =>
                go_upto_region 10 with fail
                go_quiet ((go_at_call 69; exact Calls.quiet_of (HC.out _)))
                go_wp2
                go_roundw
                case rel => exact ⟨k + 1, by omega, by omega, by go_num, Lib.hid (fun k' h1 h2 => by rcases Nat.lt_or_eq_of_le (Nat.le_of_lt_succ h1) with h | rfl; exact HK.out k' h h2; exact HM.out), Lib.hid (HEI.out.drewN _)⟩
                case measure => (simp [intOf] <;> omega)
              case true =>
                have HRF := Lib.hid (HHit.out _ k hlt hkn HM.out)
                go_upto_region 10 with fail
                go_quiet ((go_at_call 69; exact Calls.quiet_of (HC.out _)))
                go_wp2
                go_ret2
                exact RetE.mk (by rw [HRF.out]; rfl) (E2.out.trans (HEI.out.drewN _))
          · go_wp2
            go_roundw
            case rel => exact ⟨i + 1, by omega, by go_num, Lib.hid (fun i' h1 k' h2 => by rcases Nat.lt_or_eq_of_le (Nat.le_of_lt_succ h1) with h | rfl; exact HN.out i' h k' h2; exact HK.out k' (by omega) h2), HEI⟩
            case measure => (simp [intOf] <;> omega)
      · obtain rfl : i = n := by omega
        have HRT := Lib.hid (HNone.out HN.out)
        go_wp2
        go_ret2
        exact RetE.mk (by rw [HRT.out]; rfl) (E2.out.trans HER.out)
set_option maxRecDepth 100000 in
set_option maxHeartbeats 4000000 in
theorem s_IsSimple (ao : Option Addr) (n c : Nat) (xs : List Int) (s : ByteArray) (w : World) (hx : Ints w ao n xs) (hs : s.size ≤ 9223372036854775807) :
    Calls Try.prog 29 #[.agg #[.slice ao n c, .string s]] w (RetE (.tuple #[.bool (simpH xs (bts s) n), .int .i64 (sel (validH xs (bts s)) 0 1)]) w) := by
  have e0 : Ext w (w.alloc (.cells #[.slice ao n c, .string s] 27)) := (Ext.refl w).alloc _
  have HX := Lib.hid hx
  have HL := Lib.hid hx.1
  have hxm := hx.2.1
  clear hx
  obtain ⟨v, hv⟩ : ∃ v, validH xs (bts s) = v := ⟨_, rfl⟩
  have hA : simpH xs (bts s) n = (v && simpleP (ptH xs (bts s)) n) := by unfold simpH; rw [hv]
  rw [hv, hA]
  clear hA
  have HBX : Hid (v = true → s.size = n ∧ 4 ≤ n ∧ n ≤ 12 ∧ ∀ x ∈ xs, 8 ≤ x ∧ x ≤ 200) := Lib.hid (fun h => by have h1 := validH_bd (hv.trans h); have := HL.out; rw [bts_length] at h1; exact ⟨by omega, by omega, by omega, h1.2.2.1⟩)
  cases v
  · go_enter Try.func29, Try.ntmps29
    go_wp2_with (go_at_call 52; refine (s_l07Ok _ _ _ _ _ _ _ (Two.new w _ _ _) (HX.out.ext e0) hs).mono ?_; rw [hv]; rintro e w1 ⟨rfl, e1⟩; have E1 := Lib.hid (e0.trans e1))
    go_ret2
    exact RetE.mk rfl E1.out
  · obtain ⟨g3, n4, n12, hb⟩ := HBX.out rfl
    have HB8 := Lib.hid hb
    obtain ⟨R, hR⟩ : ∃ R, simpleP (ptH xs (bts s)) n = R := ⟨_, rfl⟩
    have HHit : Hid (∀ i k, i < n → k < n → hitP (ptH xs (bts s)) n i k = true → R = false) := Lib.hid (fun i k hi hk h => hR.symm.trans (simple_hit hi hk h))
    have HNone : Hid ((∀ i, i < n → ∀ k, k < n → hitP (ptH xs (bts s)) n i k = false) → R = true) := Lib.hid (fun h => hR.symm.trans (simple_none h))
    have HLow : Hid (∀ i k, ¬ i + 2 ≤ k → hitP (ptH xs (bts s)) n i k = false) := Lib.hid (fun i k h => hit_low h)
    have HLast : Hid (∀ k, k + 1 = n → hitP (ptH xs (bts s)) n 0 k = false) := Lib.hid (fun k h => hit_last ⟨rfl, h⟩)
    have HMeet : Hid (∀ i k, i + 2 ≤ k → ¬ (i = 0 ∧ k + 1 = n) → hitP (ptH xs (bts s)) n i k = meetB (ptH xs (bts s) i) (ptH xs (bts s) (i + 1)) (ptH xs (bts s) k) (ptH xs (bts s) (k + 1))) := Lib.hid (fun i k h1 h2 => hit_meet h1 h2)
    rw [hR]
    clear hb hR
    go_enter Try.func29, Try.ntmps29
    go_wp2_with (first | (go_at_call 52; refine (s_l07Ok _ _ _ _ _ _ _ (Two.new w _ _ _) (HX.out.ext e0) hs).mono ?_; rw [hv]; rintro e w1 ⟨rfl, e1⟩; have E1 := Lib.hid (e0.trans e1); have HT1 := Lib.hid ((Two.new w (.slice ao n c) (.string s) 27).ext e1)) | (go_at_call 60; refine (s_l07Points _ _ _ _ _ _ _ HT1.out (HX.out.ext E1.out) g3 n12 HB8.out).mono ?_; rintro e w2 ⟨a2, c2, rfl, o2, e2⟩; rw [ptsH_len] at o2 ⊢; have E2 := Lib.hid (E1.out.trans e2); have HP := Lib.hid o2.pts; have HT2 := Lib.hid (HT1.out.ext e2); obtain ⟨q0, q1, q2⟩ := HT2.out; clear o2))
    obtain ⟨pg, rfl, hp⟩ := HP.out.uni (Nat.succ_pos n)
    have HPA := Lib.hid hp
    clear hp HP q0 q1 q2
    go_loopw [6] (fun v wr => ∃ i : Nat, i ≤ n ∧ v = .int .i64 i ∧ Hid (∀ i', i' < i → ∀ k, k < n → hitP (ptH xs (bts s)) n i' k = false) ∧ Hid (Ext w2 wr)) (fun v _ => n - (intOf v).toNat)
    case atStart => exact ⟨0, Nat.zero_le _, rfl, Lib.hid (fun i' h => absurd h (Nat.not_lt_zero _)), Lib.hid (Ext.refl _)⟩
    case round =>
      obtain ⟨i, hi, rfl, HN, HER⟩ := hrel
      by_cases hlt : i < n
      · obtain ⟨g0, d0, d1, d2⟩ := HPA.out i (by omega)
        obtain ⟨g1, d3, d4, d5⟩ := HPA.out (i + 1) (by omega)
        rw [ptsH_at _ _ _ _ (by omega)] at d1 d2 d4 d5
        have HI0 := Lib.hid (show PtC w2 g0 (ptH xs (bts s) i) from ⟨d1, d2⟩)
        have HI1 := Lib.hid (show PtC w2 g1 (ptH xs (bts s) (i + 1)) from ⟨d4, d5⟩)
        have HD0 := Lib.hid d0
        have HD3 := Lib.hid d3
        clear d0 d1 d2 d3 d4 d5
        go_wp2
        obtain ⟨wo, rfl⟩ : ∃ wo : World, wo = wr := ⟨_, rfl⟩
        go_loopw [7] (fun v wi => ∃ k : Nat, i + 2 ≤ k ∧ k ≤ n + 1 ∧ v = .int .i64 k ∧ Hid (∀ k', k' < k → k' < n → hitP (ptH xs (bts s)) n i k' = false) ∧ Hid (Ext w2 wi)) (fun v _ => n + 1 - (intOf v).toNat)
        case atStart => exact ⟨i + 2, Nat.le_refl _, by omega, by go_num, Lib.hid (fun k' h1 h2 => HLow.out i k' (by omega)), HER⟩
        case round =>
          obtain ⟨k, hk1, hk2, rfl, HK, HEI⟩ := hrel
          by_cases hkn : k < n
          · obtain ⟨g2, d0, d1, d2⟩ := HPA.out k (by omega)
            obtain ⟨g3', d3, d4, d5⟩ := HPA.out (k + 1) (by omega)
            rw [ptsH_at _ _ _ _ (by omega)] at d1 d2 d4 d5
            have HK0 := Lib.hid (PtC.ext (show PtC w2 g2 (ptH xs (bts s) k) from ⟨d1, d2⟩) HEI.out)
            have HK1 := Lib.hid (PtC.ext (show PtC w2 g3' (ptH xs (bts s) (k + 1)) from ⟨d4, d5⟩) HEI.out)
            have HI0' := Lib.hid (HI0.out.ext HEI.out)
            have HI1' := Lib.hid (HI1.out.ext HEI.out)
            have q0 := HEI.out.cell HD0.out
            have q1 := HEI.out.cell HD3.out
            have q2 := HEI.out.cell d0
            have q3 := HEI.out.cell d3
            clear d0 d1 d2 d3 d4 d5
            by_cases hg : i = 0 ∧ k + 1 = n
            · obtain ⟨rfl, hkn1⟩ := hg
              have HN2 := Lib.hid (HLast.out k hkn1)
              have hr0 : ((k : Int) == (n : Int) - 1) = true := by rw [beq_iff_eq]; omega
              go_wp2
              go_roundw
              case rel => exact ⟨k + 1, by omega, by omega, by go_num, Lib.hid (fun k' h1 h2 => by rcases Nat.lt_or_eq_of_le (Nat.le_of_lt_succ h1) with h | rfl; exact HK.out k' h h2; exact HN2.out), HEI⟩
              case measure => (simp [intOf] <;> omega)
            · have hme := HMeet.out i k hk1 hg
              obtain ⟨mb, hmb⟩ : ∃ b, meetB (ptH xs (bts s) i) (ptH xs (bts s) (i + 1)) (ptH xs (bts s) k) (ptH xs (bts s) (k + 1)) = b := ⟨_, rfl⟩
              rw [hmb] at hme
              have HM := Lib.hid hme
              have HC := Lib.hid (fun q => s_l07Meet g0 g1 g2 g3' _ _ _ _ (wr.drewN q) (HI0'.out.drewN q) (HI1'.out.drewN q) (HK0.out.drewN q) (HK1.out.drewN q))
              rw [hmb] at HC
              clear hme hmb
              by_cases hi0 : i = 0
              · subst hi0
                have hr0 : ((k : Int) == (n : Int) - 1) = false := by rw [beq_eq_false_iff_ne]; omega
                clear hg
                cases mb
                case false =>
                  go_upto_region 12 with fail
                  go_quiet ((go_at_call 68; exact Calls.quiet_of (HC.out _)))
                  go_wp2
                  go_roundw
                  case rel => exact ⟨k + 1, by omega, by omega, by go_num, Lib.hid (fun k' h1 h2 => by rcases Nat.lt_or_eq_of_le (Nat.le_of_lt_succ h1) with h | rfl; exact HK.out k' h h2; exact HM.out), Lib.hid (HEI.out.drewN _)⟩
                  case measure => (simp [intOf] <;> omega)
                case true =>
                  have HRF := Lib.hid (HHit.out _ k hlt hkn HM.out)
                  go_upto_region 12 with fail
                  go_quiet ((go_at_call 68; exact Calls.quiet_of (HC.out _)))
                  go_wp2
                  go_ret2
                  exact RetE.mk (by rw [HRF.out]; rfl) (E2.out.trans (HEI.out.drewN _))
              · have hr0 : ((i : Int) == 0) = false := by rw [beq_eq_false_iff_ne]; omega
                clear hg
                cases mb
                case false =>
                  go_upto_region 12 with fail
                  go_quiet ((go_at_call 68; exact Calls.quiet_of (HC.out _)))
                  go_wp2
                  go_roundw
                  case rel => exact ⟨k + 1, by omega, by omega, by go_num, Lib.hid (fun k' h1 h2 => by rcases Nat.lt_or_eq_of_le (Nat.le_of_lt_succ h1) with h | rfl; exact HK.out k' h h2; exact HM.out), Lib.hid (HEI.out.drewN _)⟩
                  case measure => (simp [intOf] <;> omega)
                case true =>
                  have HRF := Lib.hid (HHit.out _ k hlt hkn HM.out)
                  go_upto_region 12 with fail
                  go_quiet ((go_at_call 68; exact Calls.quiet_of (HC.out _)))
                  go_wp2
                  go_ret2
                  exact RetE.mk (by rw [HRF.out]; rfl) (E2.out.trans (HEI.out.drewN _))
          · go_wp2
            go_roundw
            case rel => exact ⟨i + 1, by omega, by go_num, Lib.hid (fun i' h1 k' h2 => by rcases Nat.lt_or_eq_of_le (Nat.le_of_lt_succ h1) with h | rfl; exact HN.out i' h k' h2; exact HK.out k' (by omega) h2), HEI⟩
            case measure => (simp [intOf] <;> omega)
      · obtain rfl : i = n := by omega
        have HRT := Lib.hid (HNone.out HN.out)
        go_wp2
        go_ret2
        exact RetE.mk (by rw [HRT.out]; rfl) (E2.out.trans HER.out)
end Go.Proofs.Ytchimcahfmkbdaa

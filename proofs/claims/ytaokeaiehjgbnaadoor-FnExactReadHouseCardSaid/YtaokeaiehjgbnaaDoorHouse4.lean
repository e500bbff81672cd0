/- What makes a plan valid: the reference's side. -/
import Derived.Test.YtaokeaiehjgbnaaDoorHouse3
namespace Go.Proofs.YtaokeaiehjgbnaaDoor
open Go.RowKit
set_option linter.unusedSimpArgs false
set_option linter.unusedVariables false
set_option linter.unnecessarySimpa false

set_option maxRecDepth 100000 in
set_option maxHeartbeats 2000000 in
theorem s_l07Ok (pb : Nat) (ao : Option Addr) (n c : Nat) (xs : List Int) (s : ByteArray) (w : World) (hB : Two w pb (.slice ao n c) (.string s)) (hx : Ints w ao n xs) (hs : s.size ≤ 9223372036854775807) :
    Calls Tryd.prog 29 #[.pointer (some ⟨pb, 0, none⟩)] w (RetE (.bool (validH xs (bts s))) w) := by
  have hxm := hx.2.1
  have hxl := hx.1
  have HB := Lib.hid hB
  obtain ⟨A1, A2, A3⟩ := hB
  have HX := Lib.hid hx
  have HL := Lib.hid hxl
  have HNL := Lib.hid (validH_nlen (bts s) hxl)
  have HNT : Hid (s.size ≠ n → validH xs (bts s) = false) := Lib.hid (fun h => validH_ntxt (by rw [bts_length, hxl]; exact h))
  have HNS : Hid (∀ k, k < n → inB (xs.getD k 0) 8 200 = false → validH xs (bts s) = false) := Lib.hid (fun k hk h => validH_nside (bts s) (by omega) h)
  have HNB : Hid (∀ k (h : k < s.size), lrB (s[k]) = false → validH xs (bts s) = false) := Lib.hid (fun k hk h => validH_nlet xs (by rw [bts_length]; exact hk) (by rw [byte_get s k hk]; exact h))
  obtain ⟨b1, g1⟩ : ∃ b, inB (n : Int) 4 12 = b := ⟨_, rfl⟩
  cases b1
  · clear hx hxl
    have hv := HNL.out g1
    go_enter Tryd.func29, Tryd.ntmps29
    go_wp2_with (first | (go_at_call 45; refine (s_l00In _ _ _ _).mono ?_; rw [g1]; rintro e w' ⟨rfl, rfl⟩))
    go_ret
    exact RetE.mk (bool_eq hv.symm) (Ext.refl _)
  · have ⟨h1, h2⟩ := inB_iff.1 g1
    by_cases g3 : s.size = n
    case neg =>
      clear hx hxl
      have hv := Lib.hid (HNT.out g3)
      go_enter Tryd.func29, Tryd.ntmps29
      go_wp2_with (first | (go_at_call 45; refine (s_l00In _ _ _ _).mono ?_; rw [g1]; rintro e w' ⟨rfl, rfl⟩))
      go_ret
      exact RetE.mk (bool_eq hv.out.symm) (Ext.refl _)
    case pos =>
      have HEND : Hid ((∀ j, j < n → inB (xs.getD j 0) 8 200 = true ∧ lrB ((bts s).getD j 0) = true) → validH xs (bts s) = (decide (turnN (bts s) n = 4) && (decide ((ptH xs (bts s) n).1 = 0) && decide ((ptH xs (bts s) n).2 = 0)))) := Lib.hid (fun h => validH_end hxl (by rw [bts_length]; exact g3) g1 h)
      have HTS : Hid (∀ k (h : k < s.size), turnN (bts s) (k + 1) = turnN (bts s) k + if s[k] = 76 then 1 else -1) := Lib.hid (fun k hk => by rw [turnN_succ _ _ (by rw [bts_length]; exact hk), byte_get s k hk])
      have HBG := Lib.hid (byte_get s)
      have HTB : Hid (∀ k : Nat, -(k : Int) ≤ turnN (bts s) k ∧ turnN (bts s) k ≤ k) := Lib.hid (fun k => by
        unfold turnN
        have := cntL_le ((bts s).take k)
        have h2 : ((bts s).take k).length ≤ k := List.length_take_le _ _
        omega)
      have HT0 : Hid (turnN (bts s) 0 = 0) := Lib.hid (by unfold turnN cntL; simp)
      clear hx hxl
      go_enter Tryd.func29, Tryd.ntmps29
      go_wp2_with (first | (go_at_call 45; refine (s_l00In _ _ _ _).mono ?_; rw [g1]; rintro e w' ⟨rfl, rfl⟩))
      go_loop [4, 5] (fun t i => ∃ (k : Nat) (tv : Int), k ≤ n ∧ i = .int .i64 k ∧ t = .int .i64 tv ∧ Hid (turnN (bts s) k = tv) ∧ Hid (∀ j, j < k → inB (xs.getD j 0) 8 200 = true ∧ lrB ((bts s).getD j 0) = true)) (fun _ i => n - (intOf i).toNat)
      case atStart => exact ⟨0, 0, Nat.zero_le _, rfl, rfl, HT0, Lib.hid (fun j hj => absurd hj (Nat.not_lt_zero _))⟩
      case round =>
        obtain ⟨k, tv, hk, rfl, rfl, HTV, HG⟩ := hrel
        by_cases hlt : k < n
        · obtain ⟨bb, off, rfl, d0⟩ := HX.out.2.2.1 k hlt
          obtain ⟨sd, hsde⟩ : ∃ sd, xs.getD k 0 = sd := ⟨_, rfl⟩
          have hks : k < s.size := by omega
          have hst := HTS.out k hks
          have hbg := HBG.out k hks
          have htb := HTB.out k
          have hns := HNS.out k hlt
          have hnb := HNB.out k hks
          rw [hsde] at d0 hns
          obtain ⟨b, hidx⟩ : ∃ b, s[k] = b := ⟨_, rfl⟩
          rw [hidx] at hst hbg hnb
          rw [HTV.out] at htb hst
          have HSD := Lib.hid hsde
          have HST := Lib.hid hst
          have HBB := Lib.hid hbg
          have HN1 := Lib.hid hns
          have HN2 := Lib.hid hnb
          clear hsde hst hbg hns hnb
          obtain ⟨b2, g2⟩ : ∃ b, inB sd 8 200 = b := ⟨_, rfl⟩
          cases b2
          · have hv := Lib.hid (HN1.out g2)
            go_wp2_with (first | (go_at_call 45; refine (s_l00In _ _ _ _).mono ?_; rw [g2]; rintro e w' ⟨rfl, rfl⟩))
            go_ret
            exact RetE.mk (bool_eq hv.out.symm) (Ext.refl _)
          · by_cases h76 : b = 76
            · have t76 : ((b.toNat : Int) == 76) = true := u8_eqH (k := 76) (by decide) h76
              have HN : Hid (turnN (bts s) (k + 1) = tv + 1) := Lib.hid (by rw [HST.out, if_pos h76])
              have HG2 : Hid (∀ j, j < k + 1 → inB (xs.getD j 0) 8 200 = true ∧ lrB ((bts s).getD j 0) = true) := Lib.hid (fun j hj => by
                by_cases h : j < k
                · exact HG.out j h
                · obtain rfl : j = k := by omega
                  rw [HSD.out, HBB.out, h76]
                  exact ⟨g2, rfl⟩)
              clear h76
              go_wp2_with (first | (go_at_call 45; refine (s_l00In _ _ _ _).mono ?_; rw [g2]; rintro e w' ⟨rfl, rfl⟩))
              go_round
              case rel => exact ⟨k + 1, tv + 1, by omega, by go_num, rfl, HN, HG2⟩
              case measure => (simp [intOf] <;> omega)
            · have t76 : ((b.toNat : Int) == 76) = false := u8_ne (k := 76) (by decide) h76
              by_cases h82 : b = 82
              · have t82 : ((b.toNat : Int) == 82) = true := u8_eqH (k := 82) (by decide) h82
                have HN : Hid (turnN (bts s) (k + 1) = tv - 1) := Lib.hid (by rw [HST.out, if_neg h76]; omega)
                have HG2 : Hid (∀ j, j < k + 1 → inB (xs.getD j 0) 8 200 = true ∧ lrB ((bts s).getD j 0) = true) := Lib.hid (fun j hj => by
                  by_cases h : j < k
                  · exact HG.out j h
                  · obtain rfl : j = k := by omega
                    rw [HSD.out, HBB.out, h82]
                    exact ⟨g2, rfl⟩)
                clear h76 h82
                go_wp2_with (first | (go_at_call 45; refine (s_l00In _ _ _ _).mono ?_; rw [g2]; rintro e w' ⟨rfl, rfl⟩))
                go_round
                case rel => exact ⟨k + 1, tv - 1, by omega, by go_num, rfl, HN, HG2⟩
                case measure => (simp [intOf] <;> omega)
              · have t82 : ((b.toNat : Int) == 82) = false := u8_ne (k := 82) (by decide) h82
                have hv := Lib.hid (HN2.out (by unfold lrB; simp [h76, h82]))
                clear h76 h82
                go_wp2_with (first | (go_at_call 45; refine (s_l00In _ _ _ _).mono ?_; rw [g2]; rintro e w' ⟨rfl, rfl⟩))
                go_ret
                exact RetE.mk (bool_eq hv.out.symm) (Ext.refl _)
        · obtain rfl : k = n := by omega
          have HV := Lib.hid (HEND.out HG.out)
          have HBX : Hid (∀ x ∈ xs, 8 ≤ x ∧ x ≤ 200) := Lib.hid (fun x hx => by
            obtain ⟨i, hi, rfl⟩ := List.mem_iff_getElem.1 hx
            have := (HG.out i (by have := HL.out; omega)).1
            rw [List.getD_eq_getElem?_getD, List.getElem?_eq_getElem hi, Option.getD_some] at this
            exact inB_iff.1 this)
          go_wp2_with (first | (go_at_call 56; refine (s_l07Points _ _ _ _ _ _ _ HB.out HX.out g3 (by omega) HBX.out).mono ?_; rintro e w2 ⟨a2, c2, rfl, o2, e2⟩; rw [ptsH_len] at o2 ⊢; obtain ⟨pg, pi, rfl, d1, d2, d3⟩ := o2.pts.2 k (by omega); unfold slV at d1; rw [ptsH_at _ _ _ _ (Nat.le_refl _)] at d2 d3; obtain ⟨X, hX⟩ : ∃ X, (ptH xs (bts s) k).1 = X := ⟨_, rfl⟩; obtain ⟨Y, hY⟩ : ∃ Y, (ptH xs (bts s) k).2 = Y := ⟨_, rfl⟩; rw [hX] at d2; rw [hY] at d3; have E2 := Lib.hid e2; clear o2))
          all_goals
            go_ret
            exact RetE.mk (bool_eq (by rw [HV.out, HTV.out, hX, hY]; by_cases hT0 : tv = 4 <;> by_cases hX0 : X = 0 <;> by_cases hY0 : Y = 0 <;> simp_all)) E2.out
end Go.Proofs.YtaokeaiehjgbnaaDoor

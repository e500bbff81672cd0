/- For every two rows of bytes the law FnFrontPieces answers true: the pieces of the parts of a course are as long as the parts, and lintels reach beyond their openings on both sides. No condition. -/
import Derived.Test.YtnhmcmohnpbcjaaPieceW
import Derived.Test.YtnhmcmohnpbcjaaGaFd
import Derived.Test.YtnhmcmohnpbcjaaLaid
import Derived.Test.YtnhmcmohnpbcjaaPartLaw
import Derived.Test.YtnhmcmohnpbcjaaOpenU
namespace Go.Proofs.Ytnhmcmohnpbcjaa
open Go.RowKit
set_option linter.unusedSimpArgs false
set_option linter.unusedVariables false
set_option linter.unnecessarySimpa false

set_option maxRecDepth 100000 in
set_option maxHeartbeats 4000000 in
theorem walk_FnFrontPieces (ao : Option Addr) (n c : Nat) (bs : List UInt8) (bo : Option Addr) (m d : Nat) (ds : List UInt8) (w : World) (hx : U8x w ao n bs) (hy : U8x w bo m ds) :
    Calls Try.prog 9 #[.slice ao n c, .slice bo m d] w fun e w' => e = .returned (.bool true) ∧ Below w.heap.size w w' := by
  have HLO := Lib.hid (fun W => l_a2Long ao bo n m c d W hx.2.1 hy.2.1)
  have hlong : longB n m = false → n ≤ 3000 ∧ m ≤ 3000 := fun h => by unfold longB at h; simp at h; omega
  cases hl : longB n m with
  | true =>
    rw [hl] at HLO
    clear hx hy hlong hl
    go_enter Try.func9, Try.ntmps9
    go_wp2_with (go_at_call 18; refine (HLO.out _).mono ?_; rintro e w' ⟨rfl, rfl⟩)
    go_ret
    exact ⟨rfl, Below.refl _ _⟩
  | false =>
    rw [hl] at HLO
    have ⟨hn, hm⟩ := hlong hl
    have HX := Lib.hid (hx.small (by omega))
    have HY := Lib.hid (hy.small (by omega))
    clear hx hy hlong hl hn hm
    go_enter Try.func9, Try.ntmps9
    go_wp2_with (go_at_call 18; refine (HLO.out _).mono ?_; rintro e w' ⟨rfl, rfl⟩)
    refine (s_A2Front ao n c bs w HX.out).mono ?_
    rintro e w1 ⟨L, C, os, a1, m1, c1, rfl, hv, hL, hC, ho, hop, hmc, e1⟩
    obtain ⟨⟨L1, _⟩, ⟨C1, _⟩, n8, hok⟩ := validF_bd hv
    obtain ⟨N, rfl⟩ := Int.eq_ofNat_of_zero_le (show 0 ≤ L by omega)
    obtain ⟨K, rfl⟩ := Int.eq_ofNat_of_zero_le (show 0 ≤ C by omega)
    have hl1 : os.length = m1 := hop.1
    have HW1 : Hid (Ext w (w1.alloc (.cells #[.int .i64 N, .int .i64 K, .slice a1 m1 c1] 30))) := Lib.hid (e1.alloc _)
    have HA : Hid (Three (w1.alloc (.cells #[.int .i64 N, .int .i64 K, .slice a1 m1 c1] 30)) w1.heap.size (.int .i64 N) (.int .i64 K) (.slice a1 m1 c1)) := Lib.hid (Three.new w1 _ _ _ _)
    have HO : Hid (Opens (w1.alloc (.cells #[.int .i64 N, .int .i64 K, .slice a1 m1 c1] 30)) a1 m1 os) := Lib.hid (hop.ext ((Ext.refl _).alloc _))
    have HV := Lib.hid hv
    have HMC := Lib.hid hmc
    have HL1 := Lib.hid hl1
    have hK9 : K ≤ 9 := by omega
    have hK1 : 1 ≤ K := by omega
    have hN30 : N ≤ 30 := by omega
    have hN1 : 1 ≤ N := by omega
    have hm8 : m1 ≤ 8 := by omega
    clear hv hL hC ho hop hmc e1 L1 C1 n8 hok hl1
    go_upto_region 4 with fail
    obtain ⟨W1, hW1⟩ : ∃ W, w1.alloc (.cells #[.int .i64 N, .int .i64 K, .slice a1 m1 c1] 30) = W := ⟨_, rfl⟩
    obtain ⟨b5, hb5⟩ : ∃ b, w1.heap.size = b := ⟨_, rfl⟩
    rw [hW1] at HA HO HW1 ⊢
    rw [hb5] at HA ⊢
    clear hW1 hb5
    go_wp2_with fail
    refine (s_A2Bond bo m d ds W1 (HY.out.ext HW1.out)).mono ?_
    rintro e w2 ⟨nm, cs, a2, c2, rfl, hbd, hnm, hcr, e2⟩
    have HBD := Lib.hid hbd
    have HNM : Hid (nm.size ≤ 9223372036854775807) := Lib.hid (by omega)
    obtain ⟨m2, hm2⟩ : ∃ q, cs.length = q := ⟨_, rfl⟩
    rw [hm2] at hcr ⊢
    have HE2 : Hid (Ext W1 (w2.alloc (.cells #[.string nm, .slice a2 m2 c2] 66))) := Lib.hid (e2.alloc _)
    have HB : Hid (Two (w2.alloc (.cells #[.string nm, .slice a2 m2 c2] 66)) w2.heap.size (.string nm) (.slice a2 m2 c2)) := Lib.hid (Two.new w2 _ _ _)
    have HCR : Hid (Crss (w2.alloc (.cells #[.string nm, .slice a2 m2 c2] 66)) a2 m2 cs) := Lib.hid (hcr.ext ((Ext.refl _).alloc _))
    clear e2 hbd hnm hcr hm2
    go_upto_region 5 with fail
    obtain ⟨W2, hW2⟩ : ∃ W, w2.alloc (.cells #[.string nm, .slice a2 m2 c2] 66) = W := ⟨_, rfl⟩
    obtain ⟨b6, hb6⟩ : ∃ b, w2.heap.size = b := ⟨_, rfl⟩
    rw [hW2] at HE2 HB HCR ⊢
    rw [hb6] at HB ⊢
    clear hW2 hb6
    obtain ⟨t0, t1, t2, _⟩ := HA.out.ext HE2.out
    go_wp2_with fail
    refine (l_a2At bo m d ds 7 K W2 (HY.out.ext (HW1.out.trans HE2.out)) (by omega) (by omega)).mono ?_
    rintro e w3 ⟨q, q0, q1, rfl, e3⟩
    have HE3 := Lib.hid (HE2.out.trans e3)
    have HE23 := Lib.hid e3
    clear e3 t0 t1 t2
    obtain ⟨t0, t1, t2, _⟩ := HA.out.ext HE3.out
    obtain ⟨hlc, hll⟩ := lf_code (q := q) HV.out HBD.out q0 (by omega) (by omega)
    have hcr0 : crC N K q os = 0 := by unfold crC; rw [if_pos HV.out, if_pos (by simp [inB]; omega)]
    have hpr : partsR N K q os = partsI N q os := by unfold partsR; rw [if_pos hcr0]
    have hPO := fun W h => s_PartsOf N K a1 m1 c1 os q W h
    have hLY := fun W h h2 => i_LayFront N K a1 m1 c1 os nm a2 m2 c2 cs q W h HMC.out HNM.out h2
    rw [hcr0, hpr] at hPO
    rw [hlc, hll] at hLY
    have hpb := parts_bd (c := q) (validF_bd HV.out).2.2.2
    have hp9 := Nat.le_trans (partsI_len N q os) (Nat.succ_le_succ (validF_bd HV.out).2.2.1)
    obtain ⟨ps, hps⟩ : ∃ ps, partsI (N : Int) q os = ps := ⟨_, rfl⟩
    rw [hps] at hPO hLY hpb hp9
    have hlat := lfT_at (ltrAt cs q) ps
    have hln := lfT_len (ltrAt cs q) ps
    obtain ⟨g1, g2, g3⟩ := bondB_bd HBD.out
    have hpart := fun k (h : 1 ≤ k) (h2 : k ≤ 40) => laid_part (f := ltrAt cs q) (fun i => ltrAt_pc g1 g3 q i) (n := k) h h2
    obtain ⟨ls, hls⟩ : ∃ s, lfT (ltrAt cs q) ps = s := ⟨_, rfl⟩
    obtain ⟨P, hP⟩ : ∃ P, ps.length = P := ⟨_, rfl⟩
    unfold RetPartsC at hPO
    unfold RetStrsC at hLY
    rw [hls] at hLY hlat hln
    rw [hP] at hPO hlat hln hp9
    rw [hln] at hLY
    have HPO := Lib.hid hPO
    have HLY := Lib.hid hLY
    have HPB := Lib.hid hpb
    have HLAT := Lib.hid hlat
    have HPART := Lib.hid hpart
    have HPL := Lib.hid hP
    clear hlc hll hcr0 hpr hPO hLY hpb hps hlat hln hpart hls hP g1 g2 g3
    go_wp2_with fail
    refine (HPO.out _ (HO.out.ext HE3.out)).mono ?_
    rintro e w4 ⟨a8, c8, rfl, ow4, e4⟩
    have HE4 := Lib.hid (HE3.out.trans e4)
    have HE24 := Lib.hid (HE23.out.trans e4)
    have HPA := Lib.hid ow4.parts
    clear e4 ow4 t0 t1 t2
    obtain ⟨t0, t1, t2, _⟩ := HA.out.ext HE4.out
    obtain ⟨u0, u1, _⟩ := HB.out.ext HE24.out
    go_wp2_with fail
    refine (HLY.out _ (HO.out.ext HE4.out) (HCR.out.ext HE24.out)).mono ?_
    rintro e w5 ⟨a10, c10, rfl, ow5, e5⟩
    have HE5 := Lib.hid (HE4.out.trans e5)
    have HPA5 := Lib.hid (HPA.out.ext e5)
    have HST := Lib.hid ow5.strs
    clear e5 ow5 t0 t1 t2 u0 u1 HPA
    go_wp2
    go_loopw [12] (fun i wr => ∃ k : Nat, k ≤ P ∧ i = .int .i64 k ∧ Hid (Ext w5 wr)) (fun i _ => P - (intOf i).toNat)
    case atStart => exact ⟨0, Nat.zero_le _, rfl, Lib.hid (Ext.refl _)⟩
    case round =>
      obtain ⟨k, hk, rfl, ER⟩ := hrel
      by_cases hlt : k < P
      · have hki : (k : Int) < (P : Int) := by omega
        have hPL := HPL.out
        have hmem : ps.getD k (0, 0) ∈ ps := by rw [List.getD_eq_getElem?_getD, List.getElem?_eq_getElem (show k < ps.length by omega), Option.getD_some]; exact List.getElem_mem _
        have hpb := HPB.out _ hmem
        have hla := HLAT.out k hlt
        obtain ⟨g, rfl, z0, z1⟩ := (HPA5.out.ext ER.out).2 k hlt
        obtain ⟨g2, f2, rfl, hc2⟩ := (HST.out.ext ER.out).2.2.1 k hlt
        rw [hla] at hc2
        obtain ⟨pq, hpq⟩ : ∃ pq, ps.getD k (0, 0) = pq := ⟨_, rfl⟩
        rw [hpq] at hpb z0 z1 hc2
        obtain ⟨p1, p2⟩ := pq
        dsimp only at hpb z0 z1 hc2
        obtain ⟨v1, v2, v3⟩ := HPART.out (p2 - p1) (by omega) (by omega)
        have hsz : (mkS (layT (ltrAt cs q) (p2 - p1))).size ≤ 9223372036854775807 := by rw [mkS_size]; omega
        have hCL := fun W => s_CourseLength (mkS (layT (ltrAt cs q) (p2 - p1))) hsz W
        rw [bts_mkS, v1, v2] at hCL
        unfold sel at hCL
        simp only [if_true] at hCL
        have HCL := Lib.hid hCL
        obtain ⟨s, hs⟩ : ∃ s, mkS (layT (ltrAt cs q) (p2 - p1)) = s := ⟨_, rfl⟩
        rw [hs] at hc2 HCL
        have hw1 : IntKind.i64.wrap (p2 - p1) = p2 - p1 := IntWalk.i64_in _ (by omega)
        have HZ0 := Lib.hid z0
        have HZ1 := Lib.hid z1
        clear hla hmem hpq hs hsz hCL v1 v2 v3 z0 z1
        go_wp2_with fail
        refine (HCL.out _).mono ?_
        rintro e w6 ⟨rfl, rfl⟩
        obtain ⟨α, hne, F, hK⟩ := cls_of wr
        have HK := Lib.hid hK
        have y0 := hK.cell HZ0.out
        have y1 := hK.cell HZ1.out
        clear hK hc2
        go_upto_region 14 with fail
        refine wp_region_cls F (by kernel_rfl) (by kernel_rfl) HK.out.drew ?_
        repeat (go_big_quiet_step ((fail)))
        refine wpQuiet_nil ?_
        rintro _ ⟨z', rfl⟩
        have EZ := Lib.hid (ER.out.trans (HK.out.ext z'))
        clear y0 y1
        go_wp2
        go_roundw
        case rel => first | exact ⟨k + 1, by omega, by go_num, EZ⟩ | ((repeat apply Exists.intro); exact ⟨⟨k + 1, by omega, by go_num, EZ⟩, rfl⟩)
        case measure => (simp [intOf] <;> omega)
      · obtain rfl : k = P := by omega
        have hki : ¬ (k : Int) < (k : Int) := by omega
        have HE6 := Lib.hid (HE5.out.trans ER.out)
        clear HPO HLY HPB HLAT HPART HPA5 HST
        go_wp2_with fail
        refine (l_a2At bo m d ds 8 5 _ (HY.out.ext (HW1.out.trans HE6.out)) (by decide) (by decide)).mono ?_
        rintro e w7 ⟨b, b0, b1, rfl, e7⟩
        have HE7 := Lib.hid (HE6.out.trans e7)
        clear e7
        go_wp2
        go_loopw [16] (fun i wr => ∃ k : Nat, k ≤ m1 ∧ i = .int .i64 k ∧ Hid (Ext w7 wr)) (fun i _ => m1 - (intOf i).toNat)
        case atStart => exact ⟨0, Nat.zero_le _, rfl, Lib.hid (Ext.refl _)⟩
        case round =>
          obtain ⟨k, hk, rfl, ER⟩ := hrel
          have HE8 := Lib.hid (HE7.out.trans ER.out)
          obtain ⟨t0, t1, t2, _⟩ := HA.out.ext HE8.out
          by_cases hlt : k < m1
          · have hki : (k : Int) < (m1 : Int) := by omega
            have hL1 := HL1.out
            have hko : k < os.length := by omega
            have hbo := okTo_opn (validF_bd HV.out).2.2.2 hko
            rw [isOpn_all] at hbo
            have hfit := fun f1 f2 f3 => lt_fits (b := b) HV.out hko b0 (by omega) f1 f2 f3
            have hnot := fun f => lt_not (b := b) HV.out hko b0 (by omega) f
            have hLO := fun W h => i_LintelOf N K a1 m1 c1 os k b W h HMC.out
            obtain ⟨g, off, rfl, x0, x1, x2, x3⟩ := (HO.out.ext HE8.out).2.2.1 k hlt
            obtain ⟨o, hoe⟩ : ∃ o, os.getD k default = o := ⟨_, rfl⟩
            rw [hoe] at hbo hfit hnot x0 x1 x2 x3
            obtain ⟨o1, o2, o3, o4⟩ := o
            dsimp only at hbo hfit hnot x0 x1 x2 x3
            obtain ⟨V, hV⟩ : ∃ V, ltV (N : Int) K k b os = V := ⟨_, rfl⟩
            rw [hV] at hfit hnot hLO
            have HLOF := Lib.hid hLO
            have HFIT := Lib.hid hfit
            have HNOT := Lib.hid hnot
            have HW9 : Hid (Ext wr (wr.alloc (.cells #[.int .i64 o1, .int .i64 o2, .int .i64 o3, .int .i64 o4] 34))) := Lib.hid ((Ext.refl _).alloc _)
            have HB17 : Hid (Four (wr.alloc (.cells #[.int .i64 o1, .int .i64 o2, .int .i64 o3, .int .i64 o4] 34)) wr.heap.size 0 o1 o2 o3 o4) := Lib.hid (four_new wr o1 o2 o3 o4 _)
            clear hLO hfit hnot hoe hV hko hL1
            go_upto_region 21 with fail
            obtain ⟨W9, hW9⟩ : ∃ W, wr.alloc (.cells #[.int .i64 o1, .int .i64 o2, .int .i64 o3, .int .i64 o4] 34) = W := ⟨_, rfl⟩
            obtain ⟨b17, hb17⟩ : ∃ b, wr.heap.size = b := ⟨_, rfl⟩
            rw [hW9] at HW9 HB17 ⊢
            rw [hb17] at HB17 ⊢
            clear hW9 hb17 x0 x1 x2 x3 t0 t1 t2
            obtain ⟨t0, t1, t2, _⟩ := HA.out.ext (HE8.out.trans HW9.out)
            have hw1 : IntKind.i64.wrap (o2 + b) = o2 + b := IntWalk.i64_in _ (by omega)
            have hw2 : IntKind.i64.wrap (o1 - b) = o1 - b := IntWalk.i64_in _ (by omega)
            by_cases hf : b ≤ o1 ∧ o2 + b ≤ (N : Int) ∧ o4 < (K : Int)
            · obtain ⟨f1, f2, f3⟩ := hf
              have hVe := HFIT.out f1 f2 f3
              subst hVe
              go_wp2_with fail
              refine (HLOF.out _ (HO.out.ext (HE8.out.trans HW9.out))).mono ?_
              rintro e w10 ⟨rfl, e10⟩
              have HE10 := Lib.hid (HW9.out.trans e10)
              have HF10 := HB17.out.ext e10
              simp only [Four, Nat.zero_add] at HF10
              obtain ⟨y0, y1, y2, y3⟩ := HF10
              clear t0 t1 t2
              obtain ⟨t0, t1, t2, hb5⟩ := HA.out.ext (HE8.out.trans HE10.out)
              have hb17 := block_lt_of_cell y0
              have EZ : Hid (Ext w7 (w10.alloc (.cells #[.int .i64 (o1 - b), .int .i64 (o2 + b)] 51))) := Lib.hid ((ER.out.trans HE10.out).alloc _)
              clear e10
              go_wp2
              go_roundw
              case rel => first | exact ⟨k + 1, by omega, by go_num, EZ⟩ | ((repeat apply Exists.intro); exact ⟨⟨k + 1, by omega, by go_num, EZ⟩, rfl⟩)
              case measure => (simp [intOf] <;> omega)
            · have hVe := HNOT.out hf
              subst hVe
              have hcase : (¬ b ≤ o1) ∨ (b ≤ o1 ∧ ¬ o2 + b ≤ (N : Int)) ∨ (b ≤ o1 ∧ o2 + b ≤ (N : Int) ∧ ¬ o4 < (K : Int)) := by omega
              go_wp2_with fail
              refine (HLOF.out _ (HO.out.ext (HE8.out.trans HW9.out))).mono ?_
              rintro e w10 ⟨rfl, e10⟩
              have HE10 := Lib.hid (HW9.out.trans e10)
              have HF10 := HB17.out.ext e10
              simp only [Four, Nat.zero_add] at HF10
              obtain ⟨y0, y1, y2, y3⟩ := HF10
              clear t0 t1 t2 hf
              obtain ⟨t0, t1, t2, hb5⟩ := HA.out.ext (HE8.out.trans HE10.out)
              have hb17 := block_lt_of_cell y0
              have EZ : Hid (Ext w7 (w10.alloc (.cells #[.int .i64 0, .int .i64 0] 51))) := Lib.hid ((ER.out.trans HE10.out).alloc _)
              clear e10
              rcases hcase with f1 | ⟨f1, f2⟩ | ⟨f1, f2, f3⟩
              all_goals
                go_wp2
                go_roundw
                case rel => first | exact ⟨k + 1, by omega, by go_num, EZ⟩ | ((repeat apply Exists.intro); exact ⟨⟨k + 1, by omega, by go_num, EZ⟩, rfl⟩)
                case measure => (simp [intOf] <;> omega)
          · obtain rfl : k = m1 := by omega
            have hki : ¬ (k : Int) < (k : Int) := by omega
            obtain ⟨hln, hlv⟩ := ln_good (b := b) HV.out b0 (by omega)
            rw [HL1.out] at hlv
            have hML := mirF_len (N : Int) os
            have hMV := mirF_valid HV.out
            rw [HL1.out] at hML
            have hM1 := fun W h => s_MirrorFront N K a1 k c1 os W h
            have hmr1 : ∀ w, RetMir N K os w = RetFrC N K (mirF N os) 0 w := fun w => by funext e w'; unfold RetMir; rw [HV.out]; rfl
            simp only [hmr1] at hM1
            unfold RetFrC at hM1
            simp only [hML] at hM1
            have hC1 := fun W h => i_LintelClash N K a1 k c1 os b W h HMC.out
            have hC2 := fun W a c h hc => i_LintelClash N K a k c (mirF N os) b W h hc
            have e1 : lnV N K b os = .tuple #[.int .i64 (lnA N K b os), .int .i64 (lnB N K b os), .int .i64 (lnC N K b os)] := rfl
            have e2 : lnV N K b (mirF N os) = .tuple #[.int .i64 (lnA N K b (mirF N os)), .int .i64 (lnB N K b (mirF N os)), .int .i64 (lnC N K b (mirF N os))] := rfl
            rw [e1] at hC1
            rw [e2, hln] at hC2
            obtain ⟨A, hA⟩ : ∃ x, lnA (N : Int) K b os = x := ⟨_, rfl⟩
            obtain ⟨B, hB⟩ : ∃ x, lnB (N : Int) K b os = x := ⟨_, rfl⟩
            obtain ⟨R, hR⟩ : ∃ x, lnC (N : Int) K b os = x := ⟨_, rfl⟩
            obtain ⟨A', hA'⟩ : ∃ x, lnA (N : Int) K b (mirF N os) = x := ⟨_, rfl⟩
            obtain ⟨B', hB'⟩ : ∃ x, lnB (N : Int) K b (mirF N os) = x := ⟨_, rfl⟩
            rw [hA, hB, hR] at hC1 hlv
            rw [hA', hB', hR] at hC2
            obtain ⟨ms, hms⟩ : ∃ x, mirF (N : Int) os = x := ⟨_, rfl⟩
            rw [hms] at hM1 hC2
            have HM1 := Lib.hid hM1
            have HC1 := Lib.hid hC1
            have HC2 := Lib.hid hC2
            clear hln hML hMV hM1 hmr1 hC1 hC2 e1 e2 hA hB hR hA' hB' hms
            go_wp2_with fail
            refine (HM1.out _ (HO.out.ext HE8.out)).mono ?_
            rintro e w11 ⟨a21, c21, rfl, ow11, e11⟩
            have HE11 : Hid (Ext W1 (w11.alloc (.cells #[.int .i64 N, .int .i64 K, .slice a21 k c21] 30))) := Lib.hid ((HE8.out.trans e11).alloc _)
            have HB21 : Hid (Three (w11.alloc (.cells #[.int .i64 N, .int .i64 K, .slice a21 k c21] 30)) w11.heap.size (.int .i64 N) (.int .i64 K) (.slice a21 k c21)) := Lib.hid (Three.new w11 _ _ _ _)
            have HO21 : Hid (OwnOpens (w11.alloc (.cells #[.int .i64 N, .int .i64 K, .slice a21 k c21] 30)) wr.heap.size (.slice a21 k c21) ms) := Lib.hid (ow11.ext ((Ext.refl _).alloc _))
            clear e11 ow11 t0 t1 t2
            go_upto_region 26 with fail
            obtain ⟨W11, hW11⟩ : ∃ W, w11.alloc (.cells #[.int .i64 N, .int .i64 K, .slice a21 k c21] 30) = W := ⟨_, rfl⟩
            obtain ⟨b21, hb21⟩ : ∃ b, w11.heap.size = b := ⟨_, rfl⟩
            rw [hW11] at HE11 HB21 HO21 ⊢
            rw [hb21] at HB21 ⊢
            clear hW11 hb21
            obtain ⟨t0, t1, t2, _⟩ := HA.out.ext HE11.out
            go_wp2_with fail
            refine (HC1.out _ (HO.out.ext HE11.out)).mono ?_
            rintro e w12 ⟨rfl, e12⟩
            have HE12 := Lib.hid (HE11.out.trans e12)
            have HG12 := Lib.hid e12
            clear e12 t0 t1 t2
            obtain ⟨t0, t1, t2, _⟩ := HB21.out.ext HG12.out
            go_wp2_with fail
            refine (HC2.out _ _ _ (HO21.out.ext HG12.out).opens HO21.out.cap).mono ?_
            rintro e w13 ⟨rfl, e13⟩
            have HE13 := Lib.hid (HE12.out.trans e13)
            clear e13 t0 t1 t2
            obtain ⟨t0, t1, t2, _⟩ := HA.out.ext HE13.out
            have HBEL : Hid (Below w.heap.size w w13) := Lib.hid (HW1.out.trans HE13.out)
            rcases hlv with rfl | ⟨rfl, l1, l2, l3⟩
            all_goals
              go_wp2
              go_ret
              exact ⟨rfl, HBEL.out⟩
/-! ### the row's step: written by a program of mine (frame.py) after the guide's own frame -/
namespace fnFrontPieces
open Go.ChangeShapes Go.WideShapes Go.ChangeAt Go.RowKit Go.Joins
open Go.ChangeMaps (open_string shut_string)
set_option linter.unusedVariables false
theorem own : ownKnob Try.prog.godebug = none := by kernel_rfl
theorem laidOut : laidOutB Try.prog = true := by kernel_rfl
set_option maxRecDepth 100000 in
theorem lifted (os : Os) (started : os.Started) (H : Type) (enc : TypeId × Value → H) :
    ReturnsInHanded {} Try.checked os 9 .any (Rows.fnFrontPiecesSpec.pre6 enc Try.prog Try.f9 Rows.fnFrontPiecesRow.domain false) (Rows.fnFrontPiecesSpec.post enc Try.prog Try.f9 false true false false) := by
  refine returnsInHanded_of_change (C := Try.checked) own started (by kernel_rfl) Try.func9
    (ChangeSpec.witness6 (enc := enc) (C := Try.checked) false ⟨#[], #[.slice none 0 0, .slice none 0 0], []⟩ 8 (by kernel_rfl) (by kernel_rfl) (by kernel_rfl) (by kernel_rfl)) ?_
  intro W base args ds gs before hval0 hW hcnd _
  have hval : ∀ (j : Nat) t v, Try.f9.params[j]? = some t → args[j]? = some v → Value.okWide Try.prog W .any base t v := hval0
  have hW' := hW
  obtain ⟨p, q, hA0, hV, rfl, hfz, hnd⟩ := hW
  have hA : DataW.TrodAll enc Try.prog W 0 (fun _ => true) true Try.f9.params.toList args.toList ds p := hA0
  rw [Try.params9] at hA hval
  obtain ⟨v0, vs0, d0, ds0, p0, q0, hargs, rfl, rfl, h0, r0⟩ := trodAll_cons hA
  obtain ⟨v1, vs1, d1, ds1, p1, q1, rfl, rfl, rfl, h1, r1⟩ := trodAll_cons r0
  obtain ⟨rfl, rfl, rfl⟩ := trodAll_nil r1
  obtain rfl : args = #[v0, v1] := by cases args; simp_all
  obtain ⟨rfl, rfl⟩ := trodVars_none hV
  have k0 := h0
  have lt0 : ∀ x ∈ p0, x.block < W.heap.size := by obtain ⟨m, hm⟩ := k0; exact DataW.trod_lt m _ _ _ hm
  have k1 := h1
  have lt1 : ∀ x ∈ p1, x.block < W.heap.size := by obtain ⟨m, hm⟩ := k1; exact DataW.trod_lt m _ _ _ hm
  obtain ⟨b0, l0, c0, rfl⟩ := okWide_slice Try.underlying39 (hval 0 39 v0 rfl rfl)
  obtain ⟨z0, w0⟩ := u8x_of_trod Try.underlying39 Try.underlying5 (by kernel_rfl) h0
  obtain ⟨b1, l1, c1, rfl⟩ := okWide_slice Try.underlying39 (hval 1 39 v1 rfl rfl)
  obtain ⟨z1, w1⟩ := u8x_of_trod Try.underlying39 Try.underlying5 (by kernel_rfl) h1
  clear hA0 hval0
  refine (walk_FnFrontPieces b0 l0 c0 z0 b1 l1 c1 z1 W w0 w1).mono fun e W' ⟨he, bel⟩ => ?_
  subst he
  exact ⟨_, rfl, _, _, _, [], _, [], hW', trodAll_mk1 (shut_bool Try.underlying4 _), (trodAll_cons_mk (Below.trod laidOut (by kernel_rfl) (of_decide_eq_true (by kernel_rfl)) k0 bel lt0) (trodAll_cons_mk (Below.trod laidOut (by kernel_rfl) (of_decide_eq_true (by kernel_rfl)) k1 bel lt1) trodAll_mk0)), rfl, bel.frame _, fun h => by cases h⟩
theorem over : Rows.fnFrontPiecesRow.holds Try.pinned (OpenSpec.ofChange Rows.fnFrontPiecesSpec) :=
  OpenClaim.holds_of_wide 9 Try.f9 rfl rfl rfl rfl rfl rfl rfl ⟨rfl, rfl, rfl, rfl, rfl⟩ rfl rfl rfl rfl rfl (by kernel_rfl) Try.func9 (by kernel_rfl)
    (of_decide_eq_true (by kernel_rfl)) (by unfold Func.isWrapper; first | (rw [if_pos (by decide +kernel)]; kernel_rfl) | (rw [if_neg (by decide +kernel)]; exact ⟨rfl, rfl⟩))
    (fun os started H enc _ => lifted os started H enc)
theorem proved : Rows.FnFrontPiecesSaid := over
#print axioms proved
end fnFrontPieces
end Go.Proofs.Ytnhmcmohnpbcjaa

/- For every two rows of bytes the law FnOpenings answers true: an opening takes its own area, and a front from the other side has its lines from there. No condition. -/
import Derived.Test.YtnhmcmohnpbcjaaOpenW
import Derived.Test.YtnhmcmohnpbcjaaAddI
import Derived.Test.YtnhmcmohnpbcjaaGaFd
import Derived.Test.YtnhmcmohnpbcjaaFrontRi
import Derived.Test.YtnhmcmohnpbcjaaOpenU
namespace Go.Proofs.Ytnhmcmohnpbcjaa
open Go.RowKit
set_option linter.unusedSimpArgs false
set_option linter.unusedVariables false
set_option linter.unnecessarySimpa false

theorem add_form2 {L C : Int} {os : List Opn} {x : Opn} (hv : validF L C os = true) (hx : isOpn L C x = true) : ∃ L' C' ps r, ps.length ≤ 9 ∧ (∀ w, RetAdd L C os x w = RetFrC L' C' ps r w) ∧ (r = 0 ∨ r = 9 ∨ r = 5) ∧ (r = 0 → addC L C os x = 0 ∧ L' = L ∧ C' = C ∧ ps = putO os x) := by
  by_cases h : addC L C os x = 0
  · exact ⟨L, C, putO os x, 0, by rw [putO_len]; have := (addC_valid h).2.2.2; omega, fun w => by funext e w'; unfold RetAdd; rw [if_pos h], .inl rfl, fun _ => ⟨h, rfl, rfl, rfl⟩⟩
  · exact ⟨0, 0, [], addC L C os x, by simp, fun w => by funext e w'; unfold RetAdd; rw [if_neg h], addC_cases hv hx, fun h0 => absurd h0 h⟩
set_option maxRecDepth 100000 in
set_option maxHeartbeats 4000000 in
theorem walk_FnOpenings (ao : Option Addr) (n c : Nat) (bs : List UInt8) (bo : Option Addr) (m d : Nat) (ds : List UInt8) (w : World) (hx : U8x w ao n bs) (hy : U8x w bo m ds) :
    Calls Try.prog 7 #[.slice ao n c, .slice bo m d] w fun e w' => e = .returned (.bool true) ∧ Below w.heap.size w w' := by
  have HLO := Lib.hid (fun W => l_a2Long ao bo n m c d W hx.2.1 hy.2.1)
  have hlong : longB n m = false → n ≤ 3000 ∧ m ≤ 3000 := fun h => by unfold longB at h; simp at h; omega
  cases hl : longB n m with
  | true =>
    rw [hl] at HLO
    clear hx hy hlong hl
    go_enter Try.func7, Try.ntmps7
    go_wp2_with (go_at_call 18; refine (HLO.out _).mono ?_; rintro e w' ⟨rfl, rfl⟩)
    go_ret
    exact ⟨rfl, Below.refl _ _⟩
  | false =>
    rw [hl] at HLO
    have ⟨hn, hm⟩ := hlong hl
    have HX := Lib.hid (hx.small (by omega))
    have HY := Lib.hid (hy.small (by omega))
    clear hx hy hlong hl hn hm
    go_enter Try.func7, Try.ntmps7
    go_wp2_with (go_at_call 18; refine (HLO.out _).mono ?_; rintro e w' ⟨rfl, rfl⟩)
    refine (s_A2Front ao n c bs w HX.out).mono ?_
    rintro e w1 ⟨L, C, os, a1, m1, c1, rfl, hv, hL, hC, ho, hop, hmc, e1⟩
    obtain ⟨⟨L1, _⟩, ⟨C1, _⟩, n8, hok⟩ := validF_bd hv
    obtain ⟨N, rfl⟩ := Int.eq_ofNat_of_zero_le (show 0 ≤ L by omega)
    obtain ⟨K, rfl⟩ := Int.eq_ofNat_of_zero_le (show 0 ≤ C by omega)
    have hKt : ((K : Int)).toNat = K := by omega
    have hNt : ((N : Int)).toNat = N := by omega
    have hl1 : os.length = m1 := hop.1
    have HW1 : Hid (Ext w (w1.alloc (.cells #[.int .i64 N, .int .i64 K, .slice a1 m1 c1] 30))) := Lib.hid (e1.alloc _)
    have HA : Hid (Three (w1.alloc (.cells #[.int .i64 N, .int .i64 K, .slice a1 m1 c1] 30)) w1.heap.size (.int .i64 N) (.int .i64 K) (.slice a1 m1 c1)) := Lib.hid (Three.new w1 _ _ _ _)
    have HO : Hid (Opens (w1.alloc (.cells #[.int .i64 N, .int .i64 K, .slice a1 m1 c1] 30)) a1 m1 os) := Lib.hid (hop.ext ((Ext.refl _).alloc _))
    have hnil := ho.nilcap
    have hmv := mirF_valid hv
    have hm2 := mirF_twice hv
    have hml := mirF_len (N : Int) os
    rw [hl1] at hml
    have hM1 := fun W h => i_MirrorFront N K a1 m1 c1 os W h hmc
    have hM2 := fun W a c h hc => i_MirrorFront N K a m1 c (mirF N os) W h hc
    have hmr1 : ∀ w, RetMir N K os w = RetFrC N K (mirF N os) 0 w := fun w => by funext e w'; unfold RetMir; rw [hv]; rfl
    have hmr2 : ∀ w, RetMir N K (mirF N os) w = RetFrC N K os 0 w := fun w => by funext e w'; unfold RetMir; rw [hmv, hm2]; rfl
    simp only [hmr1] at hM1
    simp only [hmr2] at hM2
    unfold RetFrC at hM1 hM2
    simp only [hml] at hM1
    simp only [hl1] at hM2
    have hF1 := fun W h => s_FrontLines N K a1 m1 c1 os W h
    have hF2 := fun W a c h hc => i_FrontLines N K a m1 c (mirF N os) W h hc
    have hll1 := linesF_length hv
    have hll2 := linesF_length hmv
    have hla1 := fun (k : Nat) (h : (k : Int) < (K : Int)) => linesF_at hv h
    have hla2 := fun (k : Nat) (h : (k : Int) < (K : Int)) => linesF_at hmv h
    rw [hKt] at hll1 hll2 hla1 hla2
    rw [hNt] at hla1 hla2
    rw [hv] at hF1
    rw [hmv] at hF2
    unfold sel RetStrsC at hF1 hF2
    simp only [if_true, hll1] at hF1
    simp only [if_true, hll2] at hF2
    have hQ1 := fun W h => i_SolidQuarters N K a1 m1 c1 os W h hmc
    rw [hv] at hQ1
    unfold sel at hQ1
    simp only [if_true] at hQ1
    have hSF := fun W a c h1 h2 => s_SameFront N K N K a a1 m1 m1 c c1 os os W h1 h2
    rw [show sameF (N : Int) K N K os os = true by simp [sameF]] at hSF
    have hmd : ∀ k a : Nat, a < N → (lineB N (mirF N os) k).getD a 0 = (lineB N os k).getD (N - 1 - a) 0 := fun k a h => lineB_mir h
    have hadd := fun x W h1 h2 => i_AddOpening N K a1 m1 c1 os x W h1 hmc hnil h2
    have hform := fun x (h : isOpn N K x = true) => add_form2 hv h
    have hsp := fun x (h : addC N K os x = 0) => sol_put h
    have hpv := fun x (h : addC N K os x = 0) => putO_valid h
    have HSB := Lib.hid (solTo_bd hv)
    obtain ⟨ms, hms⟩ : ∃ ms, mirF (N : Int) os = ms := ⟨_, rfl⟩
    obtain ⟨ls, hls⟩ : ∃ s, linesF (N : Int) K os = s := ⟨_, rfl⟩
    rw [hms] at hM1 hM2 hF2 hla2 hmd
    obtain ⟨lt, hlt⟩ : ∃ s, linesF (N : Int) K ms = s := ⟨_, rfl⟩
    rw [hls] at hF1 hla1
    rw [hlt] at hF2 hla2
    have HM1 := Lib.hid hM1
    have HM2 := Lib.hid hM2
    have HF1 := Lib.hid hF1
    have HF2 := Lib.hid hF2
    have HLA1 := Lib.hid hla1
    have HLA2 := Lib.hid hla2
    have HQ1 := Lib.hid hQ1
    have HSF := Lib.hid hSF
    have HMD := Lib.hid hmd
    have HADD := Lib.hid hadd
    have HFORM := Lib.hid hform
    have HSP := Lib.hid hsp
    have HPV := Lib.hid hpv
    have HMC := Lib.hid hmc
    have HL1 := Lib.hid hl1
    have hK9 : K ≤ 9 := by omega
    have hK1 : 1 ≤ K := by omega
    have hN30 : N ≤ 30 := by omega
    have hN1 : 1 ≤ N := by omega
    have hm8 : m1 ≤ 8 := by omega
    clear hv hL hC ho hop hmc e1 L1 C1 n8 hok hnil hmv hm2 hml hM1 hM2 hmr1 hmr2 hF1 hF2 hll1 hll2 hla1 hla2 hQ1 hSF hmd hadd hform hsp hpv hms hls hlt hl1 hKt hNt
    go_upto_region 4 with fail
    obtain ⟨W1, hW1⟩ : ∃ W, w1.alloc (.cells #[.int .i64 N, .int .i64 K, .slice a1 m1 c1] 30) = W := ⟨_, rfl⟩
    obtain ⟨b5, hb5⟩ : ∃ b, w1.heap.size = b := ⟨_, rfl⟩
    rw [hW1] at HA HO HW1 ⊢
    rw [hb5] at HA ⊢
    clear hW1 hb5
    obtain ⟨t0, t1, t2, _⟩ := HA.out
    go_wp2_with fail
    refine (s_A2Opening bo m d ds N K (.slice a1 m1 c1) W1 (HY.out.ext HW1.out) (by omega) (by omega) (by omega) (by omega)).mono ?_
    rintro e w2 ⟨o, rfl, hio, e2⟩
    obtain ⟨L', C', ps, r, hps9, hra, hr3, hr0⟩ := HFORM.out o hio
    have hAD := HADD.out o
    simp only [hra] at hAD
    unfold RetFrC at hAD
    have hbnd := hio
    rw [isOpn_all] at hbnd
    have hook := isOpn_ok hio (by omega) (by omega)
    have HAD := Lib.hid (fun W h => hAD W h hook)
    have HR0 := Lib.hid hr0
    have HAO : Hid (areaO o = (o.en - o.fr) * (o.hi - o.lo)) := Lib.hid rfl
    have HAB : Hid (0 ≤ areaO o ∧ areaO o ≤ 8000) := Lib.hid (area_bd hio (by omega) (by omega))
    have HSPo := Lib.hid (HSP.out o)
    have HPVo := Lib.hid (HPV.out o)
    obtain ⟨o1, o2, o3, o4⟩ := o
    have HE2 : Hid (Ext W1 (w2.alloc (.cells #[.int .i64 o1, .int .i64 o2, .int .i64 o3, .int .i64 o4] 34))) := Lib.hid (e2.alloc _)
    have HB : Hid (Four (w2.alloc (.cells #[.int .i64 o1, .int .i64 o2, .int .i64 o3, .int .i64 o4] 34)) w2.heap.size 0 o1 o2 o3 o4) := Lib.hid (four_new w2 o1 o2 o3 o4 _)
    unfold opnV
    dsimp only at hbnd
    clear e2 t0 t1 t2 hAD hra hr0 hio hook
    go_upto_region 5 with fail
    obtain ⟨W2, hW2⟩ : ∃ W, w2.alloc (.cells #[.int .i64 o1, .int .i64 o2, .int .i64 o3, .int .i64 o4] 34) = W := ⟨_, rfl⟩
    obtain ⟨b6, hb6⟩ : ∃ b, w2.heap.size = b := ⟨_, rfl⟩
    rw [hW2] at HE2 HB ⊢
    rw [hb6] at HB ⊢
    clear hW2 hb6
    obtain ⟨t0, t1, t2, _⟩ := HA.out.ext HE2.out
    have hF := HB.out
    simp only [Four, Nat.zero_add] at hF
    obtain ⟨k0, k1, k2, k3⟩ := hF
    go_wp2_with fail
    refine (HAD.out _ (HO.out.ext HE2.out)).mono ?_
    rintro e w3 ⟨a7, c7, rfl, ow3, e3⟩
    have HE3 : Hid (Ext W2 (w3.alloc (.cells #[.int .i64 L', .int .i64 C', .slice a7 ps.length c7] 30))) := Lib.hid (e3.alloc _)
    have HB7 : Hid (Three (w3.alloc (.cells #[.int .i64 L', .int .i64 C', .slice a7 ps.length c7] 30)) w3.heap.size (.int .i64 L') (.int .i64 C') (.slice a7 ps.length c7)) := Lib.hid (Three.new w3 _ _ _ _)
    have HO7 : Hid (OwnOpens (w3.alloc (.cells #[.int .i64 L', .int .i64 C', .slice a7 ps.length c7] 30)) W2.heap.size (.slice a7 ps.length c7) ps) := Lib.hid (ow3.ext ((Ext.refl _).alloc _))
    clear e3 ow3 t0 t1 t2 k0 k1 k2 k3
    go_upto_region 6 with fail
    obtain ⟨W3, hW3⟩ : ∃ W, w3.alloc (.cells #[.int .i64 L', .int .i64 C', .slice a7 ps.length c7] 30) = W := ⟨_, rfl⟩
    obtain ⟨b7, hb7⟩ : ∃ b, w3.heap.size = b := ⟨_, rfl⟩
    rw [hW3] at HE3 HB7 HO7 ⊢
    rw [hb7] at HB7 ⊢
    clear hW3 hb7
    have HE13 := Lib.hid (HE2.out.trans HE3.out)
    obtain ⟨t0, t1, t2, _⟩ := HA.out.ext HE13.out
    go_wp2_with fail
    refine (HM1.out _ (HO.out.ext HE13.out)).mono ?_
    rintro e w4 ⟨a9, c9, rfl, ow4, e4⟩
    have HE4 : Hid (Ext W3 (w4.alloc (.cells #[.int .i64 N, .int .i64 K, .slice a9 m1 c9] 30))) := Lib.hid (e4.alloc _)
    have HB9 : Hid (Three (w4.alloc (.cells #[.int .i64 N, .int .i64 K, .slice a9 m1 c9] 30)) w4.heap.size (.int .i64 N) (.int .i64 K) (.slice a9 m1 c9)) := Lib.hid (Three.new w4 _ _ _ _)
    have HO9 : Hid (OwnOpens (w4.alloc (.cells #[.int .i64 N, .int .i64 K, .slice a9 m1 c9] 30)) W3.heap.size (.slice a9 m1 c9) ms) := Lib.hid (ow4.ext ((Ext.refl _).alloc _))
    clear e4 ow4 t0 t1 t2
    go_upto_region 7 with fail
    obtain ⟨W4, hW4⟩ : ∃ W, w4.alloc (.cells #[.int .i64 N, .int .i64 K, .slice a9 m1 c9] 30) = W := ⟨_, rfl⟩
    obtain ⟨b9, hb9⟩ : ∃ b, w4.heap.size = b := ⟨_, rfl⟩
    rw [hW4] at HE4 HB9 HO9 ⊢
    rw [hb9] at HB9 ⊢
    clear hW4 hb9
    obtain ⟨t0, t1, t2, _⟩ := HB9.out
    go_wp2_with fail
    refine (HM2.out _ _ _ HO9.out.opens HO9.out.cap).mono ?_
    rintro e w5 ⟨a11, c11, rfl, ow5, e5⟩
    have HE5 : Hid (Ext W4 (w5.alloc (.cells #[.int .i64 N, .int .i64 K, .slice a11 m1 c11] 30))) := Lib.hid (e5.alloc _)
    have HB11 : Hid (Three (w5.alloc (.cells #[.int .i64 N, .int .i64 K, .slice a11 m1 c11] 30)) w5.heap.size (.int .i64 N) (.int .i64 K) (.slice a11 m1 c11)) := Lib.hid (Three.new w5 _ _ _ _)
    have HO11 : Hid (OwnOpens (w5.alloc (.cells #[.int .i64 N, .int .i64 K, .slice a11 m1 c11] 30)) W4.heap.size (.slice a11 m1 c11) os) := Lib.hid (ow5.ext ((Ext.refl _).alloc _))
    clear e5 ow5 t0 t1 t2
    go_upto_region 8 with fail
    obtain ⟨W5, hW5⟩ : ∃ W, w5.alloc (.cells #[.int .i64 N, .int .i64 K, .slice a11 m1 c11] 30) = W := ⟨_, rfl⟩
    obtain ⟨b11, hb11⟩ : ∃ b, w5.heap.size = b := ⟨_, rfl⟩
    rw [hW5] at HE5 HB11 HO11 ⊢
    rw [hb11] at HB11 ⊢
    clear hW5 hb11
    have HE15 := Lib.hid (HE13.out.trans (HE4.out.trans HE5.out))
    obtain ⟨t0, t1, t2, _⟩ := HA.out.ext HE15.out
    go_wp2_with fail
    refine (HF1.out _ (HO.out.ext HE15.out)).mono ?_
    rintro e w6 ⟨a13, c13, rfl, ow6, e6⟩
    have HE6 := Lib.hid e6
    have HS13 := Lib.hid ow6.strs
    clear e6 ow6 t0 t1 t2
    obtain ⟨t0, t1, t2, _⟩ := HB9.out.ext (HE5.out.trans HE6.out)
    go_wp2_with fail
    refine (HF2.out _ _ _ (HO9.out.ext (HE5.out.trans HE6.out)).opens HO9.out.cap).mono ?_
    rintro e w7 ⟨a15, c15, rfl, ow7, e7⟩
    have HE7 := Lib.hid (HE6.out.trans e7)
    have HS13b := Lib.hid (HS13.out.ext e7)
    have HS15 := Lib.hid ow7.strs
    clear e7 ow7 t0 t1 t2 HS13
    obtain ⟨t0, t1, t2, _⟩ := HA.out.ext (HE15.out.trans HE7.out)
    obtain ⟨u0, u1, u2, _⟩ := HB11.out.ext HE7.out
    go_upto_region 12 with (go_at_call 31; refine (HSF.out _ _ _ (HO11.out.ext HE7.out).opens (HO.out.ext (HE15.out.trans HE7.out))).mono ?_; rintro e w8 ⟨rfl, e8⟩; have HE8 := Lib.hid (HE7.out.trans e8); have HE78 := Lib.hid e8)
    clear t0 t1 t2 u0 u1 u2
    go_wp2
    go_loopw [17] (fun i wr => ∃ k : Nat, k ≤ K ∧ i = .int .i64 k ∧ Hid (Ext w8 wr)) (fun i _ => K - (intOf i).toNat)
    case atStart => exact ⟨0, Nat.zero_le _, rfl, Lib.hid (Ext.refl _)⟩
    case round =>
      obtain ⟨k, hk, rfl, ER⟩ := hrel
      by_cases hlt : k < K
      · have hki : (k : Int) < (K : Int) := by omega
        have hl1 := HLA1.out (K - 1 - k) (by omega)
        have hl2 := HLA2.out (K - 1 - k) (by omega)
        rw [show K - 1 - (K - 1 - k) = k by omega] at hl1 hl2
        obtain ⟨g1, f1, rfl, hc1⟩ := ((HS13b.out.ext HE78.out).ext ER.out).2.2.1 k hlt
        obtain ⟨g2, f2, rfl, hc2⟩ := ((HS15.out.ext HE78.out).ext ER.out).2.2.1 k hlt
        rw [hl1] at hc1
        rw [hl2] at hc2
        have hmd := HMD.out (K - 1 - k)
        obtain ⟨s, hs⟩ : ∃ s, mkS (lineB N ms ((K - 1 - k : Nat) : Int)) = s := ⟨_, rfl⟩
        obtain ⟨t, ht⟩ : ∃ s, mkS (lineB N os ((K - 1 - k : Nat) : Int)) = s := ⟨_, rfl⟩
        have hss : s.size = N := by rw [← hs]; exact line_size _ _ _
        have htt : t.size = N := by rw [← ht]; exact line_size _ _ _
        have HSS := Lib.hid hss
        have HTT := Lib.hid htt
        have HST : Hid (∀ j (h1 : j < s.size) (h2 : N - 1 - j < t.size), t[N - 1 - j] = s[j]) := Lib.hid (fun j h1 h2 => by rw [mkS_at hs h1, mkS_at ht h2, hmd j (by omega)])
        rw [ht] at hc1
        rw [hs] at hc2
        have HC1 := Lib.hid hc1
        have HC2 := Lib.hid hc2
        clear hl1 hl2 hmd hs ht
        go_upto_region 18 with fail
        clear hss htt hc1 hc2
        go_wp2
        obtain ⟨wk, hwk⟩ : ∃ W, wr = W := ⟨_, rfl⟩
        rw [hwk] at ER HC1 HC2 ⊢
        clear hwk
        go_loopw [19] (fun i wr => ∃ j : Nat, j ≤ N ∧ i = .int .i64 j ∧ Hid (Ext wk wr)) (fun i _ => N - (intOf i).toNat)
        case atStart => exact ⟨0, Nat.zero_le _, rfl, Lib.hid (Ext.refl _)⟩
        case round =>
          obtain ⟨j, hj, rfl, EJ⟩ := hrel
          by_cases hjl : j < N
          · have hji : (j : Int) < (N : Int) := by omega
            have hss := HSS.out
            have htt := HTT.out
            have hj1 : j < s.size := by omega
            have hj2 : N - 1 - j < t.size := by omega
            have hji2 : (j : Int) < (s.size : Int) := by omega
            have hb := HST.out j hj1 hj2
            have hw1 : IntKind.i64.wrap ((N : Int) - 1) = (N : Int) - 1 := IntWalk.i64_in _ (by omega)
            have hw2 : IntKind.i64.wrap ((N : Int) - 1 - (j : Int)) = (N : Int) - 1 - (j : Int) := IntWalk.i64_in _ (by omega)
            have hi1 : (0 : Int) ≤ (N : Int) - 1 - (j : Int) := by omega
            have hi2 : (N : Int) - 1 - (j : Int) < (t.size : Int) := by omega
            have hi3 : ((N : Int) - 1 - (j : Int)).toNat = N - 1 - j := by omega
            have hi4 : ¬ ((t.size : Int) ≤ (N : Int) - 1 - (j : Int)) := by omega
            have hi5 : ¬ ((N : Int) - 1 - (j : Int) < 0) := by omega
            obtain ⟨α, hne, F, hK⟩ := cls_of wr
            have HK := Lib.hid hK
            have p1 := hK.cell (EJ.out.cell HC1.out)
            have p2 := hK.cell (EJ.out.cell HC2.out)
            clear hK hss htt
            go_upto_region 21 with fail
            refine wp_region_cls F (by kernel_rfl) (by kernel_rfl) HK.out.drew ?_
            repeat (go_big_quiet_step ((fail)))
            refine wpQuiet_nil ?_
            rintro _ ⟨z', rfl⟩
            have EZ := Lib.hid (EJ.out.trans (HK.out.ext z'))
            clear p1 p2 hi1 hi2 hi3 hi4 hi5 hw1 hw2
            go_wp2
            go_roundw
            case rel => first | exact ⟨j + 1, by omega, by go_num, EZ⟩ | ((repeat apply Exists.intro); exact ⟨⟨j + 1, by omega, by go_num, EZ⟩, rfl⟩)
            case measure => (simp [intOf] <;> omega)
          · obtain rfl : j = N := by omega
            have EZ := Lib.hid (ER.out.trans EJ.out)
            go_wp2
            go_roundw
            case rel => first | exact ⟨k + 1, by omega, by go_num, EZ⟩ | ((repeat apply Exists.intro); exact ⟨⟨k + 1, by omega, by go_num, EZ⟩, rfl⟩)
            case measure => (simp [intOf] <;> omega)
      · obtain rfl : k = K := by omega
        have hki : ¬ (k : Int) < (k : Int) := by omega
        have HEE := Lib.hid (HE15.out.trans (HE8.out.trans ER.out))
        obtain ⟨t0, t1, t2, _⟩ := HA.out.ext HEE.out
        go_wp2_with fail
        refine (HQ1.out _ (HO.out.ext HEE.out)).mono ?_
        rintro e w9 ⟨rfl, e9⟩
        have HE9 := Lib.hid (HEE.out.trans e9)
        have HE39 := Lib.hid (HE4.out.trans (HE5.out.trans (HE8.out.trans (ER.out.trans e9))))
        have HBEL : Hid (Below w.heap.size w w9) := Lib.hid (HW1.out.trans HE9.out)
        clear e9 t0 t1 t2
        by_cases hr : r = 0
        · obtain ⟨ha, hL', hC', hps⟩ := HR0.out hr
          subst hr hL' hC'
          have hsp := HSPo.out ha
          have hpv := HPVo.out ha
          have hlen := putO_len os ⟨o1, o2, o3, o4⟩
          rw [HL1.out] at hlen
          rw [← hps] at hsp hpv hlen
          have hsb := HSB.out os.length (Nat.le_refl _)
          have hso : solN (N : Int) k os = solTo N k os os.length := by unfold solN; rw [if_pos (addC_valid ha).1]
          rw [← hso] at hsb
          rw [HL1.out] at hsb
          have hcap := HO7.out.cap
          rw [hlen] at HO7 HB7 hcap ⊢
          have hQ2 := fun W h => i_SolidQuarters N k a7 (m1 + 1) c7 ps W h hcap
          have hV2 := fun W h => s_ValidFront N k a7 (m1 + 1) c7 ps W h
          rw [hpv] at hQ2 hV2
          unfold sel at hQ2
          simp only [if_true] at hQ2
          rw [HAO.out] at hsp
          have hab := HAB.out
          rw [HAO.out] at hab
          try dsimp only at hsp
          try dsimp only at hab
          obtain ⟨S1, hS1⟩ : ∃ S, solN (N : Int) k os = S := ⟨_, rfl⟩
          obtain ⟨S2, hS2⟩ : ∃ S, solN (N : Int) k ps = S := ⟨_, rfl⟩
          rw [hS1] at hsp hsb ⊢
          rw [hS2] at hsp hQ2
          have HQ2 := Lib.hid hQ2
          have HV2 := Lib.hid hV2
          obtain ⟨t0, t1, t2, _⟩ := HB7.out.ext HE39.out
          clear hQ2 hV2 hps hlen hpv hS1 hS2 hcap hso
          go_wp2_with fail
          refine (HQ2.out _ (HO7.out.ext HE39.out).opens).mono ?_
          rintro e w10 ⟨rfl, e10⟩
          have HEA := Lib.hid (HE39.out.trans e10)
          have HEB := Lib.hid (HE9.out.trans e10)
          have HEC := Lib.hid (HE3.out.trans HEA.out)
          clear e10 t0 t1 t2
          obtain ⟨t0, t1, t2, _⟩ := HB7.out.ext HEA.out
          have hw1 : IntKind.i64.wrap (o2 - o1) = o2 - o1 := IntWalk.i64_in _ (by omega)
          have hw2 : IntKind.i64.wrap (o4 - o3) = o4 - o3 := IntWalk.i64_in _ (by omega)
          have hw3 : IntKind.i64.wrap ((o2 - o1) * (o4 - o3)) = (o2 - o1) * (o4 - o3) := IntWalk.i64_in _ (by omega)
          have hw4 : IntKind.i64.wrap (S1 - S2) = (o2 - o1) * (o4 - o3) := by rw [hsp]; exact hw3
          clear hsp hsb hab hbnd
          go_upto_region 27 with fail
          go_wp2_with (go_at_call 32; refine (HV2.out _ (HO7.out.ext HEA.out).opens).mono ?_; rintro e w11 ⟨rfl, e11⟩; have HED := Lib.hid (HEB.out.trans e11); have HEF := Lib.hid (HEA.out.trans e11); clear t0 t1 t2; obtain ⟨t0, t1, t2, _⟩ := HB7.out.ext HEF.out; obtain ⟨u0, u1, u2, _⟩ := HA.out.ext HED.out; have hF := HB.out.ext (HE3.out.trans HEF.out); simp only [Four, Nat.zero_add] at hF; obtain ⟨k0, k1, k2, k3⟩ := hF)
          go_ret
          exact ⟨rfl, HW1.out.trans HED.out⟩
        · have hrr : r = 9 ∨ r = 5 := by rcases hr3 with h | h | h <;> omega
          rcases hrr with rfl | rfl
          all_goals
            go_wp2
            go_ret
            exact ⟨rfl, HBEL.out⟩
/-! ### the row's step: written by a program of mine (frame.py) after the guide's own frame -/
namespace fnOpenings
open Go.ChangeShapes Go.WideShapes Go.ChangeAt Go.RowKit Go.Joins
open Go.ChangeMaps (open_string shut_string)
set_option linter.unusedVariables false
theorem own : ownKnob Try.prog.godebug = none := by kernel_rfl
theorem laidOut : laidOutB Try.prog = true := by kernel_rfl
set_option maxRecDepth 100000 in
theorem lifted (os : Os) (started : os.Started) (H : Type) (enc : TypeId × Value → H) :
    ReturnsInHanded {} Try.checked os 7 .any (Rows.fnOpeningsSpec.pre6 enc Try.prog Try.f7 Rows.fnOpeningsRow.domain false) (Rows.fnOpeningsSpec.post enc Try.prog Try.f7 false true false false) := by
  refine returnsInHanded_of_change (C := Try.checked) own started (by kernel_rfl) Try.func7
    (ChangeSpec.witness6 (enc := enc) (C := Try.checked) false ⟨#[], #[.slice none 0 0, .slice none 0 0], []⟩ 8 (by kernel_rfl) (by kernel_rfl) (by kernel_rfl) (by kernel_rfl)) ?_
  intro W base args ds gs before hval0 hW hcnd _
  have hval : ∀ (j : Nat) t v, Try.f7.params[j]? = some t → args[j]? = some v → Value.okWide Try.prog W .any base t v := hval0
  have hW' := hW
  obtain ⟨p, q, hA0, hV, rfl, hfz, hnd⟩ := hW
  have hA : DataW.TrodAll enc Try.prog W 0 (fun _ => true) true Try.f7.params.toList args.toList ds p := hA0
  rw [Try.params7] at hA hval
  obtain ⟨v0, vs0, d0, ds0, p0, q0, hargs, rfl, rfl, h0, r0⟩ := trodAll_cons hA
  obtain ⟨v1, vs1, d1, ds1, p1, q1, rfl, rfl, rfl, h1, r1⟩ := trodAll_cons r0
  obtain ⟨rfl, rfl, rfl⟩ := trodAll_nil r1
  obtain rfl : args = #[v0, v1] := by cases args; simp_all
  obtain ⟨rfl, rfl⟩ := trodVars_none hV
  have k0 := h0
  have lt0 : ∀ x ∈ p0, x.block < W.heap.size := by obtain ⟨m, hm⟩ := k0; exact DataW.trod_lt m _ _ _ hm
  have k1 := h1
  have lt1 : ∀ x ∈ p1, x.block < W.heap.size := by obtain ⟨m, hm⟩ := k1; exact DataW.trod_lt m _ _ _ hm
  obtain ⟨b0, l0, c0, rfl⟩ := okWide_slice Try.underlying39 (hval 0 39 v0 rfl rfl)
  obtain ⟨z0, w0⟩ := u8x_of_trod Try.underlying39 Try.underlying5 (by kernel_rfl) h0
  obtain ⟨b1, l1, c1, rfl⟩ := okWide_slice Try.underlying39 (hval 1 39 v1 rfl rfl)
  obtain ⟨z1, w1⟩ := u8x_of_trod Try.underlying39 Try.underlying5 (by kernel_rfl) h1
  clear hA0 hval0
  refine (walk_FnOpenings b0 l0 c0 z0 b1 l1 c1 z1 W w0 w1).mono fun e W' ⟨he, bel⟩ => ?_
  subst he
  exact ⟨_, rfl, _, _, _, [], _, [], hW', trodAll_mk1 (shut_bool Try.underlying4 _), (trodAll_cons_mk (Below.trod laidOut (by kernel_rfl) (of_decide_eq_true (by kernel_rfl)) k0 bel lt0) (trodAll_cons_mk (Below.trod laidOut (by kernel_rfl) (of_decide_eq_true (by kernel_rfl)) k1 bel lt1) trodAll_mk0)), rfl, bel.frame _, fun h => by cases h⟩
theorem over : Rows.fnOpeningsRow.holds Try.pinned (OpenSpec.ofChange Rows.fnOpeningsSpec) :=
  OpenClaim.holds_of_wide 7 Try.f7 rfl rfl rfl rfl rfl rfl rfl ⟨rfl, rfl, rfl, rfl, rfl⟩ rfl rfl rfl rfl rfl (by kernel_rfl) Try.func7 (by kernel_rfl)
    (of_decide_eq_true (by kernel_rfl)) (by unfold Func.isWrapper; first | (rw [if_pos (by decide +kernel)]; kernel_rfl) | (rw [if_neg (by decide +kernel)]; exact ⟨rfl, rfl⟩))
    (fun os started H enc _ => lifted os started H enc)
theorem proved : Rows.FnOpeningsSaid := over
#print axioms proved
end fnOpenings
end Go.Proofs.Ytnhmcmohnpbcjaa

/- For every row of bytes the law FnFronts answers true: the parts of all courses are what is no opening, and the lines of a front show it. No condition. -/
import Derived.Test.YtnhmcmohnpbcjaaGaFd
import Derived.Test.YtnhmcmohnpbcjaaFrontW
import Derived.Test.YtnhmcmohnpbcjaaFrontRi
import Derived.Test.YtnhmcmohnpbcjaaPartLaw
import Derived.Test.YtnhmcmohnpbcjaaOpenU
namespace Go.Proofs.Ytnhmcmohnpbcjaa
open Go.RowKit
set_option linter.unusedSimpArgs false
set_option linter.unusedVariables false
set_option linter.unnecessarySimpa false

theorem minP_if {b y : Int} {p : Int × Int} (h : b ≤ 200) (h2 : p.1 < p.2) (h3 : p.2 - p.1 ≤ 200) (hy : p.2 - p.1 = y) : shP (minP b p) = min (shP b) y := by
  subst hy
  unfold shP minP
  split <;> split <;> omega
set_option maxRecDepth 100000 in
set_option maxHeartbeats 4000000 in
theorem walk_FnFronts (ao : Option Addr) (n c : Nat) (bs : List UInt8) (w : World) (hx : U8x w ao n bs) :
    Calls Try.prog 4 #[.slice ao n c] w fun e w' => e = .returned (.bool true) ∧ Below w.heap.size w w' := by
  have HLO := Lib.hid (fun W => l_a2Long ao none n 0 c 0 W hx.2.1 (by decide))
  have hlong : longB n 0 = false → n ≤ 3000 := fun h => by unfold longB at h; simp at h; omega
  cases hl : longB n 0 with
  | true =>
    rw [hl] at HLO
    clear hx hlong hl
    go_enter Try.func4, Try.ntmps4
    go_wp2_with (go_at_call 18; refine (HLO.out _).mono ?_; rintro e w' ⟨rfl, rfl⟩)
    go_ret
    exact ⟨rfl, Below.refl _ _⟩
  | false =>
    rw [hl] at HLO
    have hn := hlong hl
    have HX := Lib.hid (hx.small (by omega))
    clear hx hlong hl hn
    go_enter Try.func4, Try.ntmps4
    go_wp2_with (go_at_call 18; refine (HLO.out _).mono ?_; rintro e w' ⟨rfl, rfl⟩)
    refine (s_A2Front ao n c bs w HX.out).mono ?_
    rintro e w1 ⟨L, C, os, a, m, cap, rfl, hv, hL, hC, ho, hop, hmc, e1⟩
    obtain ⟨⟨L1, _⟩, ⟨C1, _⟩, n8, hok⟩ := validF_bd hv
    obtain ⟨N, rfl⟩ := Int.eq_ofNat_of_zero_le (show 0 ≤ L by omega)
    obtain ⟨K, rfl⟩ := Int.eq_ofNat_of_zero_le (show 0 ≤ C by omega)
    have hKt : ((K : Int)).toNat = K := by omega
    have hNt : ((N : Int)).toNat = N := by omega
    have HW2 : Hid (Ext w (w1.alloc (.cells #[.int .i64 N, .int .i64 K, .slice a m cap] 30))) := Lib.hid (e1.alloc _)
    have HA : Hid (Three (w1.alloc (.cells #[.int .i64 N, .int .i64 K, .slice a m cap] 30)) w1.heap.size (.int .i64 N) (.int .i64 K) (.slice a m cap)) := Lib.hid (Three.new w1 _ _ _ _)
    have HO : Hid (Opens (w1.alloc (.cells #[.int .i64 N, .int .i64 K, .slice a m cap] 30)) a m os) := Lib.hid (hop.ext ((Ext.refl _).alloc _))
    have HMC := Lib.hid hmc
    have hsol := sum_solid hv
    have hlin := linesF_length hv
    have hlat := fun (k : Nat) (h : (k : Int) < (K : Int)) => linesF_at hv h
    have HNAR := Lib.hid (sumTo_nonneg hok)
    have HPB := Lib.hid (fun k => parts_bd (c := k) hok)
    have HPG := Lib.hid (fun k i => parts_gap (L := N) (C := K) (c := k) (i := i) (by omega) hok)
    have HPD := Lib.hid (fun k b q => parts_drk (L := N) (C := K) (c := k) (a := b) (q := q) (by omega) hok)
    have HPS := Lib.hid (fun k => drk_sum (L := N) (C := K) (c := k) (by omega) hok)
    have HSB := Lib.hid (fun k => sumP_bd (L := N) (C := K) (c := k) (by omega) hok)
    have HP9 := Lib.hid (fun c => Nat.le_trans (partsI_len N c os) (Nat.succ_le_succ n8))
    have HSL := Lib.hid (sumTo_le (L := N) (C := K) (by omega) hok)
    have HNB := Lib.hid (narTo_bd (L := N) (C := K) (by omega) hok)
    have HPC : Hid (∀ k : Nat, k < K → crC N K k os = 0 ∧ partsR N K k os = partsI N k os) := Lib.hid (fun k hk => by
      have h : crC N K k os = 0 := by unfold crC; rw [if_pos hv, if_pos (by simp [inB]; omega)]
      exact ⟨h, by unfold partsR; rw [if_pos h]⟩)
    have hnar : narV N K os = .tuple #[.int .i64 (narN N K os), .int .i64 (narC N K os)] := rfl
    have HNC : Hid (narC N K os = if narTo N os K < 0 then 3 else 0) := Lib.hid (by unfold narC; rw [if_pos hv, hKt])
    have HNN : Hid (¬ narTo N os K < 0 → narN N K os = narTo N os K) := Lib.hid (fun h => by unfold narN; rw [HNC.out, if_neg h, if_pos rfl, hKt])
    rw [hKt] at hsol hlin hlat
    rw [hNt] at hlat HPS
    have HSQ := Lib.hid (fun W h => i_SolidQuarters N K a m cap os W h hmc)
    have HFL := Lib.hid (fun W h => i_FrontLines N K a m cap os W h hmc)
    have HNP := Lib.hid (fun W h => i_NarrowestPier N K a m cap os W h hmc)
    have HPO := Lib.hid (fun (k : Nat) W h => i_PartsOf N K a m cap os k W h hmc)
    rw [hv] at HSQ HFL
    rw [hnar] at HNP
    unfold sel RetStrsC at HFL
    unfold sel at HSQ
    simp only [if_true] at HFL HSQ
    obtain ⟨sol, hsol2⟩ : ∃ s, solN N K os = s := ⟨_, rfl⟩
    obtain ⟨ls, hls⟩ : ∃ s, linesF N K os = s := ⟨_, rfl⟩
    obtain ⟨nv, hnv⟩ : ∃ s, narN N K os = s := ⟨_, rfl⟩
    obtain ⟨nc, hnc⟩ : ∃ s, narC N K os = s := ⟨_, rfl⟩
    rw [hsol2] at HSQ hsol
    rw [hls] at HFL hlin hlat
    rw [hlin] at HFL
    rw [hnv, hnc] at HNP
    rw [hnv] at HNN
    rw [hnc] at HNC
    have HSOL := Lib.hid hsol
    have HLAT := Lib.hid hlat
    have hK9 : K ≤ 9 := by omega
    have hK1 : 1 ≤ K := by omega
    have hN30 : N ≤ 30 := by omega
    have hN1 : 1 ≤ N := by omega
    clear hv hL hC ho hop hmc e1 L1 C1 n8 hok hsol hlat hlin hsol2 hls hnv hnc hnar hKt hNt
    go_upto_region 4 with fail
    obtain ⟨W1, hW1⟩ : ∃ W, w1.alloc (.cells #[.int .i64 N, .int .i64 K, .slice a m cap] 30) = W := ⟨_, rfl⟩
    obtain ⟨fb, hfb⟩ : ∃ b, w1.heap.size = b := ⟨_, rfl⟩
    rw [hW1] at HA HO HW2 ⊢
    rw [hfb] at HA ⊢
    clear hW1 hfb
    obtain ⟨t0, t1, t2, _⟩ := HA.out
    go_wp2_with fail
    refine (HSQ.out _ HO.out).mono ?_
    rintro e w2 ⟨rfl, e2⟩
    have HE2 := Lib.hid e2
    clear e2 t0 t1 t2
    obtain ⟨t0, t1, t2, _⟩ := HA.out.ext HE2.out
    go_wp2_with fail
    refine (HFL.out _ (HO.out.ext HE2.out)).mono ?_
    rintro e w3 ⟨a3, c3, rfl, ho3, e3⟩
    have HE3 := Lib.hid (HE2.out.trans e3)
    have HST := Lib.hid ho3.strs
    clear e3 t0 t1 t2 ho3
    obtain ⟨t0, t1, t2, _⟩ := HA.out.ext HE3.out
    go_wp2_with fail
    refine (HNP.out _ (HO.out.ext HE3.out)).mono ?_
    rintro e w4 ⟨rfl, e4⟩
    have HE4 := Lib.hid (HE3.out.trans e4)
    have HST4 := Lib.hid (HST.out.ext e4)
    clear e4 t0 t1 t2
    obtain ⟨t0, t1, t2, _⟩ := HA.out.ext HE4.out
    go_wp2
    clear t0 t1 t2 HSQ HFL HNP HST HE2 HE3
    go_loopw [10, 11, 12] (fun s h i wr => ∃ k : Nat, k ≤ K ∧ i = .int .i64 k ∧ s = .int .i64 (sumTo N os k) ∧ h = .int .i64 (shP (narTo N os k)) ∧ Hid (Ext w4 wr)) (fun _ _ i _ => K - (intOf i).toNat)
    case atStart => exact ⟨0, Nat.zero_le _, rfl, rfl, rfl, Lib.hid (Ext.refl _)⟩
    case round =>
      obtain ⟨k, hk, rfl, rfl, rfl, ER⟩ := hrel
      obtain ⟨t0, t1, t2, _⟩ := HA.out.ext (HE4.out.trans ER.out)
      by_cases hlt : k < K
      · have hki : (k : Int) < (K : Int) := by omega
        obtain ⟨hcr, hpr⟩ := HPC.out k hlt
        have hP := HPO.out k wr (HO.out.ext (HE4.out.trans ER.out))
        rw [hcr, hpr] at hP
        have hpb := HPB.out k
        have hpg := HPG.out k
        have hpd := HPD.out k
        have hps := HPS.out k
        have hsb := HSB.out k
        have hsl := HSL.out k
        have hsn := (HNAR.out k).1
        have hnb := HNB.out k
        have HSN : Hid (sumTo N os (k + 1) = sumTo N os k + sumP (partsI N k os)) := Lib.hid rfl
        have HNN2 : Hid (narTo N os (k + 1) = (partsI N k os).foldl minP (narTo N os k)) := Lib.hid rfl
        have hS9 : sumTo N os k ≤ 270 := by
          have : (N : Int) * k ≤ 30 * 9 := Int.mul_le_mul (by omega) (by omega) (by omega) (by omega)
          omega
        obtain ⟨ps, hpse⟩ : ∃ ps, partsI N k os = ps := ⟨_, rfl⟩
        obtain ⟨S, hSe⟩ : ∃ S, sumTo N os k = S := ⟨_, rfl⟩
        obtain ⟨B, hBe⟩ : ∃ B, narTo N os k = B := ⟨_, rfl⟩
        obtain ⟨f, hfe⟩ : ∃ f, drk os k = f := ⟨_, rfl⟩
        rw [hpse] at hP hpb hpg hpd hps hsb HSN HNN2
        rw [hSe] at HSN hS9 hsn ⊢
        rw [hBe] at HNN2 hnb ⊢
        rw [hfe] at hpd hps
        have hp9 := HP9.out k
        rw [hpse] at hp9
        obtain ⟨P, hPe⟩ : ∃ P, ps.length = P := ⟨_, rfl⟩
        rw [hPe] at hp9
        rw [hPe] at hpg
        unfold RetPartsC at hP
        rw [hPe] at hP
        have HPE := Lib.hid hPe
        have HNBB := Lib.hid hnb
        have HP := Lib.hid hP
        have HPB2 := Lib.hid hpb
        have HPG2 := Lib.hid hpg
        have HPD2 := Lib.hid hpd
        have HPS2 := Lib.hid hps
        have hidx : ((K : Int) - 1 - (k : Int)).toNat = K - 1 - k := by omega
        have hsz := HLAT.out k hki
        obtain ⟨sB, sOff, rfl, hcell⟩ := HST4.out.2.2.1 (K - 1 - k) (by omega)
        rw [hsz] at hcell
        obtain ⟨s, hs⟩ : ∃ s, mkS (lineB N os k) = s := ⟨_, rfl⟩
        have hss : s.size = N := by rw [← hs]; exact line_size _ _ _
        have HSS := Lib.hid hss
        have HAT : Hid (∀ j (h : j < s.size), s[j] = if f j then 35 else 46) := Lib.hid (fun j h => by rw [mkS_at hs h, lineB_drk (by omega), hfe])
        rw [hs] at hcell
        have HC4 := Lib.hid hcell
        clear hP hpb hpg hpd hps hsl hpse hSe hBe hfe hPe hcell hsz hs hss
        go_wp2_with fail
        refine HP.out.mono ?_
        rintro e w5 ⟨a5, c5, rfl, ho5, e5⟩
        have HE5 := Lib.hid (ER.out.trans e5)
        have HPA := Lib.hid ho5.parts
        clear e5 ho5 t0 t1 t2
        obtain ⟨t0, t1, t2, _⟩ := HA.out.ext (HE4.out.trans HE5.out)
        have hcell := HE5.out.cell HC4.out
        have hss := HSS.out
        go_upto_region 18 with fail
        clear hss hcell
        have hs9 : s.size ≤ 9223372036854775807 := by rw [HSS.out]; omega
        have HSZ := Lib.hid hs9
        clear hs9
        go_wp2
        go_loopw [16, 17] (fun d i wr => ∃ j : Nat, j ≤ s.size ∧ i = .int .i64 j ∧ d = .int .i64 (cntR f 0 j) ∧ Hid (Ext w5 wr)) (fun _ i _ => s.size - (intOf i).toNat)
        case atStart => exact ⟨0, Nat.zero_le _, rfl, rfl, Lib.hid (Ext.refl _)⟩
        case round =>
          obtain ⟨j, hj, rfl, rfl, EJ⟩ := hrel
          by_cases hjl : j < s.size
          · have hji : (j : Int) < (s.size : Int) := by omega
            have hj30 : j < 30 := by have := HSS.out; omega
            have hat := HAT.out j hjl
            have hst := cntR_snoc f j 0
            rw [Int.zero_add] at hst
            have hbd := cntR_bd f j 0
            have HST2 := Lib.hid hst
            obtain ⟨D, hD⟩ : ∃ D, cntR f 0 j = D := ⟨_, rfl⟩
            rw [hD] at hbd HST2 ⊢
            clear hst hD
            cases hf : f j with
            | true =>
              rw [hf] at hat HST2
              have hq : (s[j].toNat : Int) = 35 := by rw [hat]; rfl
              have HN : Hid (D + 1 = cntR f 0 ((j + 1 : Nat) : Int).toNat) := Lib.hid (by rw [show ((j + 1 : Nat) : Int).toNat = j + 1 by omega, HST2.out]; rfl)
              clear hat
              go_wp2
              go_roundw
              case rel => first | exact ⟨j + 1, by omega, by go_num, by rw [HST2.out]; rfl, EJ⟩ | ((repeat apply Exists.intro); exact ⟨⟨j + 1, by omega, by go_num, by rw [HST2.out]; rfl, EJ⟩, rfl⟩)
              case measure => (simp [intOf] <;> omega)
            | false =>
              rw [hf] at hat HST2
              have hq : ¬ (s[j].toNat : Int) = 35 := by rw [hat]; decide
              clear hat
              go_wp2
              go_roundw
              case rel => first | exact ⟨j + 1, by omega, by go_num, by rw [HST2.out]; simp, EJ⟩ | ((repeat apply Exists.intro); exact ⟨⟨j + 1, by omega, by go_num, by rw [HST2.out]; simp, EJ⟩, rfl⟩)
              case measure => (simp [intOf] <;> omega)
          · obtain rfl : j = s.size := by omega
            have HD : Hid (cntR f 0 s.size = sumP ps) := Lib.hid (by rw [HSS.out]; exact HPS2.out)
            rw [HD.out]
            clear t0 t1 t2
            obtain ⟨t0, t1, t2, _⟩ := HA.out.ext (HE4.out.trans (HE5.out.trans EJ.out))
            go_wp2
            go_loopw [10, 11, 16, 18] (fun su sh d i wr => ∃ j : Nat, j ≤ P ∧ i = .int .i64 j ∧ su = .int .i64 (S + sumP (ps.take j)) ∧ sh = .int .i64 (shP ((ps.take j).foldl minP B)) ∧ d = .int .i64 (sumP ps - sumP (ps.take j)) ∧ Hid (Ext w5 wr)) (fun _ _ _ i _ => P - (intOf i).toNat)
            case atStart => exact ⟨0, Nat.zero_le _, rfl, by simp [sumP], by simp, by simp [sumP], EJ⟩
            case round =>
              obtain ⟨j, hj, rfl, rfl, rfl, rfl, EI⟩ := hrel
              have hPL := HPE.out
              have hT := sumP_take_le (fun q hq => (HPB2.out q hq).2.1) j
              by_cases hjl : j < P
              · have hjp : (j : Int) < (P : Int) := by omega
                have hsuc := sumP_take_succ (ps := ps) (i := j) (by omega)
                have hfs := foldl_take_succ minP B ps (0, 0) j (by omega)
                have hmem : ps.getD j (0, 0) ∈ ps := by rw [List.getD_eq_getElem?_getD, List.getElem?_eq_getElem (show j < ps.length by omega), Option.getD_some]; exact List.getElem_mem _
                have hpb := HPB2.out _ hmem
                have hpd := fun b => HPD2.out b _ hmem
                have hpg := HPG2.out j
                have hmb := minP_bd (L := N) (by omega) (ps.take j) B (fun q hq => HPB2.out q (List.mem_of_mem_take hq)) HNBB.out
                obtain ⟨g, rfl, q0, q1⟩ := (HPA.out.ext EI.out).2 j hjl
                have hprev : 0 < j → wr.cell? ⟨g, (j - 1) * 2 + 1, none⟩ = some (.int .i64 (ps.getD (j - 1) (0, 0)).2) := fun h => by
                  obtain ⟨g', hg', _, h2⟩ := (HPA.out.ext EI.out).2 (j - 1) (by omega)
                  have := congrArg Addr.block (Option.some.inj hg')
                  dsimp only at this
                  rw [this]
                  exact h2
                obtain ⟨z, hz⟩ : ∃ z, (ps.getD (j - 1) (0, 0)).2 = z := ⟨_, rfl⟩
                rw [hz] at hprev hpg
                obtain ⟨pq, hpq⟩ : ∃ pq, ps.getD j (0, 0) = pq := ⟨_, rfl⟩
                rw [hpq] at hsuc hfs hpb hpd hpg q0 q1
                obtain ⟨pp, qq⟩ := pq
                dsimp only at hsuc hfs hpb hpd hpg q0 q1
                obtain ⟨p, rfl⟩ := Int.eq_ofNat_of_zero_le hpb.1
                obtain ⟨r, rfl⟩ : ∃ r : Nat, qq = (r : Int) + 1 := ⟨(qq - 1).toNat, by omega⟩
                have hss := HSS.out
                have hpl : p < s.size := by omega
                have hrl : r < s.size := by omega
                have hs1 : (s[p].toNat : Int) = 35 := by rw [HAT.out p hpl, hpd p (by omega) (by omega)]; rfl
                have hs2 : (s[r].toNat : Int) = 35 := by rw [HAT.out r hrl, hpd r (by omega) (by omega)]; rfl
                have hnx := minP_if (b := (ps.take j).foldl minP B) (p := ((p : Int), (r : Int) + 1)) (y := (r : Int) + 1 - p) hmb.2 (by dsimp only; omega) (by dsimp only; omega) rfl
                rw [← hfs] at hnx
                have HSU := Lib.hid hsuc
                have HNX := Lib.hid hnx
                obtain ⟨T, hTe⟩ : ∃ T, sumP (ps.take j) = T := ⟨_, rfl⟩
                obtain ⟨H, hHe⟩ : ∃ H, shP ((ps.take j).foldl minP B) = H := ⟨_, rfl⟩
                obtain ⟨D, hDe⟩ : ∃ D, sumP ps = D := ⟨_, rfl⟩
                have hD30 : D ≤ 30 := by omega
                rw [hTe] at HSU hT ⊢
                rw [hHe] at HNX ⊢
                rw [hDe] at hT ⊢
                have HDE := Lib.hid hDe
                have hb1 : (p : Int) < (r : Int) + 1 := by omega
                have hb2 : (r : Int) + 1 ≤ (N : Int) := by omega
                have hbz : 0 < j → z < (p : Int) := fun h => hpg h (by omega)
                have HZ := Lib.hid hprev
                have HBZ := Lib.hid hbz
                clear hsuc hfs hmem hpb hpd hpg hmb hprev hz hpq hss hnx hTe hHe hDe hbz hPL t0 t1 t2
                go_upto_region 28 with fail
                have HW := Lib.hid ((Ext.refl wr).alloc (.cells #[.int .i64 p, .int .i64 ((r : Int) + 1)] 51))
                have HB := Lib.hid (heap_alloc_new wr (.cells #[.int .i64 p, .int .i64 ((r : Int) + 1)] 51))
                obtain ⟨W7, hW7⟩ : ∃ W, wr.alloc (.cells #[.int .i64 p, .int .i64 ((r : Int) + 1)] 51) = W := ⟨_, rfl⟩
                obtain ⟨pb, hpb⟩ : ∃ b, wr.heap.size = b := ⟨_, rfl⟩
                rw [hW7] at HW HB ⊢
                rw [hpb] at HB ⊢
                clear hW7 hpb
                obtain ⟨α, hne, F, hK⟩ := cls_of W7
                have HK := Lib.hid hK
                obtain ⟨y0, y1, _⟩ := two_cells HB.out
                obtain ⟨f0, f1, f2, _⟩ := HA.out.ext (HE4.out.trans (HE5.out.trans (EI.out.trans HW.out)))
                have k0 := hK.cell y0
                have k1 := hK.cell y1
                have k2 := hK.cell f0
                have hj1 : ((j : Int) - 1).toNat = j - 1 := by omega
                have hw1 : IntKind.i64.wrap ((j : Int) - 1) = (j : Int) - 1 := IntWalk.i64_in _ (by omega)
                have hw2 : IntKind.i64.wrap ((r : Int) + 1 - 1) = (r : Int) := by rw [show (r : Int) + 1 - 1 = r by omega]; exact IntWalk.i64_in _ (by omega)
                have hw3 : IntKind.i64.wrap (r : Int) = (r : Int) := IntWalk.i64_in _ (by omega)
                have d1 : decide ((p : Int) < 0) = false := by (simp <;> omega)
                have d2 : decide ((r : Int) + 1 ≤ (p : Int)) = false := by (simp <;> omega)
                have d3 : decide ((N : Int) < (r : Int) + 1) = false := by (simp <;> omega)
                have hsu : Hid (((S + T + ((r : Int) + 1 - p) : Int)) = S + sumP (ps.take (j + 1))) := Lib.hid (by rw [HSU.out]; omega)
                have hdu : Hid (((D - T - ((r : Int) + 1 - p) : Int)) = D - sumP (ps.take (j + 1))) := Lib.hid (by rw [HSU.out]; omega)
                rcases Nat.eq_zero_or_pos j with h0 | h0
                · have hj0 : ¬ (0 : Int) < (j : Int) := by omega
                  have d0 : decide ((0 : Int) < (j : Int)) = false := by (simp <;> omega)
                  clear hK y0 y1 f0 f1 f2 q0 q1
                  refine wp_region_cls F (by kernel_rfl) (by kernel_rfl) HK.out.drew ?_
                  repeat (go_big_quiet_step ((fail)))
                  refine wpQuiet_nil ?_
                  rintro _ ⟨z', rfl⟩
                  have c0 := k0 z'
                  have c1 := k1 z'
                  have HE8 := Lib.hid (EI.out.trans (HW.out.trans (HK.out.ext z')))
                  clear k0 k1 k2 d0 d1 d2 d3 hw1 hw2 hw3 hs1 hs2
                  all_goals
                    have HNY := HNX
                    go_wp2
                    go_roundw
                    case rel => first | exact ⟨j + 1, by omega, by go_num, by rw [hsu.out], by rw [HNY.out], by rw [hdu.out], HE8⟩ | ((repeat apply Exists.intro); exact ⟨⟨j + 1, by omega, by go_num, by rw [hsu.out], by rw [HNY.out], by rw [hdu.out], HE8⟩, rfl⟩)
                    case measure => (simp [intOf] <;> omega)
                · have hj0 : (0 : Int) < (j : Int) := by omega
                  have d0 : decide ((0 : Int) < (j : Int)) = true := by (simp <;> omega)
                  have k3 := hK.cell (HW.out.cell (HZ.out h0))
                  have hzp := HBZ.out h0
                  have hm0 : (0 : Int) ≤ (j : Int) - 1 := by omega
                  have hm1 : (j : Int) - 1 < (P : Int) := by omega
                  have hm2 : ¬ (P : Int) ≤ (j : Int) - 1 := by omega
                  have d4 : decide ((p : Int) ≤ z) = false := by (simp <;> omega)
                  clear hK y0 y1 f0 f1 f2 q0 q1
                  refine wp_region_cls F (by kernel_rfl) (by kernel_rfl) HK.out.drew ?_
                  repeat (go_big_quiet_step ((fail)))
                  refine wpQuiet_nil ?_
                  rintro _ ⟨z', rfl⟩
                  have c0 := k0 z'
                  have c1 := k1 z'
                  have HE8 := Lib.hid (EI.out.trans (HW.out.trans (HK.out.ext z')))
                  clear k0 k1 k2 k3 d0 d1 d2 d3 d4 hw1 hw2 hw3 hs1 hs2 hm0 hm1 hm2 hj1
                  all_goals
                    have HNY := HNX
                    go_wp2
                    go_roundw
                    case rel => first | exact ⟨j + 1, by omega, by go_num, by rw [hsu.out], by rw [HNY.out], by rw [hdu.out], HE8⟩ | ((repeat apply Exists.intro); exact ⟨⟨j + 1, by omega, by go_num, by rw [hsu.out], by rw [HNY.out], by rw [hdu.out], HE8⟩, rfl⟩)
                    case measure => (simp [intOf] <;> omega)
              · obtain rfl : j = P := by omega
                have htk : ps.take j = ps := List.take_of_length_le (by omega)
                rw [htk]
                have hzero : sumP ps - sumP ps = 0 := by omega
                have HSN2 := Lib.hid HSN.out.symm
                have HNN3 := Lib.hid HNN2.out.symm
                rw [HSN2.out, HNN3.out]
                have HE9 := Lib.hid (HE5.out.trans EI.out)
                clear htk hT hPL t0 t1 t2
                go_wp2
                go_roundw
                case rel => first | exact ⟨k + 1, by omega, by go_num, rfl, rfl, HE9⟩ | ((repeat apply Exists.intro); exact ⟨⟨k + 1, by omega, by go_num, rfl, rfl, HE9⟩, rfl⟩)
                case measure => (simp [intOf] <;> omega)
      · obtain rfl : k = K := by omega
        have hend := HNAR.out k
        have hnc := HNC.out
        rw [HSOL.out] at hend ⊢
        have HBE : Hid (Below w.heap.size w wr) := Lib.hid (HW2.out.trans (HE4.out.trans ER.out))
        by_cases hneg : narTo N os k < 0
        · have hs0 : sol = 0 := hend.2.2 hneg
          rw [if_pos hneg] at hnc
          subst hs0
          subst hnc
          clear hend
          go_wp2
          go_ret
          exact ⟨rfl, HBE.out⟩
        · have hs0 : ¬ sol = 0 := fun h => hneg (hend.2.1 h)
          have hsb : (sol == 0) = false := by simp [hs0]
          have hnv := HNN.out (by omega)
          have hsh : shP (narTo N os k) = narTo N os k := by unfold shP; rw [if_neg hneg]
          rw [if_neg hneg] at hnc
          rw [hsh]
          subst hnc
          subst hnv
          clear hend hsh
          go_wp2
          go_ret
          exact ⟨rfl, HBE.out⟩
/-! ### the row's step: written by a program of mine (frame.py) after the guide's own frame -/
namespace fnFronts
open Go.ChangeShapes Go.WideShapes Go.ChangeAt Go.RowKit Go.Joins
open Go.ChangeMaps (open_string shut_string)
set_option linter.unusedVariables false
theorem own : ownKnob Try.prog.godebug = none := by kernel_rfl
theorem laidOut : laidOutB Try.prog = true := by kernel_rfl
set_option maxRecDepth 100000 in
theorem lifted (os : Os) (started : os.Started) (H : Type) (enc : TypeId × Value → H) :
    ReturnsInHanded {} Try.checked os 4 .any (Rows.fnFrontsSpec.pre6 enc Try.prog Try.f4 Rows.fnFrontsRow.domain false) (Rows.fnFrontsSpec.post enc Try.prog Try.f4 false true false false) := by
  refine returnsInHanded_of_change (C := Try.checked) own started (by kernel_rfl) Try.func4
    (ChangeSpec.witness6 (enc := enc) (C := Try.checked) false ⟨#[], #[.slice none 0 0], []⟩ 8 (by kernel_rfl) (by kernel_rfl) (by kernel_rfl) (by kernel_rfl)) ?_
  intro W base args ds gs before hval0 hW hcnd _
  have hval : ∀ (j : Nat) t v, Try.f4.params[j]? = some t → args[j]? = some v → Value.okWide Try.prog W .any base t v := hval0
  have hW' := hW
  obtain ⟨p, q, hA0, hV, rfl, hfz, hnd⟩ := hW
  have hA : DataW.TrodAll enc Try.prog W 0 (fun _ => true) true Try.f4.params.toList args.toList ds p := hA0
  rw [Try.params4] at hA hval
  obtain ⟨v0, vs0, d0, ds0, p0, q0, hargs, rfl, rfl, h0, r0⟩ := trodAll_cons hA
  obtain ⟨rfl, rfl, rfl⟩ := trodAll_nil r0
  obtain rfl : args = #[v0] := by cases args; simp_all
  obtain ⟨rfl, rfl⟩ := trodVars_none hV
  have k0 := h0
  have lt0 : ∀ x ∈ p0, x.block < W.heap.size := by obtain ⟨m, hm⟩ := k0; exact DataW.trod_lt m _ _ _ hm
  obtain ⟨b0, l0, c0, rfl⟩ := okWide_slice Try.underlying39 (hval 0 39 v0 rfl rfl)
  obtain ⟨z0, w0⟩ := u8x_of_trod Try.underlying39 Try.underlying5 (by kernel_rfl) h0
  clear hA0 hval0
  refine (walk_FnFronts b0 l0 c0 z0 W w0).mono fun e W' ⟨he, bel⟩ => ?_
  subst he
  exact ⟨_, rfl, _, _, _, [], _, [], hW', trodAll_mk1 (shut_bool Try.underlying4 _), (trodAll_cons_mk (Below.trod laidOut (by kernel_rfl) (of_decide_eq_true (by kernel_rfl)) k0 bel lt0) trodAll_mk0), rfl, bel.frame _, fun h => by cases h⟩
theorem over : Rows.fnFrontsRow.holds Try.pinned (OpenSpec.ofChange Rows.fnFrontsSpec) :=
  OpenClaim.holds_of_wide 4 Try.f4 rfl rfl rfl rfl rfl rfl rfl ⟨rfl, rfl, rfl, rfl, rfl⟩ rfl rfl rfl rfl rfl (by kernel_rfl) Try.func4 (by kernel_rfl)
    (of_decide_eq_true (by kernel_rfl)) (by unfold Func.isWrapper; first | (rw [if_pos (by decide +kernel)]; kernel_rfl) | (rw [if_neg (by decide +kernel)]; exact ⟨rfl, rfl⟩))
    (fun os started H enc _ => lifted os started H enc)
theorem proved : Rows.FnFrontsSaid := over
#print axioms proved
end fnFronts
end Go.Proofs.Ytnhmcmohnpbcjaa

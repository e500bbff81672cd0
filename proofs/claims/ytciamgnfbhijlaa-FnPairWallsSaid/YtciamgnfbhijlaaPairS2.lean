/- The reference's search for the best pair of courses: the walk where the lower course is laid on (printed by genpairs.py). -/
import Derived.Test.YtciamgnfbhijlaaPairS1
namespace Go.Proofs.Ytciamgnfbhijlaa
open Go.RowKit
set_option linter.unusedSimpArgs false
set_option linter.unusedVariables false
set_option linter.unnecessarySimpa false

set_option maxRecDepth 100000 in
set_option maxHeartbeats 16000000 in
theorem s_best_low {L lap : Int} {N g gt gd : Nat} (hL : 1 ≤ L) (hL2 : L ≤ 80) (hl : 1 ≤ lap) (hl2 : lap ≤ 4) (hN : (N : Int) = (L + 1) * (L + 1)) (K : Nat)
    (ih : ∀ (a b : Int), 2 * L - a - b ≤ K → 0 ≤ a → a ≤ L → 0 ≤ b → b ≤ L → freeP L lap a b → ∀ w, SS L lap N g gt gd w → Calls Try.prog 49 #[.pointer (some ⟨g, 0, none⟩), .int .i64 a, .int .i64 b] w (RetBP L lap a b N g gt gd w))
    (a b : Int) (hK : 2 * L - a - b ≤ ((K + 1 : Nat) : Int)) (a0 : 0 ≤ a) (a1 : a ≤ L) (b0 : 0 ≤ b) (b1 : b ≤ L) (hf : freeP L lap a b) (hcmp : a ≤ b) (he : ¬ (a = L ∧ b = L)) (w : World) (hS : SS L lap N g gt gd w) (i : Nat) (hi : a * (L + 1) + b = i) (hiN : i < N) (k0 : w.cell? ⟨gd, i, none⟩ = some (.bool false)) :
    Calls Try.prog 49 #[.pointer (some ⟨g, 0, none⟩), .int .i64 a, .int .i64 b] w (RetBP L lap a b N g gt gd w) := by
  have hsz : gt < w.heap.size ∧ gd < w.heap.size := ⟨hS.lt1, hS.lt2⟩
  obtain ⟨c0, c1, c2, c3, _, _, _, _, c8⟩ := four_cells hS.box
  have hBD := at_bd (L := L) (a := a) (b := b) (by omega) hL2 ⟨a0, a1⟩ ⟨b0, b1⟩
  obtain ⟨d1, d2, d3, d4⟩ := hBD
  have HS := Lib.hid hS
  have hiNI : (i : Int) < (N : Int) := by omega
  have hi0 : (0 : Int) ≤ (i : Int) := by omega
  have hNm : (N : Int) ≤ 10000 := by omega
  have HIH := Lib.hid ih
  have HF := Lib.hid hf
  have HI := Lib.hid hi
  have haL : a < L := by omega
  have t1 : (a == L) = false := by simp; omega
  clear hN ih hf he hS
  obtain ⟨M, hM, hMs, hMb⟩ := order_txt
  have HO := Lib.hid (fun W => s_l06Order W)
  rw [← hM] at HO
  have HMB := Lib.hid hMb
  clear hM hMb
  go_enter Try.func49, Try.ntmps49
  go_wp2_with (go_at_call 53; refine (HO.out _).mono ?_; rintro e w' ⟨rfl, rfl⟩)
  clear c0 c1 c2 c3 k0 hi
  go_loopw [10] (fun kv wr => ∃ (k : Nat) (o : Option PR), k ≤ 5 ∧ kv = .int .i64 k ∧ Hid (IsBest (Upto (LowK L lap a b) k) o) ∧ Hid (RP w L lap N g gt gd (w.heap.size + 1) o wr)) (fun kv _ => 5 - (intOf kv).toNat)
  case atStart =>
    refine ⟨0, none, by omega, rfl, Lib.hid (isBest_zero _), Lib.hid ⟨blk_two1 w _ _, blk_two2 w _ _, (HS.out.ext ((Ext.refl w).alloc _)).ext ((Ext.refl _).alloc _), ((ChgS.refl _ w).ext ((Ext.refl w).alloc _)).ext ((Ext.refl _).alloc _), by omega, c8, hsz.1, hsz.2⟩⟩
  case round =>
    obtain ⟨k, o, hk, rfl, HB, HR⟩ := hrel
    have hgs := HR.out.gs
    obtain ⟨c0, c1, c2, c3, _, _, _, _, hgw⟩ := four_cells HR.out.ss.box
    by_cases hkl : k < 5
    · have hkM : k < M.size := by omega
      have hoj : ord5.getD k 0 = M[k] := order_at M HMB.out k hkM
      have hqq := pc_pos (ord_pc k hkl)
      have hC : ∀ x, LowK L lap a b k x ↔ (a + qB M[k] ≤ L ∧ freeP L lap (a + qB M[k]) b ∧ ∃ y, SetR L lap (a + qB M[k]) b y ∧ x = consL M[k] y) := fun x => by rw [← hoj]; exact Iff.rfl
      rw [hoj] at hqq
      obtain ⟨q, hq⟩ : ∃ q, qB M[k] = q := ⟨_, rfl⟩
      rw [hq] at hqq hC
      have HQ : Hid (∀ W, Calls Try.prog 55 #[.int .u8 (M[k].toNat : Int)] W (RetV (.int .i64 q) W)) := Lib.hid (fun W => by
        have := s_l02Quarters (M[k].toNat : Int) W
        rw [show qI (M[k].toNat : Int) = q from hq] at this
        exact this)
      have HC := Lib.hid hC
      obtain ⟨hq1, hq4⟩ := hqq
      clear hoj hC hq
      have hbs := HR.out.lt
      have hbl := lt_of_block HR.out.now
      by_cases hA : L < a + q
      · have HN := Lib.hid (isBest_skip HB.out (fun x h => by have := ((HC.out x).1 h).1; omega))
        go_wp2_with (go_at_call 55; refine (HQ.out _).mono ?_; rintro e w' ⟨rfl, rfl⟩)
        go_roundw
        case rel => first | exact ⟨k + 1, o, by omega, by go_num, HN, Lib.hid (HR.out.ext ((Ext.refl wr).alloc _))⟩ | ((repeat apply Exists.intro); exact ⟨⟨k + 1, o, by omega, by go_num, HN, Lib.hid (HR.out.ext ((Ext.refl wr).alloc _))⟩, rfl⟩)
        case measure => simp [intOf]; omega
      · have hB : a + q ≤ L := by omega
        have HFr := Lib.hid (fun W (h : SBox g L lap (.slice (some ⟨gt, 0, none⟩) N N) (.slice (some ⟨gd, 0, none⟩) N N) W) => s_free g L lap _ _ (a + q) b W h (by omega) (by omega) (by omega) (by omega))
        obtain ⟨F, hFv⟩ : ∃ F, freeB L lap (a + q) b = F := ⟨_, rfl⟩
        rw [hFv] at HFr
        have HFB := Lib.hid hFv
        clear hFv
        go_wp2_with (go_at_call 55; refine (HQ.out _).mono ?_; rintro e w' ⟨rfl, rfl⟩)
        refine (HFr.out _ (SS.box (SS.ext HR.out.ss ((Ext.refl wr).alloc _)))).mono ?_
        rintro e w5 ⟨rfl, n5, hw5⟩
        have HR5 := Lib.hid (show RP w L lap N g gt gd (w.heap.size + 1) o w5 by rw [hw5]; exact (HR.out.ext ((Ext.refl wr).alloc _)).ext ((Ext.refl _).drewN _))
        have HX5 := Lib.hid (show w5.heap[wr.heap.size]? = some (.cells #[.int .i64 (-1), .int .i64 0, .string ⟨#[]⟩, .string ⟨#[]⟩] 48 (0, 0)) by rw [hw5]; exact heap_alloc_new wr _)
        clear hw5 c0 c1 c2 c3 HR
        cases F
        · have HN := Lib.hid (isBest_skip HB.out (fun x h => by have h2 := ((HC.out x).1 h).2.1; rw [← freeB_iff, HFB.out] at h2; cases h2))
          go_wp2
          go_roundw
          case rel => first | exact ⟨k + 1, o, by omega, by go_num, HN, HR5⟩ | ((repeat apply Exists.intro); exact ⟨⟨k + 1, o, by omega, by go_num, HN, HR5⟩, rfl⟩)
          case measure => simp [intOf]; omega
        · go_wp2_with fail
          refine (HIH.out (a + q) b (by omega) (by omega) hB b0 b1 (freeB_iff.1 HFB.out) w5 HR5.out.ss).mono ?_
          rintro e w6 ⟨o', ho', rfl, ss6, ch6⟩
          have HR6 := Lib.hid (HR5.out.call ss6 ch6)
          have hx6 := ch6.blk HX5.out (by unfold TG; omega)
          have HX6 := Lib.hid hx6
          have HO' := Lib.hid ho'
          obtain ⟨x0, x1, x2, x3, y0, y1, y2, y3, x8⟩ := four_cells hx6
          clear hx6 ss6 ch6 ho' HX5 HR5
          have hkM5 : (k : Int) + 1 ≤ (M.size : Int) := by omega
          have hex := extract_one M k hkM
          obtain ⟨E1, hE1⟩ : ∃ E1, M.extract k (k + 1) = E1 := ⟨_, rfl⟩
          rw [hE1] at hex
          have hE1s : E1.size = 1 := by rw [hex, mkS_size]; rfl
          have hk1 : IntKind.i64.wrap ((k : Int) + 1) = (k : Int) + 1 := IntWalk.i64_in _ (by omega)
          have hk2 : (0 : Int) ≤ (k : Int) + 1 := by omega
          have hk3 : ((k : Int) + 1).toNat = k + 1 := by omega
          have hk4 : (k : Int) + 1 ≤ 5 := by omega
          have hk5 : (0 : Int) ≤ (k : Int) := by omega
          have hk6 : (k : Int) ≤ (k : Int) + 1 := by omega
          have hk7 : k ≤ k + 1 := by omega
          have hk8 : k + 1 ≤ 5 := by omega
          have HEX := Lib.hid hex
          have hbx : w.heap.size + 1 < wr.heap.size := hbl
          cases o' with
          | none =>
            have HN : Hid (IsBest (Upto (LowK L lap a b) (k + 1)) o) := Lib.hid (isBest_skip HB.out (fun x h => by obtain ⟨_, _, y, hy, _⟩ := (HC.out x).1 h; exact HO'.out.2 rfl y hy))
            have z1 : cutO none = -1 := rfl
            have z2 : numO none = 0 := rfl
            have z3 : lowO none = ⟨#[]⟩ := rfl
            have z4 : highO none = ⟨#[]⟩ := rfl
            have hs1 : ¬ (9223372036854775807 < E1.size + 0) := by omega
            have hs3 : ¬ (9223372036854775807 < 1 + 0) := by omega
            clear hex
            go_wp2
            refine gen_world (fun W => RP w L lap N g gt gd (w.heap.size + 1) o W ∧ W.heap[wr.heap.size]? = some (.cells #[.int .i64 (-1), .int .i64 0, .string ⟨#[]⟩, .string ⟨#[]⟩] 48 (0, 0))) ⟨(((HR6.out.put hbl 0 _).put hbl 1 _).put hbl 2 _).put hbl 3 _, heap_setC 3 _ (heap_setC 2 _ (heap_setC 1 _ (heap_setC 0 _ HX6.out)))⟩ ?_
            rintro W7 ⟨hr7, hx7⟩
            have HR7 := Lib.hid hr7
            clear x0 x1 x2 x3 y0 y1 y2 y3 x8 HX6 HR6
            obtain ⟨x0, x1, x2, x3, y0, y1, y2, y3, x8⟩ := four_cells hx7
            clear hr7 hx7
            go_region
            all_goals
              go_wp2
              go_roundw
              case rel => first | exact ⟨k + 1, o, by omega, by go_num, HN, Lib.hid ((HR7.out.ext (Ext.refl _).drew).put hbl _ _)⟩ | ((repeat apply Exists.intro); exact ⟨⟨k + 1, o, by omega, by go_num, HN, Lib.hid ((HR7.out.ext (Ext.refl _).drew).put hbl _ _)⟩, rfl⟩)
              case measure => simp [intOf]; omega
          | some y =>
            have hbd := setR_bd (HO'.out.1 y rfl).1
            obtain ⟨l1, l2, p01, p02, p03, p04⟩ := hbd
            have z1 : cutO (some y) = pcN y := rfl
            have z2 : numO (some y) = ppN y := rfl
            have z3 : lowO (some y) = mkS y.1 := rfl
            have z4 : highO (some y) = mkS y.2 := rfl
            have hlz1 := mkS_size y.1
            have hlz2 := mkS_size y.2
            obtain ⟨p1, hp1⟩ : ∃ p, pcN y = p := ⟨_, rfl⟩
            obtain ⟨p2, hp2⟩ : ∃ p, ppN y = p := ⟨_, rfl⟩
            obtain ⟨t1, ht1⟩ : ∃ t, mkS y.1 = t := ⟨_, rfl⟩
            obtain ⟨t2, ht2⟩ : ∃ t, mkS y.2 = t := ⟨_, rfl⟩
            rw [hp1] at z1 p01 p02
            rw [hp2] at z2 p03 p04
            rw [ht1] at z3 hlz1
            rw [ht2] at z4 hlz2
            have hts1 : t1.size ≤ 80 := by omega
            have hts2 : t2.size ≤ 80 := by omega
            have hs1 : ¬ (9223372036854775807 < E1.size + t1.size) := by omega
            have hs2 : ¬ (9223372036854775807 < E1.size + t2.size) := by omega
            have hs3 : ¬ (9223372036854775807 < 1 + t1.size) := by omega
            have hs4 : ¬ (9223372036854775807 < 1 + t2.size) := by omega
            have hcost := cutZ_bd M[k]
            have HCost : Hid (∀ W, Calls Try.prog 63 #[.int .u8 (M[k].toNat : Int)] W (RetV (.int .i64 (cutZ M[k])) W)) := Lib.hid (fun W => s_l08Cost _ W)
            have HCN : Hid (cellsP (some (consL M[k] y)) = [.int .i64 (p1 + cutZ M[k]), .int .i64 (p2 + 1), .string (E1 ++ t1), .string t2]) := Lib.hid (by rw [← hp1, ← hp2, ← ht1, ← ht2, hex]; exact cells_consL _ _)
            have HNX : Hid (IsBest (Upto (LowK L lap a b) (k + 1)) (pickP o (some (consL M[k] y)))) := Lib.hid (isBest_succ HB.out ((HO'.out.map (ltP_consL M[k])).congr (fun x => (HC.out x).trans ⟨fun h => h.2.2, fun h => ⟨hB, freeB_iff.1 HFB.out, h⟩⟩)))
            have HHX : Hid (SetR L lap (a + q) (b) y) := Lib.hid (HO'.out.1 y rfl).1
            rw [pick_before] at HNX
            obtain ⟨cc, hcc⟩ : ∃ c, cutZ M[k] = c := ⟨_, rfl⟩
            obtain ⟨y', hy'⟩ : ∃ y', consL M[k] y = y' := ⟨_, rfl⟩
            rw [hcc] at hcost HCost HCN
            rw [hy'] at HCN HNX
            have hle : ∀ x, o = some x → 0 ≤ pcN x := fun x _ => pcN_nonneg x
            have HBF := Lib.hid (fun W => s_l08Before (p1 + cc) (p2 + 1) (E1 ++ t1) t2 (cutO o) (numO o) (lowO o) (highO o) W)
            have hbe := befG_eq (some y') o (fun x _ => pcN_nonneg x) hle
            have hcn := HCN.out
            unfold cellsP at hcn
            simp only [List.cons.injEq, Value.int.injEq, Value.string.injEq, true_and, and_true] at hcn
            rw [hcn.1, hcn.2.1, hcn.2.2.1, hcn.2.2.2] at hbe
            rw [hbe] at HBF
            obtain ⟨u, hu⟩ : ∃ u, beforeB (some y') o = u := ⟨_, rfl⟩
            rw [hu] at HBF HNX
            obtain ⟨hc1, hc2⟩ := hcost
            have hr1 : IntKind.i64.wrap (p1 + cc) = p1 + cc := IntWalk.i64_in _ (by omega)
            clear hle hbe hcn hu hex hp1 hp2 ht1 ht2 hcc hy' hlz1 hlz2 HO' HHX l1 l2
            go_wp2
            refine gen_world (fun W => RP w L lap N g gt gd (w.heap.size + 1) o W ∧ W.heap[wr.heap.size]? = some (.cells #[.int .i64 p1, .int .i64 p2, .string t1, .string t2] 48 (0, 0))) ⟨(((HR6.out.put hbl 0 _).put hbl 1 _).put hbl 2 _).put hbl 3 _, heap_setC 3 _ (heap_setC 2 _ (heap_setC 1 _ (heap_setC 0 _ HX6.out)))⟩ ?_
            rintro W7 ⟨hr7, hx7⟩
            have HR7 := Lib.hid hr7
            have HX7 := Lib.hid hx7
            clear x0 x1 x2 x3 y0 y1 y2 y3 x8 HX6 HR6 z1 z2 z3 z4
            obtain ⟨x0, x1, x2, x3, y0, y1, y2, y3, x8⟩ := four_cells hx7
            clear hr7 hx7
            go_region
            go_wp2
            refine gen_world (fun W => RP w L lap N g gt gd (w.heap.size + 1) o W ∧ W.heap[wr.heap.size]? = some (.cells #[.int .i64 p1, .int .i64 p2, .string (E1 ++ t1), .string t2] 48 (0, 0))) ⟨(HR7.out.ext (Ext.refl _).drew).put hbl _ _, heap_setC 2 _ (show W7.drew.heap[wr.heap.size]? = _ from HX7.out)⟩ ?_
            rintro W8 ⟨hr8, hx8⟩
            have HR8 := Lib.hid hr8
            have HX8 := Lib.hid hx8
            clear x0 x1 x2 x3 y0 y1 y2 y3 x8 HX7 HR7
            obtain ⟨x0, x1, x2, x3, y0, y1, y2, y3, x8⟩ := four_cells hx8
            clear hr8 hx8
            go_region_with (first | (go_at_call 63; refine (HCost.out _).mono ?_; rintro e w' ⟨rfl, rfl⟩))
            all_goals
              refine gen_world (fun W => RP w L lap N g gt gd (w.heap.size + 1) o W ∧ W.heap[wr.heap.size]? = some (.cells #[.int .i64 (p1 + cc), .int .i64 p2, .string (E1 ++ t1), .string t2] 48 (0, 0))) ⟨(HR8.out.ext (Ext.refl _).drew).put hbl _ _, heap_setC 0 _ (show W8.drew.heap[wr.heap.size]? = _ from HX8.out)⟩ ?_
              rintro W9 ⟨hr9, hx9⟩
              have HR9 := Lib.hid hr9
              have HX9 := Lib.hid hx9
              clear x0 x1 x2 x3 y0 y1 y2 y3 x8
              obtain ⟨x0, x1, x2, x3, y0, y1, y2, y3, x8⟩ := four_cells hx9
              obtain ⟨n0, n1, n2, n3, m0, m1, m2, m3, n8⟩ := four_cells hr9.now
              clear hr9 hx9 HR8 HX8
              cases u
              · go_wp2_with (go_at_call 71; refine (HBF.out _).mono ?_; rintro e w10 ⟨rfl, e10⟩; have HR10 := Lib.hid ((HR9.out.put hbl 1 _).ext e10); clear e10)
                go_roundw
                case rel => first | exact ⟨k + 1, o, by omega, by go_num, Lib.hid (by simpa using HNX.out), HR10⟩ | ((repeat apply Exists.intro); exact ⟨⟨k + 1, o, by omega, by go_num, Lib.hid (by simpa using HNX.out), HR10⟩, rfl⟩)
                case measure => simp [intOf]; omega
              · have hcn := HCN.out
                unfold cellsP at hcn
                simp only [List.cons.injEq, Value.int.injEq, Value.string.injEq, true_and, and_true] at hcn
                have HCE := Lib.hid hcn
                clear hcn
                go_wp2_with (go_at_call 71; refine (HBF.out _).mono ?_; rintro e w10 ⟨rfl, e10⟩; have HR10 := Lib.hid ((HR9.out.put hbl 1 _).ext e10); have hx10 := e10.block (heap_setC 1 (.int .i64 (p2 + 1)) HX9.out); obtain ⟨v0, v1, v2, v3, q0, q1, q2, q3, v8⟩ := four_cells hx10; obtain ⟨s0, s1, s2, s3, m0', m1', m2', m3', s8⟩ := four_cells HR10.out.now; clear e10 hx10)
                have hb := HR10.out.better (some y')
                rw [HCE.out.1, HCE.out.2.1, HCE.out.2.2.1, HCE.out.2.2.2] at hb
                go_roundw
                case rel => first | exact ⟨k + 1, some y', by omega, by go_num, Lib.hid (by simpa using HNX.out), Lib.hid hb⟩ | ((repeat apply Exists.intro); exact ⟨⟨k + 1, some y', by omega, by go_num, Lib.hid (by simpa using HNX.out), Lib.hid hb⟩, rfl⟩)
                case measure => simp [intOf]; omega
    · obtain rfl : k = 5 := by omega
      have HBB : Hid (IsBest (SetR L lap a b) o) := Lib.hid (HB.out.congr (fun x => setR_low hl HF.out hcmp a0 b1 haL x))
      obtain ⟨⟨f0, f1⟩, f2, ⟨t0, t1', t2', t3', g0, g1, g2, g3⟩, g4, g5, g6, g7⟩ := HR.out.ss.frz hiN
      obtain ⟨n0, n1, n2, n3, m0, m1, m2, m3, n8⟩ := four_cells HR.out.now
      have hn1 : ¬ (gd = gt) := fun h => HR.out.ss.ne3 h.symm
      have hn2 : ¬ (gt = gd) := HR.out.ss.ne3
      have hn3 : ¬ (gd = g) := fun h => HR.out.ss.ne2 h.symm
      have hn4 : ¬ (gd = w.heap.size + 1) := by omega
      have hn5 : ¬ (g = gd) := HR.out.ss.ne2
      have hn6 : ¬ (w.heap.size + 1 = gd) := by omega
      have HKP := Lib.hid (SS.keep HR.out.ss (by omega) b0 b1 HI.out.symm hiN HBB.out)
      go_wp2
      go_region
      refine gen_world (fun W => SS L lap N g gt gd W ∧ ChgS (TG gt gd) w W ∧ W.heap[w.heap.size]? = some (.cells #[.int .i64 0, .int .i64 0, .string ⟨#[]⟩, .string ⟨#[]⟩] 48 (0, 0)) ∧ W.heap[w.heap.size + 1]? = some (.cells #[.int .i64 (cutO o), .int .i64 (numO o), .string (lowO o), .string (highO o)] 48 (0, 0))) ⟨HKP.out.ext (Ext.refl _).drew, (((((HR.out.ch.set (.inl (.inr rfl)) _).set (.inl (.inl rfl)) _).set (.inl (.inl rfl)) _).set (.inl (.inl rfl)) _).set (.inl (.inl rfl)) _).ext (Ext.refl _).drew, heap_setN _ _ _ (heap_setN _ _ _ (heap_setN _ _ _ (heap_setN _ _ _ (heap_setN _ _ _ HR.out.res (by omega)) (by omega)) (by omega)) (by omega)) (by omega), heap_setN _ _ _ (heap_setN _ _ _ (heap_setN _ _ _ (heap_setN _ _ _ (heap_setN _ _ _ HR.out.now (by omega)) (by omega)) (by omega)) (by omega)) (by omega)⟩ ?_
      rintro W10 ⟨k10, ch10, hr10, hn10⟩
      have HK10 := Lib.hid k10
      have HC10 := Lib.hid ch10
      have hgs10 := hgs
      clear f1 g0 g1 g2 g3 g4 g5 g6 g7 f2 n0 n1 n2 n3 m0 m1 m2 m3 n8 c0 c1 c2 c3 k10 ch10
      obtain ⟨n0, n1, n2, n3, _, _, _, _, n8⟩ := four_cells hn10
      obtain ⟨r0, r1, r2, r3, y0, y1, y2, y3, r8⟩ := four_cells hr10
      have HRR := Lib.hid (resP_four r0 r1 r2 r3)
      have HFIN := Lib.hid (fun v0 v1 v2 v3 => ss_set4 HK10.out HC10.out hgs10 v0 v1 v2 v3)
      go_wp2
      have hr := HRR.out
      refine bodyPost_ret (v := .agg #[.int .i64 (cutO o), .int .i64 (numO o), .string (lowO o), .string (highO o)]) (by simp [results, Try.results49, go_sem, hr]) rfl ?_
      exact ⟨o, HBB.out, rfl, (HFIN.out _ _ _ _).1, (HFIN.out _ _ _ _).2⟩
end Go.Proofs.Ytciamgnfbhijlaa

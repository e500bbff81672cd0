/- Contract: a mould is read from a text, the reference's. -/
import Derived.Test.YtdedamamjkpcpaaGreatDoorMouldH
namespace Go.Proofs.YtdedamamjkpcpaaGreatDoor
open Go.RowKit
set_option linter.unusedSimpArgs false
set_option linter.unusedVariables false
set_option linter.unnecessarySimpa false

set_option maxRecDepth 100000 in
set_option maxHeartbeats 6000000 in
theorem s_ReadMould (s : ByteArray) (hs : s.size ≤ 2000000) (w : World) : Calls Tryz.prog 21 #[.string s] w (RetRM s w) := by
  have HE0 : Hid (Ext w (w.alloc (.cells #[.int .i64 0, .int .i64 0, .int .i64 0, .int .i64 0] 29))) := Lib.hid ((Ext.refl w).alloc _)
  have HR0 := Lib.hid (heap_alloc_new w (.cells #[.int .i64 0, .int .i64 0, .int .i64 0, .int .i64 0] 29))
  have hSP := fun W => s_l01Split s 32 32 rfl hs W
  unfold splS at hSP
  obtain ⟨XS, hXS⟩ : ∃ XS, splL 32 (bts s) = XS := ⟨_, rfl⟩
  rw [hXS] at hSP
  obtain ⟨n, hn⟩ : ∃ n, (XS.map mkS).length = n := ⟨_, rfl⟩
  have hl : XS.length = n := by rw [← hn, List.length_map]
  have hmem := splL_mem 32 (bts s)
  rw [hXS, bts_length] at hmem
  by_cases hn3 : n = 3
  case neg =>
    have HNo : Hid (noRM (bts s)) := Lib.hid (noRM_len (by rw [hXS, hl]; exact hn3))
    have hni : ¬ (n : Int) = 3 := by omega
    have hnb : ((n : Int) == 3) = false := by simp; omega
    clear hn3 hXS hl hmem
    go_enter Tryz.func21, Tryz.ntmps21
    go_wp2_with (go_at_call 56; refine (hSP _).mono ?_; rintro e w1 ⟨ao, cap, rfl, ho, e1⟩; rw [hn]; have HE1 := Lib.hid (HE0.out.trans e1); obtain ⟨r0, r1, r2, r3, r4, r5, r6, r7, r8⟩ := four_mould (e1.block HR0.out); clear ho e1 hSP hn)
    refine bodyPost_ret (v := .tuple #[.agg #[.int .i64 0, .int .i64 0, .int .i64 0, .int .i64 0], .bool false]) (by simp [results, Tryz.results21, go_sem, r0, r1, r2, r3]) rfl ?_
    exact RetRM.none HNo.out (by repeat' (first | exact HE1.out | (dsimp only; omega) | refine Ext.setCell ?_ ?_ _))
  case pos =>
    subst hn3
    obtain ⟨v0, v1, v2, rfl⟩ := three_of hl
    have hz0 := hmem v0 (by simp)
    have hz2 := hmem v2 (by simp)
    have HXS := Lib.hid hXS
    have HSP : Hid (∀ W, Calls Tryz.prog 56 #[.string s, .int .u8 32] W (fun e w' => ∃ ao cap, e = .returned (.slice ao 3 cap) ∧ Strs w' ao 3 [mkS v0, mkS v1, mkS v2] ∧ Ext W w')) := Lib.hid (fun W => (hSP W).mono (by
      rintro e w' ⟨ao, cap, rfl, ho, e1⟩
      exact ⟨ao, cap, rfl, ho.strs, e1⟩))
    have hSQ := fun W => s_l01Split (mkS v0) 120 120 rfl (by rw [mkS_size]; omega) W
    unfold splS at hSQ
    rw [bts_mkS] at hSQ
    have HD : Hid (∀ q : List UInt8, q.length ≤ 2000000 → ∀ W, Calls Tryz.prog 57 #[.string (mkS q)] W (fun e w' => e = .returned (.tuple #[.int .i64 (rdN q), .bool (rdB q)]) ∧ Ext W w')) := Lib.hid (fun q hq W => by
      have h := s_l01Number (mkS q) (by rw [mkS_size]; omega) W
      unfold RetNum at h
      rw [bts_mkS] at h
      exact h)
    clear hSP hn hl hmem hXS
    by_cases hu : v1 = usedL
    case neg =>
      have HNo := Lib.hid (noRM_used HXS.out hu)
      have h4 : ((mkS v1).toList == [117, 115, 101, 100]) = false := (show ((mkS v1).toList == [117, 115, 101, 100]) = ((mkS v1).toList == (⟨#[117, 115, 101, 100]⟩ : ByteArray).toList) by rw [ByteArray.toList_eq (⟨#[117, 115, 101, 100]⟩ : ByteArray)]).trans (toList_ne (fun e => hu (by have := congrArg bts e; rw [bts_mkS] at this; rw [this]; rfl)))
      generalize mkS v1 = t1 at *
      clear hu hSQ HD
      go_enter Tryz.func21, Tryz.ntmps21
      go_wp2_with fail
      refine (HSP.out _).mono ?_
      rintro e w1 ⟨ao, cap, rfl, ho, e1⟩
      obtain ⟨g, off, rfl, c0, c1, c2⟩ := strs3 ho
      have HE1 := Lib.hid (HE0.out.trans e1)
      obtain ⟨r0, r1, r2, r3, r4, r5, r6, r7, r8⟩ := four_mould (e1.block HR0.out)
      clear ho e1 HSP
      go_wp2
      refine bodyPost_ret (v := .tuple #[.agg #[.int .i64 0, .int .i64 0, .int .i64 0, .int .i64 0], .bool false]) (by simp [results, Tryz.results21, go_sem, r0, r1, r2, r3]) rfl ?_
      exact RetRM.none HNo.out (by repeat' (first | exact HE1.out | (dsimp only; omega) | refine Ext.setCell ?_ ?_ _))
    case pos =>
      subst hu
      rw [show mkS usedL = (⟨#[117, 115, 101, 100]⟩ : ByteArray) from rfl] at HSP
      obtain ⟨YS, hYS⟩ : ∃ YS, splL 120 v0 = YS := ⟨_, rfl⟩
      rw [hYS] at hSQ
      obtain ⟨m, hm⟩ : ∃ m, (YS.map mkS).length = m := ⟨_, rfl⟩
      have hl : YS.length = m := by rw [← hm, List.length_map]
      have hmem := splL_mem 120 v0
      rw [hYS] at hmem
      by_cases hm3 : m = 3
      case neg =>
        have HNo : Hid (noRM (bts s)) := Lib.hid (noRM_v HXS.out (by rw [hYS, hl]; exact hm3))
        have hni : ¬ (m : Int) = 3 := by omega
        have hnb : ((m : Int) == 3) = false := by simp; omega
        generalize mkS v0 = t0 at *
        clear hm3 hYS hl hmem HD
        go_enter Tryz.func21, Tryz.ntmps21
        go_wp2_with fail
        refine (HSP.out _).mono ?_
        rintro e w1 ⟨ao, cap, rfl, ho, e1⟩
        obtain ⟨g, off, rfl, c0, c1, c2⟩ := strs3 ho
        have HE1 := Lib.hid (HE0.out.trans e1)
        have HR1 := Lib.hid (e1.block HR0.out)
        clear ho e1 HSP
        go_wp2_with fail
        refine (hSQ _).mono ?_
        rintro e w2 ⟨ao2, cap2, rfl, ho2, e2⟩
        rw [hm]
        have HE2 := Lib.hid (HE1.out.trans e2)
        obtain ⟨r0, r1, r2, r3, r4, r5, r6, r7, r8⟩ := four_mould (e2.block HR1.out)
        clear ho2 e2 hSQ hm c0 c1 c2
        go_wp2
        refine bodyPost_ret (v := .tuple #[.agg #[.int .i64 0, .int .i64 0, .int .i64 0, .int .i64 0], .bool false]) (by simp [results, Tryz.results21, go_sem, r0, r1, r2, r3]) rfl ?_
        exact RetRM.none HNo.out (by repeat' (first | exact HE2.out | (dsimp only; omega) | refine Ext.setCell ?_ ?_ _))
      case pos =>
        subst hm3
        obtain ⟨u0, u1, u2, rfl⟩ := three_of hl
        have hy0 := hmem u0 (by simp)
        have hy1 := hmem u1 (by simp)
        have hy2 := hmem u2 (by simp)
        have HSQ : Hid (∀ W, Calls Tryz.prog 56 #[.string (mkS v0), .int .u8 120] W (fun e w' => ∃ ao cap, e = .returned (.slice ao 3 cap) ∧ Strs w' ao 3 [mkS u0, mkS u1, mkS u2] ∧ Ext W w')) := Lib.hid (fun W => (hSQ W).mono (by
          rintro e w' ⟨ao, cap, rfl, ho, e1⟩
          exact ⟨ao, cap, rfl, ho.strs, e1⟩))
        have hno := fun h => noRM_rd HXS.out hYS h
        have hyes := fun b0 b1 b2 b3 => rm_words HXS.out hYS b0 b1 b2 b3
        have HD0 := Lib.hid (HD.out u0 (by omega))
        have HD1 := Lib.hid (HD.out u1 (by omega))
        have HD2 := Lib.hid (HD.out u2 (by omega))
        have HD3 := Lib.hid (HD.out v2 (by omega))
        have ht0 := fun h => rdN_t (s := u0) h
        have ht1 := fun h => rdN_t (s := u1) h
        have ht2 := fun h => rdN_t (s := u2) h
        have ht3 := fun h => rdN_t (s := v2) h
        clear hSQ hm hl hmem hYS HD HXS hz0 hz2 hy0 hy1 hy2
        generalize mkS v0 = t0 at *
        generalize mkS v2 = t2 at *
        generalize mkS u0 = k0 at *
        generalize mkS u1 = k1 at *
        generalize mkS u2 = k2 at *
        generalize rdB u0 = B0 at *
        generalize rdB u1 = B1 at *
        generalize rdB u2 = B2 at *
        generalize rdB v2 = B3 at *
        generalize rdV u0 = V0 at *
        generalize rdV u1 = V1 at *
        generalize rdV u2 = V2 at *
        generalize rdV v2 = V3 at *
        generalize rdN u0 = N0 at *
        generalize rdN u1 = N1 at *
        generalize rdN u2 = N2 at *
        generalize rdN v2 = N3 at *
        have HNO := Lib.hid hno
        have HYES := Lib.hid hyes
        have HT0 := Lib.hid ht0
        have HT1 := Lib.hid ht1
        have HT2 := Lib.hid ht2
        have HT3 := Lib.hid ht3
        clear hno hyes ht0 ht1 ht2 ht3
        go_enter Tryz.func21, Tryz.ntmps21
        go_wp2_with fail
        refine (HSP.out _).mono ?_
        rintro e w1 ⟨ao, cap, rfl, ho, e1⟩
        obtain ⟨g, off, rfl, c0, c1, c2⟩ := strs3 ho
        have HE1 := Lib.hid (HE0.out.trans e1)
        have HR1 := Lib.hid (e1.block HR0.out)
        have HC1 := Lib.hid c2
        clear ho e1 HSP HE0 HR0
        go_wp2_with fail
        refine (HSQ.out _).mono ?_
        rintro e w2 ⟨ao2, cap2, rfl, ho2, e2⟩
        obtain ⟨g2, off2, rfl, d0, d1, d2⟩ := strs3 ho2
        have HE2 := Lib.hid (HE1.out.trans e2)
        have HR2 := Lib.hid (e2.block HR1.out)
        have HC2 := Lib.hid (e2.cell HC1.out)
        have HX1 := Lib.hid d1
        have HX2 := Lib.hid d2
        clear ho2 e2 HSQ c0 c1 c2 HE1 HR1 HC1 d1 d2
        go_wp2_with fail
        refine (HD0.out _).mono ?_
        rintro e w3 ⟨rfl, e3⟩
        have HE3 := Lib.hid (HE2.out.trans e3)
        have HR3 := Lib.hid (e3.block HR2.out)
        have HC3 := Lib.hid (e3.cell HC2.out)
        have d1 := e3.cell HX1.out
        have HX3 := Lib.hid (e3.cell HX2.out)
        clear e3 d0 HE2 HR2 HC2 HX1 HX2 HD0
        go_wp2_with fail
        refine (HD1.out _).mono ?_
        rintro e w4 ⟨rfl, e4⟩
        have HE4 := Lib.hid (HE3.out.trans e4)
        have HR4 := Lib.hid (e4.block HR3.out)
        have HC4 := Lib.hid (e4.cell HC3.out)
        have d2 := e4.cell HX3.out
        clear e4 d1 HE3 HR3 HC3 HX3 HD1
        go_wp2_with fail
        refine (HD2.out _).mono ?_
        rintro e w5 ⟨rfl, e5⟩
        have HE5 := Lib.hid (HE4.out.trans e5)
        have HR5 := Lib.hid (e5.block HR4.out)
        have c2 := e5.cell HC4.out
        clear e5 d2 HE4 HR4 HC4 HD2
        go_wp2_with fail
        refine (HD3.out _).mono ?_
        rintro e w6 ⟨rfl, e6⟩
        have HE6 := Lib.hid ((HE5.out.trans e6).alloc (.cells #[.int .i64 N0, .int .i64 N1, .int .i64 N2, .int .i64 N3] 29))
        have HR6 := Lib.hid (((Ext.refl w6).alloc (.cells #[.int .i64 N0, .int .i64 N1, .int .i64 N2, .int .i64 N3] 29)).block (e6.block HR5.out))
        have HB6 : Hid (MBox (w6.alloc (.cells #[.int .i64 N0, .int .i64 N1, .int .i64 N2, .int .i64 N3] 29)) w6.heap.size N0 N1 N2 N3) := Lib.hid (heap_alloc_new w6 _)
        have HO := Lib.hid (s_l05One w6.heap.size N0 N1 N2 N3 _ HB6.out)
        obtain ⟨r0, r1, r2, r3, r4, r5, r6, r7, r8⟩ := four_mould HR6.out
        obtain ⟨q0, q1, q2, q3, q4⟩ := four_cells HB6.out
        clear e6 c2 HE5 HR5 HD3 HB6 HR6
        cases B0
        case false =>
          have HNo := Lib.hid (HNO.out rfl)
          clear HNO HYES HO HT0 HT1 HT2 HT3
          go_wp2
          refine bodyPost_ret (v := .tuple #[.agg #[.int .i64 0, .int .i64 0, .int .i64 0, .int .i64 0], .bool false]) (by simp [results, Tryz.results21, go_sem, r0, r1, r2, r3]) rfl ?_
          exact RetRM.none HNo.out (by repeat' (first | exact HE6.out | (dsimp only; omega) | refine Ext.setCell ?_ ?_ _))
        case true =>
          cases B1
          case false =>
            have HNo := Lib.hid (HNO.out rfl)
            clear HNO HYES HO HT0 HT1 HT2 HT3
            go_wp2
            refine bodyPost_ret (v := .tuple #[.agg #[.int .i64 0, .int .i64 0, .int .i64 0, .int .i64 0], .bool false]) (by simp [results, Tryz.results21, go_sem, r0, r1, r2, r3]) rfl ?_
            exact RetRM.none HNo.out (by repeat' (first | exact HE6.out | (dsimp only; omega) | refine Ext.setCell ?_ ?_ _))
          case true =>
            cases B2
            case false =>
              have HNo := Lib.hid (HNO.out rfl)
              clear HNO HYES HO HT0 HT1 HT2 HT3
              go_wp2
              refine bodyPost_ret (v := .tuple #[.agg #[.int .i64 0, .int .i64 0, .int .i64 0, .int .i64 0], .bool false]) (by simp [results, Tryz.results21, go_sem, r0, r1, r2, r3]) rfl ?_
              exact RetRM.none HNo.out (by repeat' (first | exact HE6.out | (dsimp only; omega) | refine Ext.setCell ?_ ?_ _))
            case true =>
              cases B3
              case false =>
                have HNo := Lib.hid (HNO.out rfl)
                clear HNO HYES HO HT0 HT1 HT2 HT3
                go_wp2
                refine bodyPost_ret (v := .tuple #[.agg #[.int .i64 0, .int .i64 0, .int .i64 0, .int .i64 0], .bool false]) (by simp [results, Tryz.results21, go_sem, r0, r1, r2, r3]) rfl ?_
                exact RetRM.none HNo.out (by repeat' (first | exact HE6.out | (dsimp only; omega) | refine Ext.setCell ?_ ?_ _))
              case true =>
                obtain rfl := HT0.out rfl
                obtain rfl := HT1.out rfl
                obtain rfl := HT2.out rfl
                obtain rfl := HT3.out rfl
                have HY := Lib.hid (HYES.out rfl rfl rfl rfl)
                cases hm : mouldB N0 N1 N2 N3
                case false =>
                  have HNo := Lib.hid (HNO.out hm)
                  rw [hm] at HO
                  clear HNO HYES HT0 HT1 HT2 HT3 hm
                  go_wp2_with fail
                  refine HO.out.mono ?_
                  rintro e w' ⟨rfl, rfl⟩
                  go_wp2
                  refine bodyPost_ret (v := .tuple #[.agg #[.int .i64 0, .int .i64 0, .int .i64 0, .int .i64 0], .bool false]) (by simp [results, Tryz.results21, go_sem, r0, r1, r2, r3]) rfl ?_
                  exact RetRM.none HNo.out (by repeat' (first | exact HE6.out | (dsimp only; omega) | refine Ext.setCell ?_ ?_ _))
                case true =>
                  have HM := Lib.hid hm
                  rw [hm] at HO
                  clear HNO HYES HT0 HT1 HT2 HT3 hm
                  go_wp2_with fail
                  refine HO.out.mono ?_
                  rintro e w' ⟨rfl, rfl⟩
                  go_wp2
                  refine bodyPost_ret (v := .tuple #[.agg #[.int .i64 N0, .int .i64 N1, .int .i64 N2, .int .i64 N3], .bool true]) (by simp [results, Tryz.results21, go_sem, r0, r1, r2, r3]) rfl ?_
                  exact RetRM.some HM.out HY.out (by repeat' (first | exact HE6.out | (dsimp only; omega) | refine Ext.setCell ?_ ?_ _))
end Go.Proofs.YtdedamamjkpcpaaGreatDoor

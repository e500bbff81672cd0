/- Contracts: whether a front is valid, the reference's side. -/
import Derived.Test.YtnhmcmohnpbcjaaFrontV2
namespace Go.Proofs.Ytnhmcmohnpbcjaa
open Go.RowKit
set_option linter.unusedSimpArgs false
set_option linter.unusedVariables false
set_option linter.unnecessarySimpa false

set_option maxRecDepth 100000 in
set_option maxHeartbeats 4000000 in
theorem s_l09Ok (fb : Nat) (L C : Int) (ao : Option Addr) (n c : Nat) (os : List Opn) (w : World) (hf : Three w fb (.int .i64 L) (.int .i64 C) (.slice ao n c)) (hx : Opens w ao n os) :
    Calls Try.prog 46 #[.pointer (some ⟨fb, 0, none⟩)] w (RetE (.bool (validF L C os)) w) := by
  have hxl := hx.1
  have hxm := hx.2.1
  obtain ⟨f0, f1, f2, f3⟩ := id hf
  by_cases q1 : inB L 1 200 = true
  · by_cases q2 : inB C 1 40 = true
    · have HV : Hid (validF L C os = (decide (n ≤ 8) && okTo L C os n)) := Lib.hid (by unfold validF; rw [q1, q2, hxl]; simp)
      have HO := Lib.hid (fun b x W h => s_l09One b L C (.slice ao n c) x W h)
      have HB := Lib.hid (fun k (hk : k < os.length) (h : okAt L C os k = false) => validF_bad hk h)
      have HX := Lib.hid hx
      have HL := Lib.hid hxl
      have HF := Lib.hid hf
      clear hx hxl hf
      go_enter Try.func46, Try.ntmps46
      go_wp2_with (go_at_call 86; refine (s_l00In _ _ _ _).mono ?_; rintro e w' ⟨rfl, rfl⟩)
      clear f0 f1 f2 f3
      go_loopw [3] (fun i wr => ∃ k : Nat, k ≤ n ∧ i = .int .i64 k ∧ okTo L C os k = true ∧ Ext w wr) (fun i _ => n - (intOf i).toNat)
      case atStart => exact ⟨0, Nat.zero_le _, rfl, rfl, Ext.refl _⟩
      case round =>
        obtain ⟨k, hk, rfl, hok, er⟩ := hrel
        have HOK := Lib.hid hok
        clear hok
        obtain ⟨f0, f1, f2, f3⟩ := HF.out.ext er
        have HER := Lib.hid er
        by_cases hlt : k < n
        · obtain ⟨bb, off, rfl, c0, c1, c2, c3⟩ := (HX.out.ext er).2.2.1 k hlt
          have hkx : k < os.length := by have := HL.out; omega
          obtain ⟨x, hxk⟩ : ∃ x, os.getD k default = x := ⟨_, rfl⟩
          have hoka : okAt L C os k = (isOpn L C x && ((decide (k = 0) || befB (os.getD (k - 1) default) x) && !((os.take k).any fun p => ovl p x))) := by unfold okAt; rw [hxk]
          rw [hxk] at c0 c1 c2 c3
          have HBK := Lib.hid (HB.out k hkx)
          have HOA := Lib.hid hoka
          have HS : Hid (okAt L C os k = true → okTo L C os (k + 1) = true) := Lib.hid (fun h => by unfold okTo; rw [HOK.out, h]; rfl)
          have hIx := fun b W h => HO.out b x W h
          obtain ⟨io, hio⟩ : ∃ v, isOpn L C x = v := ⟨_, rfl⟩
          rw [hio] at hIx hoka
          have HIx := Lib.hid hIx
          have HIO := Lib.hid hio
          have HXO := Lib.hid (fun p W => s_l09Overlap p x W)
          clear hIx hio hoka hxk
          have hkn : (k : Int) < (n : Int) := by omega
          have hk0i : (0 : Int) ≤ (k : Int) := by omega
          by_cases hk0 : k = 0
          · subst hk0
            have HF1 : Hid (io = false → validF L C os = false) := Lib.hid (fun h => HBK.out (by rw [HOA.out, HIO.out, h]; rfl))
            have HS1 : Hid (io = true → okTo L C os (0 + 1) = true) := Lib.hid (fun h => HS.out (by rw [HOA.out, HIO.out, h]; rfl))
            obtain ⟨x1, x2, x3, x4⟩ := x
            have K : Four wr bb (off + 0 * 4) x1 x2 x3 x4 := ⟨c0, c1, c2, c3⟩
            simp only [Nat.zero_mul, Nat.add_zero] at K
            obtain ⟨α, hne, F, hK⟩ := cls_of wr
            have HK := Lib.hid hK
            obtain ⟨t0, t1, t2⟩ := hK.three ⟨f0, f1, f2, f3⟩
            obtain ⟨s0, s1, s2, s3⟩ := hK.four K
            clear hK c0 c1 c2 c3 K
            cases io with
            | false =>
              go_upto_region 6 with fail
              refine wp_region_cls F (by kernel_rfl) (by kernel_rfl) HK.out.drew ?_
              repeat (go_big_quiet_step ((first | (go_at_call 47; exact HK.out.retE (HIx.out _ _ (HF.out.ext (HER.out.trans (HK.out.ext _))))))))
              refine wpQuiet_nil ?_
              rintro _ ⟨z, rfl⟩
              go_wp2
              go_ret
              exact RetE.mk (bool_eq (HF1.out (by trivial)).symm) (HER.out.trans (HK.out.ext z))
            | true =>
              go_upto_region 6 with fail
              refine wp_region_cls F (by kernel_rfl) (by kernel_rfl) HK.out.drew ?_
              repeat (go_big_quiet_step ((first | (go_at_call 47; exact HK.out.retE (HIx.out _ _ (HF.out.ext (HER.out.trans (HK.out.ext _))))))))
              refine wpQuiet_nil ?_
              rintro _ ⟨z, rfl⟩
              go_wp2
              refine wp_loop_rounds 1 ?_
              rw [rounds_succ]
              go_wp2
              go_roundw
              case rel => first | exact ⟨1, by omega, by go_num, HS1.out (by trivial), HER.out.trans (HK.out.ext z)⟩ | ((repeat apply Exists.intro); exact ⟨⟨1, by omega, by go_num, HS1.out (by trivial), HER.out.trans (HK.out.ext z)⟩, rfl⟩)
              case measure => simp [intOf]; omega
          · have hk1 : 0 < k := by omega
            have hk1i : (0 : Int) < (k : Int) := by omega
            obtain ⟨bb', off', hbb, d0, d1, d2, d3⟩ := (HX.out.ext HER.out).2.2.1 (k - 1) (by omega)
            simp only [Option.some.injEq, Addr.mk.injEq, and_true] at hbb
            obtain ⟨rfl, rfl⟩ := hbb
            have hdk : decide (k = 0) = false := by simp [hk0]
            obtain ⟨y, hy⟩ : ∃ y, os.getD (k - 1) default = y := ⟨_, rfl⟩
            rw [hy] at d0 d1 d2 d3 HOA
            have hBf := fun W => s_l09Before y x W
            obtain ⟨bv, hbv⟩ : ∃ v, befB y x = v := ⟨_, rfl⟩
            rw [hbv] at hBf HOA
            have HBf := Lib.hid hBf
            have HF1 : Hid (io = false → validF L C os = false) := Lib.hid (fun h => HBK.out (by rw [HOA.out, HIO.out, h]; rfl))
            have HF2 : Hid (bv = false → validF L C os = false) := Lib.hid (fun h => HBK.out (by rw [HOA.out, HIO.out, h, hdk]; simp))
            have HF3 : Hid ((os.take k).any (fun p => ovl p x) = true → validF L C os = false) := Lib.hid (fun h => HBK.out (by rw [HOA.out, h]; simp))
            have HS1 : Hid (io = true → bv = true → (os.take k).any (fun p => ovl p x) = false → okTo L C os (k + 1) = true) := Lib.hid (fun h1 h2 h3 => HS.out (by rw [HOA.out, HIO.out, h1, h2, h3, hdk]; rfl))
            have HAt : Hid (∀ j, j < k → ovl (os.getD j default) x = true → (os.take k).any (fun p => ovl p x) = true) := Lib.hid (fun j hj h => anyO_at hkx j hj h)
            clear hBf hbv hy hdk hk0
            obtain ⟨x1, x2, x3, x4⟩ := x
            obtain ⟨y1, y2, y3, y4⟩ := y
            have K : Four wr bb (off + k * 4) x1 x2 x3 x4 := ⟨c0, c1, c2, c3⟩
            have Y : Four wr bb (off + (k - 1) * 4) y1 y2 y3 y4 := ⟨d0, d1, d2, d3⟩
            obtain ⟨α, hne, F, hK⟩ := cls_of wr
            have HK := Lib.hid hK
            obtain ⟨t0, t1, t2⟩ := hK.three ⟨f0, f1, f2, f3⟩
            obtain ⟨s0, s1, s2, s3⟩ := hK.four K
            obtain ⟨r0, r1, r2, r3⟩ := hK.four Y
            have HKK := Lib.hid K
            clear hK c0 c1 c2 c3 K d0 d1 d2 d3 Y
            have hm1 : IntKind.i64.wrap ((k : Int) - 1) = (k : Int) - 1 := IntWalk.i64_in _ (by omega)
            have hm2 : (0 : Int) ≤ (k : Int) - 1 := by omega
            have hm2' : (1 : Int) ≤ (k : Int) := by omega
            have hm3 : ((k : Int) - 1).toNat = k - 1 := by omega
            have hm4 : (k : Int) - 1 < (n : Int) := by omega
            cases io with
            | false =>
              go_upto_region 6 with fail
              refine wp_region_cls F (by kernel_rfl) (by kernel_rfl) HK.out.drew ?_
              repeat (go_big_quiet_step ((first | (go_at_call 47; exact HK.out.retE (HIx.out _ _ (HF.out.ext (HER.out.trans (HK.out.ext _))))))))
              refine wpQuiet_nil ?_
              rintro _ ⟨z, rfl⟩
              go_wp2
              go_ret
              exact RetE.mk (bool_eq (HF1.out (by trivial)).symm) (HER.out.trans (HK.out.ext z))
            | true =>
              cases bv with
              | false =>
                go_upto_region 6 with fail
                refine wp_region_cls F (by kernel_rfl) (by kernel_rfl) HK.out.drew ?_
                repeat (go_big_quiet_step ((first | (go_at_call 47; exact HK.out.retE (HIx.out _ _ (HF.out.ext (HER.out.trans (HK.out.ext _))))) | (go_at_call 87; exact HK.out.retE (HBf.out _)))))
                refine wpQuiet_nil ?_
                rintro _ ⟨z, rfl⟩
                go_wp2
                go_ret
                exact RetE.mk (bool_eq (HF2.out (by trivial)).symm) (HER.out.trans (HK.out.ext z))
              | true =>
                go_upto_region 6 with fail
                refine wp_region_cls F (by kernel_rfl) (by kernel_rfl) HK.out.drew ?_
                repeat (go_big_quiet_step ((first | (go_at_call 47; exact HK.out.retE (HIx.out _ _ (HF.out.ext (HER.out.trans (HK.out.ext _))))) | (go_at_call 87; exact HK.out.retE (HBf.out _)))))
                refine wpQuiet_nil ?_
                rintro _ ⟨z, rfl⟩
                have HZ := Lib.hid (HK.out.ext z)
                obtain ⟨wz, hwz⟩ : ∃ wz, F z = wz := ⟨_, rfl⟩
                rw [hwz] at HZ
                go_wp2
                go_loopw [4] (fun i wi => ∃ j : Nat, j ≤ k ∧ i = .int .i64 j ∧ (os.take j).any (fun p => ovl p ⟨x1, x2, x3, x4⟩) = false ∧ Ext wr wi) (fun i _ => k - (intOf i).toNat)
                case atStart => exact ⟨0, Nat.zero_le _, rfl, by simp, HZ.out⟩
                case round =>
                  obtain ⟨j, hj, rfl, hno, ei⟩ := hrel
                  have HNO := Lib.hid hno
                  clear hno t0 t1 t2 s0 s1 s2 s3 r0 r1 r2 r3 hwz
                  have EI := Lib.hid ei
                  by_cases hjk : j < k
                  · obtain ⟨bb', off', hbb, d0, d1, d2, d3⟩ := (HX.out.ext (HER.out.trans ei)).2.2.1 j (by omega)
                    simp only [Option.some.injEq, Addr.mk.injEq, and_true] at hbb
                    obtain ⟨rfl, rfl⟩ := hbb
                    obtain ⟨y, hy⟩ : ∃ y, os.getD j default = y := ⟨_, rfl⟩
                    have hhit := HAt.out j hjk
                    rw [hy] at d0 d1 d2 d3 hhit
                    have hXO := HXO.out y
                    obtain ⟨ov, hov⟩ : ∃ v, ovl y ⟨x1, x2, x3, x4⟩ = v := ⟨_, rfl⟩
                    rw [hov] at hXO hhit
                    have HXY := Lib.hid hXO
                    have HHit := Lib.hid hhit
                    have HNext : Hid (ov = false → (os.take (j + 1)).any (fun p => ovl p ⟨x1, x2, x3, x4⟩) = false) := Lib.hid (fun h => by
                      have hjx : j < os.length := by omega
                      rw [List.take_succ_eq_append_getElem hjx, List.any_append, HNO.out]
                      rw [List.getD_eq_getElem?_getD, List.getElem?_eq_getElem hjx, Option.getD_some] at hy
                      rw [hy]
                      simp [hov, h])
                    obtain ⟨y1, y2, y3, y4⟩ := y
                    have J : Four wr bb (off + j * 4) y1 y2 y3 y4 := ⟨d0, d1, d2, d3⟩
                    obtain ⟨α, hne, F, hK⟩ := cls_of wr
                    have HK2 := Lib.hid hK
                    obtain ⟨t0, t1, t2⟩ := hK.three (HF.out.ext (HER.out.trans ei))
                    obtain ⟨s0, s1, s2, s3⟩ := hK.four (HKK.out.ext ei)
                    obtain ⟨r0, r1, r2, r3⟩ := hK.four J
                    clear hK d0 d1 d2 d3 J hXO hhit hov hy
                    have hji : (j : Int) < (n : Int) := by omega
                    have hj0 : (0 : Int) ≤ (j : Int) := by omega
                    cases ov with
                    | true =>
                      go_upto_region 11 with fail
                      refine wp_region_cls F (by kernel_rfl) (by kernel_rfl) HK2.out.drew ?_
                      repeat (go_big_quiet_step ((first | (go_at_call 48; exact HK2.out.retE (HXY.out _)))))
                      refine wpQuiet_nil ?_
                      rintro _ ⟨z, rfl⟩
                      go_wp2
                      go_ret
                      exact RetE.mk (bool_eq (HF3.out (HHit.out (by trivial))).symm) (HER.out.trans (EI.out.trans (HK2.out.ext z)))
                    | false =>
                      go_upto_region 11 with fail
                      refine wp_region_cls F (by kernel_rfl) (by kernel_rfl) HK2.out.drew ?_
                      repeat (go_big_quiet_step ((first | (go_at_call 48; exact HK2.out.retE (HXY.out _)))))
                      refine wpQuiet_nil ?_
                      rintro _ ⟨z, rfl⟩
                      go_wp2
                      go_roundw
                      case rel => first | exact ⟨j + 1, by omega, by go_num, HNext.out (by trivial), EI.out.trans (HK2.out.ext z)⟩ | ((repeat apply Exists.intro); exact ⟨⟨j + 1, by omega, by go_num, HNext.out (by trivial), EI.out.trans (HK2.out.ext z)⟩, rfl⟩)
                      case measure => simp [intOf]; omega
                  · obtain rfl : j = k := by omega
                    go_wp2
                    go_roundw
                    case rel => first | exact ⟨j + 1, by omega, by go_num, HS1.out (by trivial) (by trivial) HNO.out, HER.out.trans EI.out⟩ | ((repeat apply Exists.intro); exact ⟨⟨j + 1, by omega, by go_num, HS1.out (by trivial) (by trivial) HNO.out, HER.out.trans EI.out⟩, rfl⟩)
                    case measure => simp [intOf]; omega
        · obtain rfl : k = n := by omega
          go_wp2
          go_ret
          exact RetE.mk (bool_eq (by rw [HV.out, HOK.out, Bool.and_true]; exact decide_eq_decide.2 (by omega))) er
    · rw [Bool.not_eq_true] at q2
      have HV : Hid (validF L C os = false) := Lib.hid (by unfold validF; rw [q2]; simp)
      go_enter Try.func46, Try.ntmps46
      go_wp2_with (go_at_call 86; refine (s_l00In _ _ _ _).mono ?_; rintro e w' ⟨rfl, rfl⟩)
      go_ret
      exact RetE.mk (bool_eq HV.out.symm) (Ext.refl _)
  · rw [Bool.not_eq_true] at q1
    have HV : Hid (validF L C os = false) := Lib.hid (by unfold validF; rw [q1]; simp)
    go_enter Try.func46, Try.ntmps46
    go_wp2_with (go_at_call 86; refine (s_l00In _ _ _ _).mono ?_; rintro e w' ⟨rfl, rfl⟩)
    go_ret
    exact RetE.mk (bool_eq HV.out.symm) (Ext.refl _)
theorem s_ValidFront (L C : Int) (ao : Option Addr) (n c : Nat) (os : List Opn) (w : World) (hx : Opens w ao n os) :
    Calls Try.prog 32 #[.agg #[.int .i64 L, .int .i64 C, .slice ao n c]] w (RetE (.bool (validF L C os)) w) := by
  have e1 : Ext w (w.alloc (.cells #[.int .i64 L, .int .i64 C, .slice ao n c] 30)) := (Ext.refl w).alloc _
  have H := Lib.hid (s_l09Ok w.heap.size L C ao n c os _ (Three.new w _ _ _ 30) (hx.ext e1))
  have HE := Lib.hid e1
  clear e1
  go_enter Try.func32, Try.ntmps32
  go_wp2_with (go_at_call 46; refine H.out.mono ?_; rintro e w1 ⟨rfl, e1⟩)
  go_ret
  exact RetE.mk rfl (HE.out.trans e1)
end Go.Proofs.Ytnhmcmohnpbcjaa

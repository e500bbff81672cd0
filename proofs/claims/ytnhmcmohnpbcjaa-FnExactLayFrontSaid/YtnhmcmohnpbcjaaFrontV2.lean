/- Contracts: whether a front is valid, the program's side. -/
import Derived.Test.YtnhmcmohnpbcjaaFrontV1
import Derived.Test.YtnhmcmohnpbcjaaCls
namespace Go.Proofs.Ytnhmcmohnpbcjaa
open Go.RowKit
set_option linter.unusedSimpArgs false
set_option linter.unusedVariables false
set_option linter.unnecessarySimpa false

theorem Opens.take {w : World} {ao : Option Addr} {n : Nat} {os : List Opn} (h : Opens w ao n os) (k : Nat) (hk : k ≤ n) : Opens w ao k (os.take k) := by
  obtain ⟨h1, h2, h3, h4⟩ := h
  refine ⟨by rw [List.length_take]; omega, by omega, fun i hi => ?_, fun o ho => h4 o (List.mem_of_mem_take ho)⟩
  obtain ⟨b, off, e, c0, c1, c2, c3⟩ := h3 i (by omega)
  have ht : (os.take k).getD i default = os.getD i default := by
    rw [List.getD_eq_getElem?_getD, List.getElem?_take_of_lt hi, ← List.getD_eq_getElem?_getD]
  exact ⟨b, off, e, by rw [ht]; exact c0, by rw [ht]; exact c1, by rw [ht]; exact c2, by rw [ht]; exact c3⟩
theorem OwnOpens.cap {w : World} {base n c : Nat} {ao : Option Addr} {os : List Opn} (h : OwnOpens w base (.slice ao n c) os) : n ≤ c := by
  rcases h.1.2 with ⟨hv, h0⟩ | ⟨g, cap, cur, hv, hg, hh, hc, r⟩
  · simp only [Value.slice.injEq] at hv; omega
  · simp only [Value.slice.injEq] at hv
    obtain ⟨_, rfl, rfl⟩ := hv
    exact hc
theorem opn_at {os : List Opn} {k : Nat} (hk : k < os.length) : os.getD k default ∈ os := by
  rw [List.getD_eq_getElem?_getD, List.getElem?_eq_getElem hk]; exact List.getElem_mem _
theorem Cls.three {α : Type} {W0 : World} {F : α → World} (H : Cls W0 F) {b : Nat} {x y u : Value} (h : Three W0 b x y u) : (∀ z, (F z).cell? ⟨b, 0, none⟩ = some x) ∧ (∀ z, (F z).cell? ⟨b, 1, none⟩ = some y) ∧ (∀ z, (F z).cell? ⟨b, 2, none⟩ = some u) := ⟨H.cell h.1, H.cell h.2.1, H.cell h.2.2.1⟩
theorem Cls.four {α : Type} {W0 : World} {F : α → World} (H : Cls W0 F) {b o : Nat} {x1 x2 x3 x4 : Int} (h : Four W0 b o x1 x2 x3 x4) : (∀ z, (F z).cell? ⟨b, o, none⟩ = some (.int .i64 x1)) ∧ (∀ z, (F z).cell? ⟨b, o + 1, none⟩ = some (.int .i64 x2)) ∧ (∀ z, (F z).cell? ⟨b, o + 2, none⟩ = some (.int .i64 x3)) ∧ (∀ z, (F z).cell? ⟨b, o + 3, none⟩ = some (.int .i64 x4)) := ⟨H.cell h.1, H.cell h.2.1, H.cell h.2.2.1, H.cell h.2.2.2⟩
set_option maxRecDepth 100000 in
set_option maxHeartbeats 4000000 in
theorem i_ValidFront (L C : Int) (ao : Option Addr) (n c : Nat) (os : List Opn) (w : World) (hx : Opens w ao n os) (hnc : n ≤ c) :
    Calls Try.prog 51 #[.agg #[.int .i64 L, .int .i64 C, .slice ao n c]] w (RetE (.bool (validF L C os)) w) := by
  have HE : Hid (Ext w (w.alloc (.cells #[.int .i64 L, .int .i64 C, .slice ao n c] 30))) := Lib.hid ((Ext.refl w).alloc _)
  have hxl := hx.1
  have hxm := hx.2.1
  by_cases q1 : inB L 1 200 = true
  · by_cases q2 : inB C 1 40 = true
    · by_cases q3 : n ≤ 8
      · have HV : Hid (validF L C os = okTo L C os n) := Lib.hid (by unfold validF; rw [q1, q2, hxl]; simp [q3])
        have A : Three (w.alloc (.cells #[.int .i64 L, .int .i64 C, .slice ao n c] 30)) w.heap.size (.int .i64 L) (.int .i64 C) (.slice ao n c) := Three.new w _ _ _ _
        have HI := Lib.hid (fun x W => i_isOpening L C ao n c x W)
        have HC := Lib.hid (fun x y W => i_compareOpenings x y W)
        have HB := Lib.hid (fun k (hk : k < os.length) (h : okAt L C os k = false) => validF_bad hk h)
        have HX := Lib.hid hx
        have HL := Lib.hid hxl
        clear hx hxl
        go_enter Try.func51, Try.ntmps51
        go_wp2_with (go_at_call 79; refine (i_within _ _ _ _).mono ?_; rintro e w' ⟨rfl, rfl⟩)
        go_loopw [24] (fun i wr => ∃ k : Nat, k ≤ n ∧ i = .int .i64 k ∧ okTo L C os k = true ∧ Ext (w.alloc (.cells #[.int .i64 L, .int .i64 C, .slice ao n c] 30)) wr) (fun i _ => n - (intOf i).toNat)
        case atStart => exact ⟨0, Nat.zero_le _, rfl, rfl, Ext.refl _⟩
        case round =>
          obtain ⟨k, hk, rfl, hok, er⟩ := hrel
          have HOK := Lib.hid hok
          clear hok
          replace A := A.ext er
          have HER := Lib.hid (HE.out.trans er)
          by_cases hlt : k < n
          · have hX := HX.out.ext HER.out
            obtain ⟨bb, off, rfl, c0, c1, c2, c3⟩ := hX.2.2.1 k hlt
            have hkx : k < os.length := by have := HL.out; omega
            obtain ⟨x, hxk⟩ : ∃ x, os.getD k default = x := ⟨_, rfl⟩
            have hoka : okAt L C os k = (isOpn L C x && ((decide (k = 0) || befB (os.getD (k - 1) default) x) && !((os.take k).any fun p => ovl p x))) := by unfold okAt; rw [hxk]
            rw [hxk] at c0 c1 c2 c3
            have HBK := Lib.hid (HB.out k hkx)
            have HOA := Lib.hid hoka
            have HS : Hid (okAt L C os k = true → okTo L C os (k + 1) = true) := Lib.hid (fun h => by unfold okTo; rw [HOK.out, h]; rfl)
            have hIx := HI.out x
            obtain ⟨io, hio⟩ : ∃ v, isOpn L C x = v := ⟨_, rfl⟩
            rw [hio] at hIx hoka
            have HIx := Lib.hid hIx
            have HIO := Lib.hid hio
            clear hIx hio hoka hxk
            have HAny : Hid (∀ W, Ext wr W → Four W wr.heap.size 0 x.fr x.en x.lo x.hi → Calls Try.prog 53 #[.slice (some ⟨bb, off, none⟩) k c, .func (.func 88) #[] #[.pointer (some ⟨wr.heap.size, 0, none⟩)]] W (RetE (.bool ((os.take k).any (fun p => ovl p x))) W)) := Lib.hid (fun W e hf => by
              have h := f_ContainsFunc_opn 88 #[.pointer (some ⟨wr.heap.size, 0, none⟩)] (fun p => ovl p x) (some ⟨bb, off, none⟩) k c (os.take k) W ((HX.out.ext (HER.out.trans e)).take k (by omega)) enters_ValidFront1 (fun p w' hm e' => by
                have h2 := i_ValidFront_1 p x wr.heap.size w' (Four.ext hf e')
                rw [ovl_comm x p] at h2
                exact h2)
              exact h)
            obtain ⟨an, han⟩ : ∃ v, (os.take k).any (fun p => ovl p x) = v := ⟨_, rfl⟩
            rw [han] at HAny HOA
            have hprev : 0 < k → isOpn L C (os.getD (k - 1) default) = true := fun h0 => by
              have := okTo_at HOK.out (show k - 1 < k by omega)
              unfold okAt at this
              rw [Bool.and_eq_true] at this
              exact this.1
            have hprevn : an = false → 0 < k → ovl (os.getD (k - 1) default) x = false := fun h1 h0 => by
              cases e : ovl (os.getD (k - 1) default) x with
              | false => rfl
              | true => rw [anyO_at hkx (k - 1) (by omega) e] at han; rw [← han] at h1; cases h1
            have HPrev := Lib.hid hprev
            have HPrevN := Lib.hid hprevn
            clear han hprev hprevn
            obtain ⟨x1, x2, x3, x4⟩ := x
            have K : Four wr bb (off + k * 4) x1 x2 x3 x4 := ⟨c0, c1, c2, c3⟩
            have A2 := A.ext ((Ext.refl wr).alloc (.cells #[.int .i64 x1, .int .i64 x2, .int .i64 x3, .int .i64 x4] 34))
            have HBX := Lib.hid (four_new wr x1 x2 x3 x4 34)
            have HWR := Lib.hid ((Ext.refl wr).alloc (.cells #[.int .i64 x1, .int .i64 x2, .int .i64 x3, .int .i64 x4] 34))
            obtain ⟨K0, K1, K2, K3⟩ := K
            clear c0 c1 c2 c3 hX
            cases io with
            | false =>
              have HF : Hid (validF L C os = false) := Lib.hid (HBK.out (by rw [HOA.out, HIO.out]; rfl))
              go_upto_region 6 with fail
              obtain ⟨α, hne, F, hK⟩ := cls_of (wr.alloc (.cells #[.int .i64 x1, .int .i64 x2, .int .i64 x3, .int .i64 x4] 34))
              have HK := Lib.hid hK
              obtain ⟨t0, t1, t2⟩ := hK.three A2
              obtain ⟨s0, s1, s2, s3⟩ := hK.four HBX.out
              clear hK
              simp only [Nat.zero_add] at s1 s2 s3
              refine wp_region_cls F (by kernel_rfl) (by kernel_rfl) HK.out.drew ?_
              repeat (go_big_quiet_step ((first | (go_at_call 52; exact HK.out.retE (HIx.out _)))))
              refine wpQuiet_nil ?_
              rintro _ ⟨z, rfl⟩
              have hfin := HER.out.trans (HWR.out.trans (HK.out.ext z))
              go_wp2
              go_ret
              exact RetE.mk (bool_eq HF.out.symm) hfin
            | true =>
              by_cases hk0 : k = 0
              · subst hk0
                have HS2 : Hid (an = false → okTo L C os (0 + 1) = true) := Lib.hid (fun h => HS.out (by rw [HOA.out, HIO.out, h]; rfl))
                have HF : Hid (an = true → validF L C os = false) := Lib.hid (fun h => HBK.out (by rw [HOA.out, HIO.out, h]; simp))
                clear HPrev HPrevN
                simp only [Nat.zero_mul, Nat.add_zero] at K0 K1 K2 K3
                have hc0 : 0 ≤ c := by omega
                cases an with
                | true =>
                  go_upto_region 6 with fail
                  obtain ⟨α, hne, F, hK⟩ := cls_of (wr.alloc (.cells #[.int .i64 x1, .int .i64 x2, .int .i64 x3, .int .i64 x4] 34))
                  have HK := Lib.hid hK
                  obtain ⟨t0, t1, t2⟩ := hK.three A2
                  obtain ⟨s0, s1, s2, s3⟩ := hK.four HBX.out
                  clear hK
                  simp only [Nat.zero_add] at s1 s2 s3
                  refine wp_region_cls F (by kernel_rfl) (by kernel_rfl) HK.out.drew ?_
                  repeat (go_big_quiet_step ((first | (go_at_call 52; exact HK.out.retE (HIx.out _)) | (go_at_call 53; exact HK.out.retE (HAny.out _ (HWR.out.trans (HK.out.ext _)) (Four.ext HBX.out (HK.out.ext _)))))))
                  refine wpQuiet_nil ?_
                  rintro _ ⟨z, rfl⟩
                  have hfin := HER.out.trans (HWR.out.trans (HK.out.ext z))
                  go_wp2
                  go_ret
                  exact RetE.mk (bool_eq (HF.out (by trivial)).symm) hfin
                | false =>
                  go_upto_region 6 with fail
                  obtain ⟨α, hne, F, hK⟩ := cls_of (wr.alloc (.cells #[.int .i64 x1, .int .i64 x2, .int .i64 x3, .int .i64 x4] 34))
                  have HK := Lib.hid hK
                  obtain ⟨t0, t1, t2⟩ := hK.three A2
                  obtain ⟨s0, s1, s2, s3⟩ := hK.four HBX.out
                  clear hK
                  simp only [Nat.zero_add] at s1 s2 s3
                  refine wp_region_cls F (by kernel_rfl) (by kernel_rfl) HK.out.drew ?_
                  repeat (go_big_quiet_step ((first | (go_at_call 52; exact HK.out.retE (HIx.out _)) | (go_at_call 53; exact HK.out.retE (HAny.out _ (HWR.out.trans (HK.out.ext _)) (Four.ext HBX.out (HK.out.ext _)))))))
                  refine wpQuiet_nil ?_
                  rintro _ ⟨z, rfl⟩
                  have hfin := er.trans (HWR.out.trans (HK.out.ext z))
                  go_wp2
                  go_roundw
                  case rel => first | exact ⟨1, by omega, by go_num, HS2.out (by trivial), hfin⟩ | ((repeat apply Exists.intro); exact ⟨⟨1, by omega, by go_num, HS2.out (by trivial), hfin⟩, rfl⟩)
                  case measure => simp [intOf]; omega
              · have hk1 : 0 < k := by omega
                have hk1i : (0 : Int) < (k : Int) := by omega
                obtain ⟨bb', off', hbb, d0, d1, d2, d3⟩ := (HX.out.ext HER.out).2.2.1 (k - 1) (by omega)
                simp only [Option.some.injEq, Addr.mk.injEq, and_true] at hbb
                obtain ⟨rfl, rfl⟩ := hbb
                have hpo := HPrev.out hk1
                have hpn := fun h => HPrevN.out h hk1
                have hdk : decide (k = 0) = false := by simp [hk0]
                obtain ⟨y, hy⟩ : ∃ y, os.getD (k - 1) default = y := ⟨_, rfl⟩
                rw [hy] at d0 d1 d2 d3 hpo hpn HOA
                have hCm := HC.out y ⟨x1, x2, x3, x4⟩
                have hcb := fun h => cmp_bef hpo HIO.out (hpn h)
                have hcn := @cmp_not_bef y ⟨x1, x2, x3, x4⟩
                obtain ⟨cv, hcv⟩ : ∃ v, cmpO y ⟨x1, x2, x3, x4⟩ = v := ⟨_, rfl⟩
                rw [hcv] at hCm hcb hcn
                have hF1 : 0 < cv → validF L C os = false := fun h => HBK.out (by rw [HOA.out, HIO.out, hcn h, hdk]; rfl)
                have hF2 : an = true → validF L C os = false := fun h => HBK.out (by rw [HOA.out, HIO.out, h]; simp)
                have hS1 : ¬ 0 < cv → an = false → okTo L C os (k + 1) = true := fun h1 h2 => HS.out (by
                  have hb : befB y ⟨x1, x2, x3, x4⟩ = true := by
                    cases e : befB y ⟨x1, x2, x3, x4⟩ with
                    | true => rfl
                    | false => exact absurd ((hcb h2).2 e) h1
                  rw [HOA.out, HIO.out, h2, hb, hdk]; rfl)
                have HCm := Lib.hid hCm
                have HF1 := Lib.hid hF1
                have HF2 := Lib.hid hF2
                have HS1 := Lib.hid hS1
                clear hCm hF1 hF2 hS1 hcv hcb hcn hpo hpn hy HPrev HPrevN hdk hk0
                obtain ⟨y1, y2, y3, y4⟩ := y
                have Y : Four wr bb (off + (k - 1) * 4) y1 y2 y3 y4 := ⟨d0, d1, d2, d3⟩
                have Y2 := Y.ext ((Ext.refl wr).alloc (.cells #[.int .i64 x1, .int .i64 x2, .int .i64 x3, .int .i64 x4] 34))
                clear d0 d1 d2 d3 Y
                have hkc : k ≤ c := by omega
                have hm1 : IntKind.i64.wrap ((k : Int) - 1) = (k : Int) - 1 := IntWalk.i64_in _ (by omega)
                have hm2 : (0 : Int) ≤ (k : Int) - 1 := by omega
                have hm2' : (1 : Int) ≤ (k : Int) := by omega
                have hm3 : ((k : Int) - 1).toNat = k - 1 := by omega
                have hm4 : (k : Int) - 1 < (n : Int) := by omega
                by_cases hcp : 0 < cv
                · have HF := Lib.hid (HF1.out hcp)
                  go_upto_region 6 with fail
                  obtain ⟨α, hne, F, hK⟩ := cls_of (wr.alloc (.cells #[.int .i64 x1, .int .i64 x2, .int .i64 x3, .int .i64 x4] 34))
                  have HK := Lib.hid hK
                  obtain ⟨t0, t1, t2⟩ := hK.three A2
                  obtain ⟨s0, s1, s2, s3⟩ := hK.four HBX.out
                  obtain ⟨r0, r1, r2, r3⟩ := hK.four Y2
                  clear hK
                  simp only [Nat.zero_add] at s1 s2 s3
                  refine wp_region_cls F (by kernel_rfl) (by kernel_rfl) HK.out.drew ?_
                  repeat (go_big_quiet_step ((first | (go_at_call 52; exact HK.out.retE (HIx.out _)) | (go_at_call 57; exact HK.out.retE (HCm.out _)))))
                  refine wpQuiet_nil ?_
                  rintro _ ⟨z, rfl⟩
                  have hfin := HER.out.trans (HWR.out.trans (HK.out.ext z))
                  go_wp2
                  go_ret
                  exact RetE.mk (bool_eq HF.out.symm) hfin
                · have hcq : decide (0 < cv) = false := by simp [hcp]
                  cases an with
                  | true =>
                    have HF := Lib.hid (HF2.out rfl)
                    go_upto_region 6 with fail
                    obtain ⟨α, hne, F, hK⟩ := cls_of (wr.alloc (.cells #[.int .i64 x1, .int .i64 x2, .int .i64 x3, .int .i64 x4] 34))
                    have HK := Lib.hid hK
                    obtain ⟨t0, t1, t2⟩ := hK.three A2
                    obtain ⟨s0, s1, s2, s3⟩ := hK.four HBX.out
                    obtain ⟨r0, r1, r2, r3⟩ := hK.four Y2
                    clear hK
                    simp only [Nat.zero_add] at s1 s2 s3
                    refine wp_region_cls F (by kernel_rfl) (by kernel_rfl) HK.out.drew ?_
                    repeat (go_big_quiet_step ((first | (go_at_call 52; exact HK.out.retE (HIx.out _)) | (go_at_call 57; exact HK.out.retE (HCm.out _)) | (go_at_call 53; exact HK.out.retE (HAny.out _ (HWR.out.trans (HK.out.ext _)) (Four.ext HBX.out (HK.out.ext _)))))))
                    refine wpQuiet_nil ?_
                    rintro _ ⟨z, rfl⟩
                    have hfin := HER.out.trans (HWR.out.trans (HK.out.ext z))
                    go_wp2
                    go_ret
                    exact RetE.mk (bool_eq HF.out.symm) hfin
                  | false =>
                    have HF := Lib.hid (HS1.out hcp rfl)
                    go_upto_region 6 with fail
                    obtain ⟨α, hne, F, hK⟩ := cls_of (wr.alloc (.cells #[.int .i64 x1, .int .i64 x2, .int .i64 x3, .int .i64 x4] 34))
                    have HK := Lib.hid hK
                    obtain ⟨t0, t1, t2⟩ := hK.three A2
                    obtain ⟨s0, s1, s2, s3⟩ := hK.four HBX.out
                    obtain ⟨r0, r1, r2, r3⟩ := hK.four Y2
                    clear hK
                    simp only [Nat.zero_add] at s1 s2 s3
                    refine wp_region_cls F (by kernel_rfl) (by kernel_rfl) HK.out.drew ?_
                    repeat (go_big_quiet_step ((first | (go_at_call 52; exact HK.out.retE (HIx.out _)) | (go_at_call 57; exact HK.out.retE (HCm.out _)) | (go_at_call 53; exact HK.out.retE (HAny.out _ (HWR.out.trans (HK.out.ext _)) (Four.ext HBX.out (HK.out.ext _)))))))
                    refine wpQuiet_nil ?_
                    rintro _ ⟨z, rfl⟩
                    have hfin := er.trans (HWR.out.trans (HK.out.ext z))
                    go_wp2
                    go_roundw
                    case rel => first | exact ⟨k + 1, by omega, by go_num, HF.out, hfin⟩ | ((repeat apply Exists.intro); exact ⟨⟨k + 1, by omega, by go_num, HF.out, hfin⟩, rfl⟩)
                    case measure => simp [intOf]; omega
          · obtain rfl : k = n := by omega
            go_wp2
            go_ret
            exact RetE.mk (bool_eq (by rw [HV.out, HOK.out])) HER.out
      · have HV : Hid (validF L C os = false) := Lib.hid (by unfold validF; rw [hxl]; simp [q3])
        go_enter Try.func51, Try.ntmps51
        go_wp2_with (go_at_call 79; refine (i_within _ _ _ _).mono ?_; rintro e w' ⟨rfl, rfl⟩)
        go_ret
        exact RetE.mk (bool_eq HV.out.symm) HE.out
    · rw [Bool.not_eq_true] at q2
      have HV : Hid (validF L C os = false) := Lib.hid (by unfold validF; rw [q2]; simp)
      go_enter Try.func51, Try.ntmps51
      go_wp2_with (go_at_call 79; refine (i_within _ _ _ _).mono ?_; rintro e w' ⟨rfl, rfl⟩)
      go_ret
      exact RetE.mk (bool_eq HV.out.symm) HE.out
  · rw [Bool.not_eq_true] at q1
    have HV : Hid (validF L C os = false) := Lib.hid (by unfold validF; rw [q1]; simp)
    go_enter Try.func51, Try.ntmps51
    go_wp2_with (go_at_call 79; refine (i_within _ _ _ _).mono ?_; rintro e w' ⟨rfl, rfl⟩)
    go_ret
    exact RetE.mk (bool_eq HV.out.symm) HE.out
end Go.Proofs.Ytnhmcmohnpbcjaa

/- A group of texts, one behind the other: FrontV2, FrontV3, FrontS. -/
import Derived.Test.YtnhmcmohnpbcjaaFrontV1
import Derived.Test.YtnhmcmohnpbcjaaCls
/- Contracts: whether a front is valid, the program's side. -/
namespace Go.Proofs.Ytnhmcmohnpbcjaa
open Go.RowKit
set_option linter.unusedSimpArgs false
set_option linter.unusedVariables false
set_option linter.unnecessarySimpa false

theorem Opens.take {w : World} {ao : Option Addr} {n : Nat} {os : List Opn} (h : Opens w ao n os) (k : Nat) (hk : k ≤ n) : Opens w ao k (os.take k) := by
  obtain ⟨h1, h2, h3, h4⟩ := h
  refine ⟨by rw [List.length_take]; omega, by omega, fun i hi => ?_, fun o ho => h4 o (List.mem_of_mem_take ho)⟩
  obtain ⟨b, off, e, c0, c1, c2, c3⟩ := h3 i (by omega)
  have ht : (os.take k).getD i default = os.getD i default := by
    rw [List.getD_eq_getElem?_getD, List.getElem?_take_of_lt hi, ← List.getD_eq_getElem?_getD]
  exact ⟨b, off, e, by rw [ht]; exact c0, by rw [ht]; exact c1, by rw [ht]; exact c2, by rw [ht]; exact c3⟩
theorem OwnOpens.cap {w : World} {base n c : Nat} {ao : Option Addr} {os : List Opn} (h : OwnOpens w base (.slice ao n c) os) : n ≤ c := by
  rcases h.1.2 with ⟨hv, h0⟩ | ⟨g, cap, cur, hv, hg, hh, hc, r⟩
  · simp only [Value.slice.injEq] at hv; omega
  · simp only [Value.slice.injEq] at hv
    obtain ⟨_, rfl, rfl⟩ := hv
    exact hc
theorem opn_at {os : List Opn} {k : Nat} (hk : k < os.length) : os.getD k default ∈ os := by
  rw [List.getD_eq_getElem?_getD, List.getElem?_eq_getElem hk]; exact List.getElem_mem _
theorem Cls.three {α : Type} {W0 : World} {F : α → World} (H : Cls W0 F) {b : Nat} {x y u : Value} (h : Three W0 b x y u) : (∀ z, (F z).cell? ⟨b, 0, none⟩ = some x) ∧ (∀ z, (F z).cell? ⟨b, 1, none⟩ = some y) ∧ (∀ z, (F z).cell? ⟨b, 2, none⟩ = some u) := ⟨H.cell h.1, H.cell h.2.1, H.cell h.2.2.1⟩
theorem Cls.four {α : Type} {W0 : World} {F : α → World} (H : Cls W0 F) {b o : Nat} {x1 x2 x3 x4 : Int} (h : Four W0 b o x1 x2 x3 x4) : (∀ z, (F z).cell? ⟨b, o, none⟩ = some (.int .i64 x1)) ∧ (∀ z, (F z).cell? ⟨b, o + 1, none⟩ = some (.int .i64 x2)) ∧ (∀ z, (F z).cell? ⟨b, o + 2, none⟩ = some (.int .i64 x3)) ∧ (∀ z, (F z).cell? ⟨b, o + 3, none⟩ = some (.int .i64 x4)) := ⟨H.cell h.1, H.cell h.2.1, H.cell h.2.2.1, H.cell h.2.2.2⟩
set_option maxRecDepth 100000 in
set_option maxHeartbeats 4000000 in
theorem i_ValidFront (L C : Int) (ao : Option Addr) (n c : Nat) (os : List Opn) (w : World) (hx : Opens w ao n os) (hnc : n ≤ c) :
    Calls Try.prog 51 #[.agg #[.int .i64 L, .int .i64 C, .slice ao n c]] w (RetE (.bool (validF L C os)) w) := by
  have HE : Hid (Ext w (w.alloc (.cells #[.int .i64 L, .int .i64 C, .slice ao n c] 30))) := Lib.hid ((Ext.refl w).alloc _)
  have hxl := hx.1
  have hxm := hx.2.1
  by_cases q1 : inB L 1 200 = true
  · by_cases q2 : inB C 1 40 = true
    · by_cases q3 : n ≤ 8
      · have HV : Hid (validF L C os = okTo L C os n) := Lib.hid (by unfold validF; rw [q1, q2, hxl]; simp [q3])
        have A : Three (w.alloc (.cells #[.int .i64 L, .int .i64 C, .slice ao n c] 30)) w.heap.size (.int .i64 L) (.int .i64 C) (.slice ao n c) := Three.new w _ _ _ _
        have HI := Lib.hid (fun x W => i_isOpening L C ao n c x W)
        have HC := Lib.hid (fun x y W => i_compareOpenings x y W)
        have HB := Lib.hid (fun k (hk : k < os.length) (h : okAt L C os k = false) => validF_bad hk h)
        have HX := Lib.hid hx
        have HL := Lib.hid hxl
        clear hx hxl
        go_enter Try.func51, Try.ntmps51
        go_wp2_with (go_at_call 79; refine (i_within _ _ _ _).mono ?_; rintro e w' ⟨rfl, rfl⟩)
        go_loopw [24] (fun i wr => ∃ k : Nat, k ≤ n ∧ i = .int .i64 k ∧ okTo L C os k = true ∧ Ext (w.alloc (.cells #[.int .i64 L, .int .i64 C, .slice ao n c] 30)) wr) (fun i _ => n - (intOf i).toNat)
        case atStart => exact ⟨0, Nat.zero_le _, rfl, rfl, Ext.refl _⟩
        case round =>
          obtain ⟨k, hk, rfl, hok, er⟩ := hrel
          have HOK := Lib.hid hok
          clear hok
          replace A := A.ext er
          have HER := Lib.hid (HE.out.trans er)
          by_cases hlt : k < n
          · have hX := HX.out.ext HER.out
            obtain ⟨bb, off, rfl, c0, c1, c2, c3⟩ := hX.2.2.1 k hlt
            have hkx : k < os.length := by have := HL.out; omega
            obtain ⟨x, hxk⟩ : ∃ x, os.getD k default = x := ⟨_, rfl⟩
            have hoka : okAt L C os k = (isOpn L C x && ((decide (k = 0) || befB (os.getD (k - 1) default) x) && !((os.take k).any fun p => ovl p x))) := by unfold okAt; rw [hxk]
            rw [hxk] at c0 c1 c2 c3
            have HBK := Lib.hid (HB.out k hkx)
            have HOA := Lib.hid hoka
            have HS : Hid (okAt L C os k = true → okTo L C os (k + 1) = true) := Lib.hid (fun h => by unfold okTo; rw [HOK.out, h]; rfl)
            have hIx := HI.out x
            obtain ⟨io, hio⟩ : ∃ v, isOpn L C x = v := ⟨_, rfl⟩
            rw [hio] at hIx hoka
            have HIx := Lib.hid hIx
            have HIO := Lib.hid hio
            clear hIx hio hoka hxk
            have HAny : Hid (∀ W, Ext wr W → Four W wr.heap.size 0 x.fr x.en x.lo x.hi → Calls Try.prog 53 #[.slice (some ⟨bb, off, none⟩) k c, .func (.func 88) #[] #[.pointer (some ⟨wr.heap.size, 0, none⟩)]] W (RetE (.bool ((os.take k).any (fun p => ovl p x))) W)) := Lib.hid (fun W e hf => by
              have h := f_ContainsFunc_opn 88 #[.pointer (some ⟨wr.heap.size, 0, none⟩)] (fun p => ovl p x) (some ⟨bb, off, none⟩) k c (os.take k) W ((HX.out.ext (HER.out.trans e)).take k (by omega)) enters_ValidFront1 (fun p w' hm e' => by
                have h2 := i_ValidFront_1 p x wr.heap.size w' (Four.ext hf e')
                rw [ovl_comm x p] at h2
                exact h2)
              exact h)
            obtain ⟨an, han⟩ : ∃ v, (os.take k).any (fun p => ovl p x) = v := ⟨_, rfl⟩
            rw [han] at HAny HOA
            have hprev : 0 < k → isOpn L C (os.getD (k - 1) default) = true := fun h0 => by
              have := okTo_at HOK.out (show k - 1 < k by omega)
              unfold okAt at this
              rw [Bool.and_eq_true] at this
              exact this.1
            have hprevn : an = false → 0 < k → ovl (os.getD (k - 1) default) x = false := fun h1 h0 => by
              cases e : ovl (os.getD (k - 1) default) x with
              | false => rfl
              | true => rw [anyO_at hkx (k - 1) (by omega) e] at han; rw [← han] at h1; cases h1
            have HPrev := Lib.hid hprev
            have HPrevN := Lib.hid hprevn
            clear han hprev hprevn
            obtain ⟨x1, x2, x3, x4⟩ := x
            have K : Four wr bb (off + k * 4) x1 x2 x3 x4 := ⟨c0, c1, c2, c3⟩
            have A2 := A.ext ((Ext.refl wr).alloc (.cells #[.int .i64 x1, .int .i64 x2, .int .i64 x3, .int .i64 x4] 34))
            have HBX := Lib.hid (four_new wr x1 x2 x3 x4 34)
            have HWR := Lib.hid ((Ext.refl wr).alloc (.cells #[.int .i64 x1, .int .i64 x2, .int .i64 x3, .int .i64 x4] 34))
            obtain ⟨K0, K1, K2, K3⟩ := K
            clear c0 c1 c2 c3 hX
            cases io with
            | false =>
              have HF : Hid (validF L C os = false) := Lib.hid (HBK.out (by rw [HOA.out, HIO.out]; rfl))
              go_upto_region 6 with fail
              obtain ⟨α, hne, F, hK⟩ := cls_of (wr.alloc (.cells #[.int .i64 x1, .int .i64 x2, .int .i64 x3, .int .i64 x4] 34))
              have HK := Lib.hid hK
              obtain ⟨t0, t1, t2⟩ := hK.three A2
              obtain ⟨s0, s1, s2, s3⟩ := hK.four HBX.out
              clear hK
              simp only [Nat.zero_add] at s1 s2 s3
              refine wp_region_cls F (by kernel_rfl) (by kernel_rfl) HK.out.drew ?_
              repeat (go_big_quiet_step ((first | (go_at_call 52; exact HK.out.retE (HIx.out _)))))
              refine wpQuiet_nil ?_
              rintro _ ⟨z, rfl⟩
              have hfin := HER.out.trans (HWR.out.trans (HK.out.ext z))
              go_wp2
              go_ret
              exact RetE.mk (bool_eq HF.out.symm) hfin
            | true =>
              by_cases hk0 : k = 0
              · subst hk0
                have HS2 : Hid (an = false → okTo L C os (0 + 1) = true) := Lib.hid (fun h => HS.out (by rw [HOA.out, HIO.out, h]; rfl))
                have HF : Hid (an = true → validF L C os = false) := Lib.hid (fun h => HBK.out (by rw [HOA.out, HIO.out, h]; simp))
                clear HPrev HPrevN
                simp only [Nat.zero_mul, Nat.add_zero] at K0 K1 K2 K3
                have hc0 : 0 ≤ c := by omega
                cases an with
                | true =>
                  go_upto_region 6 with fail
                  obtain ⟨α, hne, F, hK⟩ := cls_of (wr.alloc (.cells #[.int .i64 x1, .int .i64 x2, .int .i64 x3, .int .i64 x4] 34))
                  have HK := Lib.hid hK
                  obtain ⟨t0, t1, t2⟩ := hK.three A2
                  obtain ⟨s0, s1, s2, s3⟩ := hK.four HBX.out
                  clear hK
                  simp only [Nat.zero_add] at s1 s2 s3
                  refine wp_region_cls F (by kernel_rfl) (by kernel_rfl) HK.out.drew ?_
                  repeat (go_big_quiet_step ((first | (go_at_call 52; exact HK.out.retE (HIx.out _)) | (go_at_call 53; exact HK.out.retE (HAny.out _ (HWR.out.trans (HK.out.ext _)) (Four.ext HBX.out (HK.out.ext _)))))))
                  refine wpQuiet_nil ?_
                  rintro _ ⟨z, rfl⟩
                  have hfin := HER.out.trans (HWR.out.trans (HK.out.ext z))
                  go_wp2
                  go_ret
                  exact RetE.mk (bool_eq (HF.out (by trivial)).symm) hfin
                | false =>
                  go_upto_region 6 with fail
                  obtain ⟨α, hne, F, hK⟩ := cls_of (wr.alloc (.cells #[.int .i64 x1, .int .i64 x2, .int .i64 x3, .int .i64 x4] 34))
                  have HK := Lib.hid hK
                  obtain ⟨t0, t1, t2⟩ := hK.three A2
                  obtain ⟨s0, s1, s2, s3⟩ := hK.four HBX.out
                  clear hK
                  simp only [Nat.zero_add] at s1 s2 s3
                  refine wp_region_cls F (by kernel_rfl) (by kernel_rfl) HK.out.drew ?_
                  repeat (go_big_quiet_step ((first | (go_at_call 52; exact HK.out.retE (HIx.out _)) | (go_at_call 53; exact HK.out.retE (HAny.out _ (HWR.out.trans (HK.out.ext _)) (Four.ext HBX.out (HK.out.ext _)))))))
                  refine wpQuiet_nil ?_
                  rintro _ ⟨z, rfl⟩
                  have hfin := er.trans (HWR.out.trans (HK.out.ext z))
                  go_wp2
                  go_roundw
                  case rel => first | exact ⟨1, by omega, by go_num, HS2.out (by trivial), hfin⟩ | ((repeat apply Exists.intro); exact ⟨⟨1, by omega, by go_num, HS2.out (by trivial), hfin⟩, rfl⟩)
                  case measure => simp [intOf]; omega
              · have hk1 : 0 < k := by omega
                have hk1i : (0 : Int) < (k : Int) := by omega
                obtain ⟨bb', off', hbb, d0, d1, d2, d3⟩ := (HX.out.ext HER.out).2.2.1 (k - 1) (by omega)
                simp only [Option.some.injEq, Addr.mk.injEq, and_true] at hbb
                obtain ⟨rfl, rfl⟩ := hbb
                have hpo := HPrev.out hk1
                have hpn := fun h => HPrevN.out h hk1
                have hdk : decide (k = 0) = false := by simp [hk0]
                obtain ⟨y, hy⟩ : ∃ y, os.getD (k - 1) default = y := ⟨_, rfl⟩
                rw [hy] at d0 d1 d2 d3 hpo hpn HOA
                have hCm := HC.out y ⟨x1, x2, x3, x4⟩
                have hcb := fun h => cmp_bef hpo HIO.out (hpn h)
                have hcn := @cmp_not_bef y ⟨x1, x2, x3, x4⟩
                obtain ⟨cv, hcv⟩ : ∃ v, cmpO y ⟨x1, x2, x3, x4⟩ = v := ⟨_, rfl⟩
                rw [hcv] at hCm hcb hcn
                have hF1 : 0 < cv → validF L C os = false := fun h => HBK.out (by rw [HOA.out, HIO.out, hcn h, hdk]; rfl)
                have hF2 : an = true → validF L C os = false := fun h => HBK.out (by rw [HOA.out, HIO.out, h]; simp)
                have hS1 : ¬ 0 < cv → an = false → okTo L C os (k + 1) = true := fun h1 h2 => HS.out (by
                  have hb : befB y ⟨x1, x2, x3, x4⟩ = true := by
                    cases e : befB y ⟨x1, x2, x3, x4⟩ with
                    | true => rfl
                    | false => exact absurd ((hcb h2).2 e) h1
                  rw [HOA.out, HIO.out, h2, hb, hdk]; rfl)
                have HCm := Lib.hid hCm
                have HF1 := Lib.hid hF1
                have HF2 := Lib.hid hF2
                have HS1 := Lib.hid hS1
                clear hCm hF1 hF2 hS1 hcv hcb hcn hpo hpn hy HPrev HPrevN hdk hk0
                obtain ⟨y1, y2, y3, y4⟩ := y
                have Y : Four wr bb (off + (k - 1) * 4) y1 y2 y3 y4 := ⟨d0, d1, d2, d3⟩
                have Y2 := Y.ext ((Ext.refl wr).alloc (.cells #[.int .i64 x1, .int .i64 x2, .int .i64 x3, .int .i64 x4] 34))
                clear d0 d1 d2 d3 Y
                have hkc : k ≤ c := by omega
                have hm1 : IntKind.i64.wrap ((k : Int) - 1) = (k : Int) - 1 := IntWalk.i64_in _ (by omega)
                have hm2 : (0 : Int) ≤ (k : Int) - 1 := by omega
                have hm2' : (1 : Int) ≤ (k : Int) := by omega
                have hm3 : ((k : Int) - 1).toNat = k - 1 := by omega
                have hm4 : (k : Int) - 1 < (n : Int) := by omega
                by_cases hcp : 0 < cv
                · have HF := Lib.hid (HF1.out hcp)
                  go_upto_region 6 with fail
                  obtain ⟨α, hne, F, hK⟩ := cls_of (wr.alloc (.cells #[.int .i64 x1, .int .i64 x2, .int .i64 x3, .int .i64 x4] 34))
                  have HK := Lib.hid hK
                  obtain ⟨t0, t1, t2⟩ := hK.three A2
                  obtain ⟨s0, s1, s2, s3⟩ := hK.four HBX.out
                  obtain ⟨r0, r1, r2, r3⟩ := hK.four Y2
                  clear hK
                  simp only [Nat.zero_add] at s1 s2 s3
                  refine wp_region_cls F (by kernel_rfl) (by kernel_rfl) HK.out.drew ?_
                  repeat (go_big_quiet_step ((first | (go_at_call 52; exact HK.out.retE (HIx.out _)) | (go_at_call 57; exact HK.out.retE (HCm.out _)))))
                  refine wpQuiet_nil ?_
                  rintro _ ⟨z, rfl⟩
                  have hfin := HER.out.trans (HWR.out.trans (HK.out.ext z))
                  go_wp2
                  go_ret
                  exact RetE.mk (bool_eq HF.out.symm) hfin
                · have hcq : decide (0 < cv) = false := by simp [hcp]
                  cases an with
                  | true =>
                    have HF := Lib.hid (HF2.out rfl)
                    go_upto_region 6 with fail
                    obtain ⟨α, hne, F, hK⟩ := cls_of (wr.alloc (.cells #[.int .i64 x1, .int .i64 x2, .int .i64 x3, .int .i64 x4] 34))
                    have HK := Lib.hid hK
                    obtain ⟨t0, t1, t2⟩ := hK.three A2
                    obtain ⟨s0, s1, s2, s3⟩ := hK.four HBX.out
                    obtain ⟨r0, r1, r2, r3⟩ := hK.four Y2
                    clear hK
                    simp only [Nat.zero_add] at s1 s2 s3
                    refine wp_region_cls F (by kernel_rfl) (by kernel_rfl) HK.out.drew ?_
                    repeat (go_big_quiet_step ((first | (go_at_call 52; exact HK.out.retE (HIx.out _)) | (go_at_call 57; exact HK.out.retE (HCm.out _)) | (go_at_call 53; exact HK.out.retE (HAny.out _ (HWR.out.trans (HK.out.ext _)) (Four.ext HBX.out (HK.out.ext _)))))))
                    refine wpQuiet_nil ?_
                    rintro _ ⟨z, rfl⟩
                    have hfin := HER.out.trans (HWR.out.trans (HK.out.ext z))
                    go_wp2
                    go_ret
                    exact RetE.mk (bool_eq HF.out.symm) hfin
                  | false =>
                    have HF := Lib.hid (HS1.out hcp rfl)
                    go_upto_region 6 with fail
                    obtain ⟨α, hne, F, hK⟩ := cls_of (wr.alloc (.cells #[.int .i64 x1, .int .i64 x2, .int .i64 x3, .int .i64 x4] 34))
                    have HK := Lib.hid hK
                    obtain ⟨t0, t1, t2⟩ := hK.three A2
                    obtain ⟨s0, s1, s2, s3⟩ := hK.four HBX.out
                    obtain ⟨r0, r1, r2, r3⟩ := hK.four Y2
                    clear hK
                    simp only [Nat.zero_add] at s1 s2 s3
                    refine wp_region_cls F (by kernel_rfl) (by kernel_rfl) HK.out.drew ?_
                    repeat (go_big_quiet_step ((first | (go_at_call 52; exact HK.out.retE (HIx.out _)) | (go_at_call 57; exact HK.out.retE (HCm.out _)) | (go_at_call 53; exact HK.out.retE (HAny.out _ (HWR.out.trans (HK.out.ext _)) (Four.ext HBX.out (HK.out.ext _)))))))
                    refine wpQuiet_nil ?_
                    rintro _ ⟨z, rfl⟩
                    have hfin := er.trans (HWR.out.trans (HK.out.ext z))
                    go_wp2
                    go_roundw
                    case rel => first | exact ⟨k + 1, by omega, by go_num, HF.out, hfin⟩ | ((repeat apply Exists.intro); exact ⟨⟨k + 1, by omega, by go_num, HF.out, hfin⟩, rfl⟩)
                    case measure => simp [intOf]; omega
          · obtain rfl : k = n := by omega
            go_wp2
            go_ret
            exact RetE.mk (bool_eq (by rw [HV.out, HOK.out])) HER.out
      · have HV : Hid (validF L C os = false) := Lib.hid (by unfold validF; rw [hxl]; simp [q3])
        go_enter Try.func51, Try.ntmps51
        go_wp2_with (go_at_call 79; refine (i_within _ _ _ _).mono ?_; rintro e w' ⟨rfl, rfl⟩)
        go_ret
        exact RetE.mk (bool_eq HV.out.symm) HE.out
    · rw [Bool.not_eq_true] at q2
      have HV : Hid (validF L C os = false) := Lib.hid (by unfold validF; rw [q2]; simp)
      go_enter Try.func51, Try.ntmps51
      go_wp2_with (go_at_call 79; refine (i_within _ _ _ _).mono ?_; rintro e w' ⟨rfl, rfl⟩)
      go_ret
      exact RetE.mk (bool_eq HV.out.symm) HE.out
  · rw [Bool.not_eq_true] at q1
    have HV : Hid (validF L C os = false) := Lib.hid (by unfold validF; rw [q1]; simp)
    go_enter Try.func51, Try.ntmps51
    go_wp2_with (go_at_call 79; refine (i_within _ _ _ _).mono ?_; rintro e w' ⟨rfl, rfl⟩)
    go_ret
    exact RetE.mk (bool_eq HV.out.symm) HE.out
end Go.Proofs.Ytnhmcmohnpbcjaa

/- Contracts: whether a front is valid, the reference's side. -/
namespace Go.Proofs.Ytnhmcmohnpbcjaa
open Go.RowKit
set_option linter.unusedSimpArgs false
set_option linter.unusedVariables false
set_option linter.unnecessarySimpa false

set_option maxRecDepth 100000 in
set_option maxHeartbeats 4000000 in
theorem s_l09Ok (fb : Nat) (L C : Int) (ao : Option Addr) (n c : Nat) (os : List Opn) (w : World) (hf : Three w fb (.int .i64 L) (.int .i64 C) (.slice ao n c)) (hx : Opens w ao n os) :
    Calls Try.prog 46 #[.pointer (some ⟨fb, 0, none⟩)] w (RetE (.bool (validF L C os)) w) := by
  have hxl := hx.1
  have hxm := hx.2.1
  obtain ⟨f0, f1, f2, f3⟩ := id hf
  by_cases q1 : inB L 1 200 = true
  · by_cases q2 : inB C 1 40 = true
    · have HV : Hid (validF L C os = (decide (n ≤ 8) && okTo L C os n)) := Lib.hid (by unfold validF; rw [q1, q2, hxl]; simp)
      have HO := Lib.hid (fun b x W h => s_l09One b L C (.slice ao n c) x W h)
      have HB := Lib.hid (fun k (hk : k < os.length) (h : okAt L C os k = false) => validF_bad hk h)
      have HX := Lib.hid hx
      have HL := Lib.hid hxl
      have HF := Lib.hid hf
      clear hx hxl hf
      go_enter Try.func46, Try.ntmps46
      go_wp2_with (go_at_call 86; refine (s_l00In _ _ _ _).mono ?_; rintro e w' ⟨rfl, rfl⟩)
      clear f0 f1 f2 f3
      go_loopw [3] (fun i wr => ∃ k : Nat, k ≤ n ∧ i = .int .i64 k ∧ okTo L C os k = true ∧ Ext w wr) (fun i _ => n - (intOf i).toNat)
      case atStart => exact ⟨0, Nat.zero_le _, rfl, rfl, Ext.refl _⟩
      case round =>
        obtain ⟨k, hk, rfl, hok, er⟩ := hrel
        have HOK := Lib.hid hok
        clear hok
        obtain ⟨f0, f1, f2, f3⟩ := HF.out.ext er
        have HER := Lib.hid er
        by_cases hlt : k < n
        · obtain ⟨bb, off, rfl, c0, c1, c2, c3⟩ := (HX.out.ext er).2.2.1 k hlt
          have hkx : k < os.length := by have := HL.out; omega
          obtain ⟨x, hxk⟩ : ∃ x, os.getD k default = x := ⟨_, rfl⟩
          have hoka : okAt L C os k = (isOpn L C x && ((decide (k = 0) || befB (os.getD (k - 1) default) x) && !((os.take k).any fun p => ovl p x))) := by unfold okAt; rw [hxk]
          rw [hxk] at c0 c1 c2 c3
          have HBK := Lib.hid (HB.out k hkx)
          have HOA := Lib.hid hoka
          have HS : Hid (okAt L C os k = true → okTo L C os (k + 1) = true) := Lib.hid (fun h => by unfold okTo; rw [HOK.out, h]; rfl)
          have hIx := fun b W h => HO.out b x W h
          obtain ⟨io, hio⟩ : ∃ v, isOpn L C x = v := ⟨_, rfl⟩
          rw [hio] at hIx hoka
          have HIx := Lib.hid hIx
          have HIO := Lib.hid hio
          have HXO := Lib.hid (fun p W => s_l09Overlap p x W)
          clear hIx hio hoka hxk
          have hkn : (k : Int) < (n : Int) := by omega
          have hk0i : (0 : Int) ≤ (k : Int) := by omega
          by_cases hk0 : k = 0
          · subst hk0
            have HF1 : Hid (io = false → validF L C os = false) := Lib.hid (fun h => HBK.out (by rw [HOA.out, HIO.out, h]; rfl))
            have HS1 : Hid (io = true → okTo L C os (0 + 1) = true) := Lib.hid (fun h => HS.out (by rw [HOA.out, HIO.out, h]; rfl))
            obtain ⟨x1, x2, x3, x4⟩ := x
            have K : Four wr bb (off + 0 * 4) x1 x2 x3 x4 := ⟨c0, c1, c2, c3⟩
            simp only [Nat.zero_mul, Nat.add_zero] at K
            obtain ⟨α, hne, F, hK⟩ := cls_of wr
            have HK := Lib.hid hK
            obtain ⟨t0, t1, t2⟩ := hK.three ⟨f0, f1, f2, f3⟩
            obtain ⟨s0, s1, s2, s3⟩ := hK.four K
            clear hK c0 c1 c2 c3 K
            cases io with
            | false =>
              go_upto_region 6 with fail
              refine wp_region_cls F (by kernel_rfl) (by kernel_rfl) HK.out.drew ?_
              repeat (go_big_quiet_step ((first | (go_at_call 47; exact HK.out.retE (HIx.out _ _ (HF.out.ext (HER.out.trans (HK.out.ext _))))))))
              refine wpQuiet_nil ?_
              rintro _ ⟨z, rfl⟩
              go_wp2
              go_ret
              exact RetE.mk (bool_eq (HF1.out (by trivial)).symm) (HER.out.trans (HK.out.ext z))
            | true =>
              go_upto_region 6 with fail
              refine wp_region_cls F (by kernel_rfl) (by kernel_rfl) HK.out.drew ?_
              repeat (go_big_quiet_step ((first | (go_at_call 47; exact HK.out.retE (HIx.out _ _ (HF.out.ext (HER.out.trans (HK.out.ext _))))))))
              refine wpQuiet_nil ?_
              rintro _ ⟨z, rfl⟩
              go_wp2
              refine wp_loop_rounds 1 ?_
              rw [rounds_succ]
              go_wp2
              go_roundw
              case rel => first | exact ⟨1, by omega, by go_num, HS1.out (by trivial), HER.out.trans (HK.out.ext z)⟩ | ((repeat apply Exists.intro); exact ⟨⟨1, by omega, by go_num, HS1.out (by trivial), HER.out.trans (HK.out.ext z)⟩, rfl⟩)
              case measure => simp [intOf]; omega
          · have hk1 : 0 < k := by omega
            have hk1i : (0 : Int) < (k : Int) := by omega
            obtain ⟨bb', off', hbb, d0, d1, d2, d3⟩ := (HX.out.ext HER.out).2.2.1 (k - 1) (by omega)
            simp only [Option.some.injEq, Addr.mk.injEq, and_true] at hbb
            obtain ⟨rfl, rfl⟩ := hbb
            have hdk : decide (k = 0) = false := by simp [hk0]
            obtain ⟨y, hy⟩ : ∃ y, os.getD (k - 1) default = y := ⟨_, rfl⟩
            rw [hy] at d0 d1 d2 d3 HOA
            have hBf := fun W => s_l09Before y x W
            obtain ⟨bv, hbv⟩ : ∃ v, befB y x = v := ⟨_, rfl⟩
            rw [hbv] at hBf HOA
            have HBf := Lib.hid hBf
            have HF1 : Hid (io = false → validF L C os = false) := Lib.hid (fun h => HBK.out (by rw [HOA.out, HIO.out, h]; rfl))
            have HF2 : Hid (bv = false → validF L C os = false) := Lib.hid (fun h => HBK.out (by rw [HOA.out, HIO.out, h, hdk]; simp))
            have HF3 : Hid ((os.take k).any (fun p => ovl p x) = true → validF L C os = false) := Lib.hid (fun h => HBK.out (by rw [HOA.out, h]; simp))
            have HS1 : Hid (io = true → bv = true → (os.take k).any (fun p => ovl p x) = false → okTo L C os (k + 1) = true) := Lib.hid (fun h1 h2 h3 => HS.out (by rw [HOA.out, HIO.out, h1, h2, h3, hdk]; rfl))
            have HAt : Hid (∀ j, j < k → ovl (os.getD j default) x = true → (os.take k).any (fun p => ovl p x) = true) := Lib.hid (fun j hj h => anyO_at hkx j hj h)
            clear hBf hbv hy hdk hk0
            obtain ⟨x1, x2, x3, x4⟩ := x
            obtain ⟨y1, y2, y3, y4⟩ := y
            have K : Four wr bb (off + k * 4) x1 x2 x3 x4 := ⟨c0, c1, c2, c3⟩
            have Y : Four wr bb (off + (k - 1) * 4) y1 y2 y3 y4 := ⟨d0, d1, d2, d3⟩
            obtain ⟨α, hne, F, hK⟩ := cls_of wr
            have HK := Lib.hid hK
            obtain ⟨t0, t1, t2⟩ := hK.three ⟨f0, f1, f2, f3⟩
            obtain ⟨s0, s1, s2, s3⟩ := hK.four K
            obtain ⟨r0, r1, r2, r3⟩ := hK.four Y
            have HKK := Lib.hid K
            clear hK c0 c1 c2 c3 K d0 d1 d2 d3 Y
            have hm1 : IntKind.i64.wrap ((k : Int) - 1) = (k : Int) - 1 := IntWalk.i64_in _ (by omega)
            have hm2 : (0 : Int) ≤ (k : Int) - 1 := by omega
            have hm2' : (1 : Int) ≤ (k : Int) := by omega
            have hm3 : ((k : Int) - 1).toNat = k - 1 := by omega
            have hm4 : (k : Int) - 1 < (n : Int) := by omega
            cases io with
            | false =>
              go_upto_region 6 with fail
              refine wp_region_cls F (by kernel_rfl) (by kernel_rfl) HK.out.drew ?_
              repeat (go_big_quiet_step ((first | (go_at_call 47; exact HK.out.retE (HIx.out _ _ (HF.out.ext (HER.out.trans (HK.out.ext _))))))))
              refine wpQuiet_nil ?_
              rintro _ ⟨z, rfl⟩
              go_wp2
              go_ret
              exact RetE.mk (bool_eq (HF1.out (by trivial)).symm) (HER.out.trans (HK.out.ext z))
            | true =>
              cases bv with
              | false =>
                go_upto_region 6 with fail
                refine wp_region_cls F (by kernel_rfl) (by kernel_rfl) HK.out.drew ?_
                repeat (go_big_quiet_step ((first | (go_at_call 47; exact HK.out.retE (HIx.out _ _ (HF.out.ext (HER.out.trans (HK.out.ext _))))) | (go_at_call 87; exact HK.out.retE (HBf.out _)))))
                refine wpQuiet_nil ?_
                rintro _ ⟨z, rfl⟩
                go_wp2
                go_ret
                exact RetE.mk (bool_eq (HF2.out (by trivial)).symm) (HER.out.trans (HK.out.ext z))
              | true =>
                go_upto_region 6 with fail
                refine wp_region_cls F (by kernel_rfl) (by kernel_rfl) HK.out.drew ?_
                repeat (go_big_quiet_step ((first | (go_at_call 47; exact HK.out.retE (HIx.out _ _ (HF.out.ext (HER.out.trans (HK.out.ext _))))) | (go_at_call 87; exact HK.out.retE (HBf.out _)))))
                refine wpQuiet_nil ?_
                rintro _ ⟨z, rfl⟩
                have HZ := Lib.hid (HK.out.ext z)
                obtain ⟨wz, hwz⟩ : ∃ wz, F z = wz := ⟨_, rfl⟩
                rw [hwz] at HZ
                go_wp2
                go_loopw [4] (fun i wi => ∃ j : Nat, j ≤ k ∧ i = .int .i64 j ∧ (os.take j).any (fun p => ovl p ⟨x1, x2, x3, x4⟩) = false ∧ Ext wr wi) (fun i _ => k - (intOf i).toNat)
                case atStart => exact ⟨0, Nat.zero_le _, rfl, by simp, HZ.out⟩
                case round =>
                  obtain ⟨j, hj, rfl, hno, ei⟩ := hrel
                  have HNO := Lib.hid hno
                  clear hno t0 t1 t2 s0 s1 s2 s3 r0 r1 r2 r3 hwz
                  have EI := Lib.hid ei
                  by_cases hjk : j < k
                  · obtain ⟨bb', off', hbb, d0, d1, d2, d3⟩ := (HX.out.ext (HER.out.trans ei)).2.2.1 j (by omega)
                    simp only [Option.some.injEq, Addr.mk.injEq, and_true] at hbb
                    obtain ⟨rfl, rfl⟩ := hbb
                    obtain ⟨y, hy⟩ : ∃ y, os.getD j default = y := ⟨_, rfl⟩
                    have hhit := HAt.out j hjk
                    rw [hy] at d0 d1 d2 d3 hhit
                    have hXO := HXO.out y
                    obtain ⟨ov, hov⟩ : ∃ v, ovl y ⟨x1, x2, x3, x4⟩ = v := ⟨_, rfl⟩
                    rw [hov] at hXO hhit
                    have HXY := Lib.hid hXO
                    have HHit := Lib.hid hhit
                    have HNext : Hid (ov = false → (os.take (j + 1)).any (fun p => ovl p ⟨x1, x2, x3, x4⟩) = false) := Lib.hid (fun h => by
                      have hjx : j < os.length := by omega
                      rw [List.take_succ_eq_append_getElem hjx, List.any_append, HNO.out]
                      rw [List.getD_eq_getElem?_getD, List.getElem?_eq_getElem hjx, Option.getD_some] at hy
                      rw [hy]
                      simp [hov, h])
                    obtain ⟨y1, y2, y3, y4⟩ := y
                    have J : Four wr bb (off + j * 4) y1 y2 y3 y4 := ⟨d0, d1, d2, d3⟩
                    obtain ⟨α, hne, F, hK⟩ := cls_of wr
                    have HK2 := Lib.hid hK
                    obtain ⟨t0, t1, t2⟩ := hK.three (HF.out.ext (HER.out.trans ei))
                    obtain ⟨s0, s1, s2, s3⟩ := hK.four (HKK.out.ext ei)
                    obtain ⟨r0, r1, r2, r3⟩ := hK.four J
                    clear hK d0 d1 d2 d3 J hXO hhit hov hy
                    have hji : (j : Int) < (n : Int) := by omega
                    have hj0 : (0 : Int) ≤ (j : Int) := by omega
                    cases ov with
                    | true =>
                      go_upto_region 11 with fail
                      refine wp_region_cls F (by kernel_rfl) (by kernel_rfl) HK2.out.drew ?_
                      repeat (go_big_quiet_step ((first | (go_at_call 48; exact HK2.out.retE (HXY.out _)))))
                      refine wpQuiet_nil ?_
                      rintro _ ⟨z, rfl⟩
                      go_wp2
                      go_ret
                      exact RetE.mk (bool_eq (HF3.out (HHit.out (by trivial))).symm) (HER.out.trans (EI.out.trans (HK2.out.ext z)))
                    | false =>
                      go_upto_region 11 with fail
                      refine wp_region_cls F (by kernel_rfl) (by kernel_rfl) HK2.out.drew ?_
                      repeat (go_big_quiet_step ((first | (go_at_call 48; exact HK2.out.retE (HXY.out _)))))
                      refine wpQuiet_nil ?_
                      rintro _ ⟨z, rfl⟩
                      go_wp2
                      go_roundw
                      case rel => first | exact ⟨j + 1, by omega, by go_num, HNext.out (by trivial), EI.out.trans (HK2.out.ext z)⟩ | ((repeat apply Exists.intro); exact ⟨⟨j + 1, by omega, by go_num, HNext.out (by trivial), EI.out.trans (HK2.out.ext z)⟩, rfl⟩)
                      case measure => simp [intOf]; omega
                  · obtain rfl : j = k := by omega
                    go_wp2
                    go_roundw
                    case rel => first | exact ⟨j + 1, by omega, by go_num, HS1.out (by trivial) (by trivial) HNO.out, HER.out.trans EI.out⟩ | ((repeat apply Exists.intro); exact ⟨⟨j + 1, by omega, by go_num, HS1.out (by trivial) (by trivial) HNO.out, HER.out.trans EI.out⟩, rfl⟩)
                    case measure => simp [intOf]; omega
        · obtain rfl : k = n := by omega
          go_wp2
          go_ret
          exact RetE.mk (bool_eq (by rw [HV.out, HOK.out, Bool.and_true]; exact decide_eq_decide.2 (by omega))) er
    · rw [Bool.not_eq_true] at q2
      have HV : Hid (validF L C os = false) := Lib.hid (by unfold validF; rw [q2]; simp)
      go_enter Try.func46, Try.ntmps46
      go_wp2_with (go_at_call 86; refine (s_l00In _ _ _ _).mono ?_; rintro e w' ⟨rfl, rfl⟩)
      go_ret
      exact RetE.mk (bool_eq HV.out.symm) (Ext.refl _)
  · rw [Bool.not_eq_true] at q1
    have HV : Hid (validF L C os = false) := Lib.hid (by unfold validF; rw [q1]; simp)
    go_enter Try.func46, Try.ntmps46
    go_wp2_with (go_at_call 86; refine (s_l00In _ _ _ _).mono ?_; rintro e w' ⟨rfl, rfl⟩)
    go_ret
    exact RetE.mk (bool_eq HV.out.symm) (Ext.refl _)
theorem s_ValidFront (L C : Int) (ao : Option Addr) (n c : Nat) (os : List Opn) (w : World) (hx : Opens w ao n os) :
    Calls Try.prog 32 #[.agg #[.int .i64 L, .int .i64 C, .slice ao n c]] w (RetE (.bool (validF L C os)) w) := by
  have e1 : Ext w (w.alloc (.cells #[.int .i64 L, .int .i64 C, .slice ao n c] 30)) := (Ext.refl w).alloc _
  have H := Lib.hid (s_l09Ok w.heap.size L C ao n c os _ (Three.new w _ _ _ 30) (hx.ext e1))
  have HE := Lib.hid e1
  clear e1
  go_enter Try.func32, Try.ntmps32
  go_wp2_with (go_at_call 46; refine H.out.mono ?_; rintro e w1 ⟨rfl, e1⟩)
  go_ret
  exact RetE.mk rfl (HE.out.trans e1)
end Go.Proofs.Ytnhmcmohnpbcjaa

/- The quarters of all parts of a front: both sides. -/
namespace Go.Proofs.Ytnhmcmohnpbcjaa
open Go.RowKit
set_option linter.unusedSimpArgs false
set_option linter.unusedVariables false
set_option linter.unnecessarySimpa false

theorem validF_bd {L C : Int} {os : List Opn} (h : validF L C os = true) : (1 ≤ L ∧ L ≤ 200) ∧ (1 ≤ C ∧ C ≤ 40) ∧ os.length ≤ 8 ∧ okTo L C os os.length = true := by
  unfold validF at h
  simp only [Bool.and_eq_true, decide_eq_true_eq, inB_iff] at h
  exact h
theorem okTo_opn {L C : Int} {os : List Opn} {j : Nat} (h : okTo L C os os.length = true) (hj : j < os.length) : isOpn L C (os.getD j default) = true := by
  have := okTo_at h hj
  unfold okAt at this
  rw [Bool.and_eq_true] at this
  exact this.1
def areaO (o : Opn) : Int := (o.en - o.fr) * (o.hi - o.lo)
theorem area_bd {L C : Int} {o : Opn} (h : isOpn L C o = true) (hL : L ≤ 200) (hC : C ≤ 40) : 0 ≤ areaO o ∧ areaO o ≤ 8000 := by
  rw [isOpn_iff] at h
  obtain ⟨h1, h2, h3, h4, h5, h6⟩ := h
  unfold areaO
  refine ⟨Int.mul_nonneg (by omega) (by omega), ?_⟩
  have := Int.mul_le_mul (show o.en - o.fr ≤ 200 by omega) (show o.hi - o.lo ≤ 40 by omega) (by omega) (by omega)
  omega
def solTo (L C : Int) (os : List Opn) : Nat → Int
  | 0 => L * C
  | k + 1 => solTo L C os k - areaO (os.getD k default)
theorem solTo_bd {L C : Int} {os : List Opn} (h : validF L C os = true) (k : Nat) (hk : k ≤ os.length) : -(8000 * (k : Int)) ≤ solTo L C os k ∧ solTo L C os k ≤ 8000 := by
  obtain ⟨⟨a, b⟩, ⟨c, d⟩, e, f⟩ := validF_bd h
  induction k with
  | zero =>
    have h1 := Int.mul_nonneg (show 0 ≤ L by omega) (show 0 ≤ C by omega)
    have h2 := Int.mul_le_mul b d (by omega) (by omega)
    unfold solTo
    omega
  | succ k ih =>
    have := ih (by omega)
    have := area_bd (okTo_opn f (show k < os.length by omega)) b d
    unfold solTo
    omega
def solN (L C : Int) (os : List Opn) : Int := if validF L C os then solTo L C os os.length else 0
def PairX (a b : Int) (w : World) (e : Ending) (w' : World) : Prop := e = .returned (.tuple #[.int .i64 a, .int .i64 b]) ∧ Ext w w'
theorem PairX.mk {a b a' b' : Int} {w w' : World} (h : a' = a) (k : b' = b) (e : Ext w w') : PairX a b w (.returned (.tuple #[.int .i64 a', .int .i64 b'])) w' := ⟨by rw [h, k], e⟩
theorem PairX.retE {a b : Int} {w w' : World} {e : Ending} (h : PairX a b w e w') : RetE (.tuple #[.int .i64 a, .int .i64 b]) w e w' := h
set_option maxHeartbeats 1600000 in
theorem i_SolidQuarters (L C : Int) (ao : Option Addr) (n c : Nat) (os : List Opn) (w : World) (hx : Opens w ao n os) (hnc : n ≤ c) :
    Calls Try.prog 20 #[.agg #[.int .i64 L, .int .i64 C, .slice ao n c]] w (RetE (.tuple #[.int .i64 (solN L C os), .int .i64 (sel (validF L C os) 0 1)]) w) := by
  have HE : Hid (Ext w (w.alloc (.cells #[.int .i64 L, .int .i64 C, .slice ao n c] 30))) := Lib.hid ((Ext.refl w).alloc _)
  have hxl := hx.1
  have H1 := Lib.hid (fun W (e : Ext w W) => i_ValidFront L C ao n c os W (hx.ext e) hnc)
  by_cases hv : validF L C os = true
  · obtain ⟨⟨l1, l2⟩, ⟨c1, c2⟩, n8, hok⟩ := validF_bd hv
    have HB := Lib.hid (fun k (h : k ≤ os.length) => solTo_bd hv k h)
    have HA := Lib.hid (fun k (h : k < os.length) => area_bd (okTo_opn hok h) l2 c2)
    have HO := Lib.hid (fun k (h : k < os.length) => isOpn_iff.1 (okTo_opn hok h))
    have HV : Hid (solN L C os = solTo L C os n) := Lib.hid (by unfold solN; rw [if_pos hv, hxl])
    have HS : Hid (sel (validF L C os) 0 1 = 0) := Lib.hid (sel_t hv _ _)
    rw [hv] at H1
    have hlc := HB.out 0 (by omega)
    have hlc2 : -(8000 * ((0 : Nat) : Int)) ≤ L * C ∧ L * C ≤ 8000 := hlc
    have HX := Lib.hid hx
    have A : Three (w.alloc (.cells #[.int .i64 L, .int .i64 C, .slice ao n c] 30)) w.heap.size (.int .i64 L) (.int .i64 C) (.slice ao n c) := Three.new w _ _ _ _
    clear hv hok hlc hx
    go_enter Try.func20, Try.ntmps20
    go_wp2_with (go_at_call 51; refine (H1.out _ HE.out).mono ?_; rintro e w1 ⟨rfl, e1⟩; replace A := A.ext e1)
    have HW1 := Lib.hid (HE.out.trans e1)
    clear e1
    go_loopw [4, 18] (fun s i wr => ∃ (k : Nat) (sk : Int), k ≤ n ∧ i = .int .i64 k ∧ s = .int .i64 sk ∧ Hid (solTo L C os k = sk) ∧ Ext w1 wr) (fun _ i _ => n - (intOf i).toNat)
    case atStart => exact ⟨0, _, Nat.zero_le _, rfl, rfl, Lib.hid rfl, Ext.refl _⟩
    case round =>
      obtain ⟨k, sk, hk, rfl, rfl, HSK, er⟩ := hrel
      by_cases hlt : k < n
      · obtain ⟨bb, off, rfl, d0, d1, d2, d3⟩ := (HX.out.ext (HW1.out.trans er)).2.2.1 k hlt
        have hb := HB.out k (by omega)
        have ha := HA.out k (by omega)
        have ho := HO.out k (by omega)
        obtain ⟨x, hxk⟩ : ∃ x, os.getD k default = x := ⟨_, rfl⟩
        have HN : Hid (solTo L C os (k + 1) = solTo L C os k - areaO x) := Lib.hid (by show _ - areaO (os.getD k default) = _; rw [hxk])
        rw [hxk] at d0 d1 d2 d3 ha ho
        obtain ⟨x1, x2, x3, x4⟩ := x
        have K : Four wr bb (off + k * 4) x1 x2 x3 x4 := ⟨d0, d1, d2, d3⟩
        obtain ⟨K0, K1, K2, K3⟩ := K
        have ha' : 0 ≤ (x2 - x1) * (x4 - x3) ∧ (x2 - x1) * (x4 - x3) ≤ 8000 := ha
        have ho' : 0 ≤ x1 ∧ x1 < x2 ∧ x2 ≤ L ∧ 0 ≤ x3 ∧ x3 < x4 ∧ x4 ≤ C := ho
        rw [HSK.out] at HN hb
        have HN2 : Hid (solTo L C os (k + 1) = sk - (x2 - x1) * (x4 - x3)) := Lib.hid HN.out
        have HER := Lib.hid er
        clear d0 d1 d2 d3 hxk ha ho HN er
        go_wp2
        go_roundw
        case rel => first | exact ⟨k + 1, _, by omega, by go_num, rfl, Lib.hid HN2.out, HER.out.alloc _⟩ | ((repeat apply Exists.intro); exact ⟨⟨k + 1, _, by omega, by go_num, rfl, Lib.hid HN2.out, HER.out.alloc _⟩, rfl⟩)
        case measure => simp [intOf]; omega
      · obtain rfl : k = n := by omega
        go_wp2
        go_ret2
        exact PairX.retE (PairX.mk (HSK.out.symm.trans HV.out.symm) HS.out.symm (HW1.out.trans er))
  · rw [Bool.not_eq_true] at hv
    have HV : Hid (solN L C os = 0) := Lib.hid (by unfold solN; rw [hv]; rfl)
    have HS : Hid (sel (validF L C os) 0 1 = 1) := Lib.hid (by rw [hv]; rfl)
    rw [hv] at H1
    clear hv
    go_enter Try.func20, Try.ntmps20
    go_wp2_with (go_at_call 51; refine (H1.out _ HE.out).mono ?_; rintro e w1 ⟨rfl, e1⟩)
    go_ret2
    exact PairX.retE (PairX.mk HV.out.symm HS.out.symm (HE.out.trans e1))
end Go.Proofs.Ytnhmcmohnpbcjaa

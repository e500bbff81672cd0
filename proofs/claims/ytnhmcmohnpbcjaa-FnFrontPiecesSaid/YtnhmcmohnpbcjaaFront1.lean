/- Contracts of the functions that compare fronts. -/
import Derived.Test.YtnhmcmohnpbcjaaFront0
import Derived.Laws.StructEq
namespace Go.Proofs.Ytnhmcmohnpbcjaa
open Go.RowKit
set_option linter.unusedSimpArgs false
set_option linter.unusedVariables false
set_option linter.unnecessarySimpa false

/-- where two openings differ -/
theorem opn_cases (x1 x2 x3 x4 y1 y2 y3 y4 : Int) : (x1 = y1 ∧ x2 = y2 ∧ x3 = y3 ∧ x4 = y4) ∨ ((⟨x1, x2, x3, x4⟩ : Opn) ≠ ⟨y1, y2, y3, y4⟩ ∧ ((x1 == y1) = false ∨ (x1 = y1 ∧ (x2 == y2) = false) ∨ (x1 = y1 ∧ x2 = y2 ∧ (x3 == y3) = false) ∨ (x1 = y1 ∧ x2 = y2 ∧ x3 = y3 ∧ (x4 == y4) = false))) := by
  by_cases h1 : x1 = y1 <;> by_cases h2 : x2 = y2 <;> by_cases h3 : x3 = y3 <;> by_cases h4 : x4 = y4 <;> simp_all
def sameF (a b a' b' : Int) (xs ys : List Opn) : Bool := decide (a = a') && (decide (b = b') && decide (xs = ys))
set_option maxHeartbeats 1600000 in
theorem l_eqFront (a b a' b' : Int) (ao bo : Option Addr) (n m c d : Nat) (xs ys : List Opn) (w : World) (hx : Opens w ao n xs) (hy : Opens w bo m ys) :
    Calls Try.prog 15 #[.agg #[.int .i64 a, .int .i64 b, .slice ao n c], .agg #[.int .i64 a', .int .i64 b', .slice bo m d]] w (RetE (.bool (sameF a b a' b' xs ys)) w) := by
  have hC := fun W e => l_eqOpeningS ao bo n m c d xs ys W (hx.ext e) (hy.ext e)
  by_cases h1 : a = a'
  · subst h1
    by_cases h2 : b = b'
    · subst h2
      cases h3 : decide (xs = ys)
      all_goals
        rw [h3] at hC
        have HV : Hid (sameF a b a b xs ys = decide (xs = ys)) := Lib.hid (by simp [sameF])
        have H3 := Lib.hid h3
        clear h3
        go_enter Try.func15, Try.ntmps15
        go_wp2_with (go_at_call 60; refine (hC _ (((Ext.refl w).alloc _).alloc _)).mono ?_; rintro e w1 ⟨rfl, e1⟩)
        go_ret
        exact RetE.mk (bool_eq (by rw [HV.out, H3.out])) ((((Ext.refl w).alloc _).alloc _).trans e1)
    · have HV : Hid (sameF a b a b' xs ys = false) := Lib.hid (by simp [sameF, h2])
      have t : (b != b') = true := by simp [h2]
      go_enter Try.func15, Try.ntmps15
      go_wp2
      go_ret
      exact RetE.mk (bool_eq HV.out.symm) (((Ext.refl w).alloc _).alloc _)
  · have HV : Hid (sameF a b a' b' xs ys = false) := Lib.hid (by simp [sameF, h1])
    have t : (a != a') = true := by simp [h1]
    go_enter Try.func15, Try.ntmps15
    go_wp2
    go_ret
    exact RetE.mk (bool_eq HV.out.symm) (((Ext.refl w).alloc _).alloc _)
set_option maxHeartbeats 1600000 in
theorem s_SameFront (a b a' b' : Int) (ao bo : Option Addr) (n m c d : Nat) (xs ys : List Opn) (w : World) (hx : Opens w ao n xs) (hy : Opens w bo m ys) :
    Calls Try.prog 31 #[.agg #[.int .i64 a, .int .i64 b, .slice ao n c], .agg #[.int .i64 a', .int .i64 b', .slice bo m d]] w (RetE (.bool (sameF a b a' b' xs ys)) w) := by
  obtain ⟨hxl, hxm, hxc, hxi⟩ := hx
  obtain ⟨hyl, hym, hyc, hyi⟩ := hy
  by_cases h1 : a = a'
  · subst h1
    by_cases h2 : b = b'
    · subst h2
      by_cases hnm : (n : Int) = m
      · have hnm2 : n = m := by omega
        clear hnm
        subst hnm2
        have HV : Hid (sameF a b a b xs ys = decide (xs = ys)) := Lib.hid (by simp [sameF])
        have E2 : Ext w ((w.alloc (.cells #[.int .i64 a, .int .i64 b, .slice ao n c] 30)).alloc (.cells #[.int .i64 a, .int .i64 b, .slice bo n d] 30)) := ((Ext.refl w).alloc _).alloc _
        have A : Three ((w.alloc (.cells #[.int .i64 a, .int .i64 b, .slice ao n c] 30)).alloc (.cells #[.int .i64 a, .int .i64 b, .slice bo n d] 30)) w.heap.size (.int .i64 a) (.int .i64 b) (.slice ao n c) := Three.of (blk_old (blk_at w _ _ rfl))
        have B : Three ((w.alloc (.cells #[.int .i64 a, .int .i64 b, .slice ao n c] 30)).alloc (.cells #[.int .i64 a, .int .i64 b, .slice bo n d] 30)) (w.heap.size + 1) (.int .i64 a) (.int .i64 b) (.slice bo n d) := Three.of (blk_at (w.alloc _) _ (w.heap.size + 1) (by simp))
        go_enter Try.func31, Try.ntmps31
        go_wp2
        go_loopw [5] (fun i wr => ∃ k : Nat, k ≤ n ∧ i = .int .i64 k ∧ xs.take k = ys.take k ∧ Ext ((w.alloc (.cells #[.int .i64 a, .int .i64 b, .slice ao n c] 30)).alloc (.cells #[.int .i64 a, .int .i64 b, .slice bo n d] 30)) wr) (fun i _ => n - (intOf i).toNat)
        case atStart => exact ⟨0, Nat.zero_le _, rfl, by simp, Ext.refl _⟩
        case round =>
          obtain ⟨k, hk, rfl, htk, er⟩ := hrel
          have HT := Lib.hid htk; clear htk
          replace A := A.ext er
          replace B := B.ext er
          have er0 := E2.trans er
          by_cases hlt : k < n
          · obtain ⟨bb, off, rfl, c0, c1, c2, c3⟩ := hxc k hlt
            obtain ⟨bb', off', rfl, d0, d1, d2, d3⟩ := hyc k (by omega)
            obtain ⟨x, hxk⟩ : ∃ x, xs.getD k default = x := ⟨_, rfl⟩
            obtain ⟨y, hyk⟩ : ∃ y, ys.getD k default = y := ⟨_, rfl⟩
            rw [hxk] at c0 c1 c2 c3
            rw [hyk] at d0 d1 d2 d3
            have hltm : (k : Int) < n := by omega
            have hkx : k < xs.length := by omega
            have hky : k < ys.length := by omega
            rw [List.getD_eq_getElem?_getD, List.getElem?_eq_getElem hkx, Option.getD_some] at hxk
            rw [List.getD_eq_getElem?_getD, List.getElem?_eq_getElem hky, Option.getD_some] at hyk
            have HX := Lib.hid hxk
            have HY := Lib.hid hyk
            obtain ⟨x1, x2, x3, x4⟩ := x
            obtain ⟨y1, y2, y3, y4⟩ := y
            have K0 := er0.cell c0
            have K1 := er0.cell c1
            have K2 := er0.cell c2
            have K3 := er0.cell c3
            have L0 := er0.cell d0
            have L1 := er0.cell d1
            have L2 := er0.cell d2
            have L3 := er0.cell d3
            clear c0 c1 c2 c3 d0 d1 d2 d3 hxc hyc hxk hyk
            rcases opn_cases x1 x2 x3 x4 y1 y2 y3 y4 with ⟨rfl, rfl, rfl, rfl⟩ | ⟨hne, hwhere⟩
            · go_wp2
              go_quiet (fail)
              go_wp2
              go_roundw
              case rel =>
                have hT : xs.take (k + 1) = ys.take (k + 1) := by rw [List.take_succ_eq_append_getElem hkx, List.take_succ_eq_append_getElem hky, HT.out, HX.out, HY.out]
                first | exact ⟨k + 1, by omega, by go_num, hT, er.drewN _⟩ | ((repeat apply Exists.intro); exact ⟨⟨k + 1, by omega, by go_num, hT, er.drewN _⟩, rfl⟩)
              case measure => simp [intOf]; omega
            · have hne : decide (xs = ys) = false := opn_ne hkx hky (by rw [HX.out, HY.out]; exact hne)
              have HN := Lib.hid hne
              clear hne
              rcases hwhere with h1 | ⟨rfl, h2⟩ | ⟨rfl, rfl, h3⟩ | ⟨rfl, rfl, rfl, h4⟩
              all_goals
                go_wp2
                go_quiet (fail)
                go_wp2
                go_ret
                exact RetE.mk (bool_eq (by rw [HV.out, HN.out])) (er0.drewN _)
          · go_wp2
            go_ret
            have h := HT.out
            rw [List.take_of_length_le (by omega), List.take_of_length_le (by omega)] at h
            exact RetE.mk (bool_eq (by rw [HV.out]; simp [h])) er0
      · have HN : Hid (sameF a b a b xs ys = false) := Lib.hid (by
          have : ¬ xs = ys := by intro h; subst h; omega
          simp [sameF, this])
        have hnz : ((n : Int) != m) = true := by simp; omega
        go_enter Try.func31, Try.ntmps31
        go_wp2
        go_ret
        exact RetE.mk (bool_eq HN.out.symm) (((Ext.refl w).alloc _).alloc _)
    · have HV : Hid (sameF a b a b' xs ys = false) := Lib.hid (by simp [sameF, h2])
      have t : (b != b') = true := by simp [h2]
      go_enter Try.func31, Try.ntmps31
      go_wp2
      go_ret
      exact RetE.mk (bool_eq HV.out.symm) (((Ext.refl w).alloc _).alloc _)
  · have HV : Hid (sameF a b a' b' xs ys = false) := Lib.hid (by simp [sameF, h1])
    have t : (a != a') = true := by simp [h1]
    go_enter Try.func31, Try.ntmps31
    go_wp2
    go_ret
    exact RetE.mk (bool_eq HV.out.symm) (((Ext.refl w).alloc _).alloc _)
end Go.Proofs.Ytnhmcmohnpbcjaa

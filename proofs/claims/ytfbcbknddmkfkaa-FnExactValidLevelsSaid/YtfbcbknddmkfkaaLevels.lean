/- Contracts of the two functions that say whether levels are valid. -/
import Derived.Test.YtfbcbknddmkfkaaBasic
namespace Go.Proofs.Ytfbcbknddmkfkaa
open Go.RowKit
set_option linter.unusedSimpArgs false
set_option linter.unusedVariables false

def vlv (h : Int) (xs : List Int) : Bool := inB h 100 6000 && decide (xs.length ≤ 20) && risB 1 (h - 1) xs xs.length
theorem s_l10Levels (ao : Option Addr) (n c : Nat) (h : Int) (xs : List Int) (w : World) (hx : Ints w ao n xs) :
    Calls Try.prog 56 #[.slice ao n c, .int .i64 h] w (RetE (.bool (vlv h xs)) w) := by
  have hxl := hx.1
  have hxm := hx.2.1
  by_cases g1 : inB h 100 6000 = true
  · have ⟨h1, h2⟩ := inB_iff.1 g1
    by_cases g2 : n ≤ 20
    · have hv : vlv h xs = risB 1 (h - 1) xs n := by simp [vlv, g1, hxl, g2]
      have HV := Lib.hid hv
      clear hv hxl
      go_enter Try.func56, Try.ntmps56
      go_wp2_with (first | (go_at_call 82; refine (s_l10Height _ _).mono ?_; rw [g1]; rintro e w' ⟨rfl, rfl⟩) | (go_at_call 86; refine (s_l00Rises _ _ _ _ _ xs _ hx).mono ?_; rintro e w1 ⟨rfl, e1⟩))
      go_ret
      exact RetE.mk (bool_eq HV.out.symm) e1
    · have hv : vlv h xs = false := by simp [vlv, hxl]; omega
      have HV := Lib.hid hv
      clear hv hxl
      go_enter Try.func56, Try.ntmps56
      go_wp2_with (go_at_call 82; refine (s_l10Height _ _).mono ?_; rw [g1]; rintro e w' ⟨rfl, rfl⟩)
      go_ret
      exact RetE.mk (bool_eq HV.out.symm) (Ext.refl _)
  · have hv : vlv h xs = false := by simp [vlv, g1]
    have HV := Lib.hid hv
    rw [Bool.not_eq_true] at g1
    clear hv hxl
    go_enter Try.func56, Try.ntmps56
    go_wp2_with (go_at_call 82; refine (s_l10Height _ _).mono ?_; rw [g1]; rintro e w' ⟨rfl, rfl⟩)
    go_ret
    exact RetE.mk (bool_eq HV.out.symm) (Ext.refl _)
theorem s_ValidLevels (ao : Option Addr) (n c : Nat) (h : Int) (xs : List Int) (w : World) (hx : Ints w ao n xs) :
    Calls Try.prog 17 #[.slice ao n c, .int .i64 h] w (RetE (.bool (vlv h xs)) w) := by
  go_enter Try.func17, Try.ntmps17
  go_wp2_with (go_at_call 56; refine (s_l10Levels _ _ _ _ xs _ hx).mono ?_; rintro e w1 ⟨rfl, e1⟩)
  go_ret
  exact RetE.mk rfl e1
set_option maxHeartbeats 400000 in
theorem i_ValidLevels (ao : Option Addr) (n c : Nat) (h : Int) (xs : List Int) (w : World) (hx : Ints w ao n xs) :
    Calls Try.prog 19 #[.slice ao n c, .int .i64 h] w (RetE (.bool (vlv h xs)) w) := by
  have hxl := hx.1
  have hxm := hx.2.1
  have hgc : gcode h 1 = inB h 100 6000 := by simp [gcode, inB]
  by_cases g1 : inB h 100 6000 = true
  · have ⟨h1, h2⟩ := inB_iff.1 g1
    rw [g1] at hgc
    by_cases g2 : n ≤ 20
    · have hsp := risB_split 1 (h - 1) xs n (by omega)
      rw [List.take_of_length_le (by omega)] at hsp
      have hv : vlv h xs = (!(xs.any fun x => !inB x 1 (h - 1)) && incB xs n) := by rw [← hsp]; simp [vlv, g1, hxl, g2]
      have HV := Lib.hid hv
      by_cases g3 : (xs.any fun x => !inB x 1 (h - 1)) = true
      · clear hv hsp hxl
        go_enter Try.func19, Try.ntmps19
        go_wp2_with (first | (go_at_call 53; refine (i_isStorey _ _ _).mono ?_; rw [hgc]; rintro e w' ⟨rfl, rfl⟩) | (go_at_call 57; refine (i_outside _ _ _ _ _ xs _ hx).mono ?_; rw [g3]; rintro e w1 ⟨rfl, e1⟩))
        go_ret
        exact RetE.mk (bool_eq (by rw [HV.out, g3]; rfl)) e1
      · rw [Bool.not_eq_true] at g3
        have HG := Lib.hid g3
        clear hv hsp hxl g3
        go_enter Try.func19, Try.ntmps19
        go_wp2_with (first | (go_at_call 53; refine (i_isStorey _ _ _).mono ?_; rw [hgc]; rintro e w' ⟨rfl, rfl⟩) | (go_at_call 57; refine (i_outside _ _ _ _ _ xs _ hx).mono ?_; rw [HG.out]; rintro e w1 ⟨rfl, e1⟩))
        go_loopw [5] (fun i wr => ∃ k : Nat, k ≤ n ∧ i = .int .i64 (k + 1) ∧ incB xs (k + 1) = true ∧ Ext w wr) (fun i _ => n + 1 - (intOf i).toNat)
        case atStart => exact ⟨0, Nat.zero_le _, rfl, rfl, e1⟩
        case round =>
          obtain ⟨k, hk, rfl, htk, er⟩ := hrel
          have HT := Lib.hid htk; clear htk
          by_cases hlt : (k : Int) + 1 < n
          · obtain ⟨b1, off, rfl, hc⟩ := hx.2.2.1 k (by omega)
            obtain ⟨b2, off2, hb2, hc2⟩ := hx.2.2.1 (k + 1) (by omega)
            have hbb : b1 = b2 ∧ off = off2 := by simp at hb2; exact hb2
            obtain ⟨rfl, rfl⟩ := hbb
            obtain ⟨x, hxk⟩ : ∃ x, xs.getD k 0 = x := ⟨_, rfl⟩
            obtain ⟨y, hyk⟩ : ∃ y, xs.getD (k + 1) 0 = y := ⟨_, rfl⟩
            have g1 := er.cell hc
            have g2 := er.cell hc2
            rw [hxk] at g1
            rw [hyk] at g2
            have hstep : incB xs (k + 2) = decide (x < y) := by
              rw [incB, HT.out, hyk, show k + 1 - 1 = k by omega, hxk]; simp
            have HS := Lib.hid hstep
            have t1 : ((k : Int) + 1).toNat = k + 1 := by omega
            clear hc hc2 hb2 hxk hyk hstep
            by_cases hxy : x < y
            · go_wp2
              go_quiet (fail)
              go_wp2
              go_roundw
              case rel => exact ⟨k + 1, by omega, by go_num, by rw [HS.out]; simp [hxy], er.drewN _⟩
              case measure => simp [intOf]; omega
            · go_wp2
              go_quiet (fail)
              go_wp2
              go_ret
              refine RetE.mk (bool_eq ?_) (er.drewN _)
              rw [HV.out, HG.out]
              cases h9 : incB xs n with
              | false => rfl
              | true =>
                have := incB_le xs h9 (show k + 2 ≤ n by omega)
                rw [HS.out] at this; simp at this; omega
          · go_wp2
            go_ret
            refine RetE.mk (bool_eq ?_) er
            rw [HV.out, HG.out, incB_le xs HT.out (show n ≤ k + 1 by omega)]; rfl
    · have hv : vlv h xs = false := by simp [vlv, hxl]; omega
      have HV := Lib.hid hv
      clear hv hxl
      go_enter Try.func19, Try.ntmps19
      go_wp2_with (go_at_call 53; refine (i_isStorey _ _ _).mono ?_; rw [hgc]; rintro e w' ⟨rfl, rfl⟩)
      go_ret
      exact RetE.mk (bool_eq HV.out.symm) (Ext.refl _)
  · have hv : vlv h xs = false := by simp [vlv, g1]
    have HV := Lib.hid hv
    rw [Bool.not_eq_true] at g1
    rw [g1] at hgc
    clear hv hxl
    go_enter Try.func19, Try.ntmps19
    go_wp2_with (go_at_call 53; refine (i_isStorey _ _ _).mono ?_; rw [hgc]; rintro e w' ⟨rfl, rfl⟩)
    go_ret
    exact RetE.mk (bool_eq HV.out.symm) (Ext.refl _)
end Go.Proofs.Ytfbcbknddmkfkaa

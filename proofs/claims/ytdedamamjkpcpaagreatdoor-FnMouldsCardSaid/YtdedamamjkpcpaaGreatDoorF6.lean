/- Contracts of the laws' helpers: whether too much came in, and whether two rows of numbers are one. -/
import Derived.Test.YtdedamamjkpcpaaGreatDoorLawInts
namespace Go.Proofs.YtdedamamjkpcpaaGreatDoor
open Go.RowKit
set_option linter.unusedSimpArgs false
set_option linter.unusedVariables false
set_option linter.unnecessarySimpa false

def bigC (n : Nat) : Bool := decide (4096 < n)
theorem l_f6big (ao : Option Addr) (n c : Nat) (w : World) (hn : n ≤ 9223372036854775807) : Calls Tryz.prog 4 #[.slice ao n c] w (RetV (.bool (bigC n)) w) := by
  by_cases h1 : 4096 < n
  · have h1' : (4096 : Int) < (n : Int) := by omega
    have HV : Hid (bigC n = true) := Lib.hid (by simp [bigC, h1])
    go_enter Tryz.func4, Tryz.ntmps4
    go_wp2
    go_ret
    exact RetV.mk (bool_eq HV.out.symm)
  · have h1' : ¬ (4096 : Int) < (n : Int) := by omega
    have HV : Hid (bigC n = false) := Lib.hid (by simp [bigC, h1])
    go_enter Tryz.func4, Tryz.ntmps4
    go_wp2
    go_ret
    exact RetV.mk (bool_eq HV.out.symm)
set_option maxHeartbeats 400000 in
theorem l_f6ints (ao bo : Option Addr) (n m c d : Nat) (xs ys : List Int) (w : World) (hx : Ints w ao n xs) (hy : Ints w bo m ys) :
    Calls Tryz.prog 22 #[.slice ao n c, .slice bo m d] w (RetE (.bool (xs == ys)) w) := by
  obtain ⟨hxl, hxm, hxc, hxi⟩ := hx
  obtain ⟨hyl, hym, hyc, hyi⟩ := hy
  by_cases hnm : (n : Int) = m
  · have hnm2 : n = m := by omega
    go_enter Tryz.func22, Tryz.ntmps22
    go_wp2
    go_loopw [5] (fun i wr => ∃ k : Nat, k ≤ n ∧ i = .int .i64 k ∧ xs.take k = ys.take k ∧ Ext w wr) (fun i _ => n - (intOf i).toNat)
    case atStart => exact ⟨0, Nat.zero_le _, rfl, by simp, Ext.refl _⟩
    case round =>
      obtain ⟨k, hk, rfl, htk, er⟩ := hrel
      have HT := Lib.hid htk; clear htk
      by_cases hlt : k < n
      · obtain ⟨b, off, rfl, hc⟩ := hxc k hlt
        obtain ⟨b', off', rfl, hc'⟩ := hyc k (by omega)
        obtain ⟨x, hxk⟩ : ∃ x, xs.getD k 0 = x := ⟨_, rfl⟩
        obtain ⟨y, hyk⟩ : ∃ y, ys.getD k 0 = y := ⟨_, rfl⟩
        have g1 := er.cell hc
        have g2 := er.cell hc'
        rw [hxk] at g1
        rw [hyk] at g2
        have hltm : (k : Int) < m := by omega
        have hkx : k < xs.length := by omega
        have hky : k < ys.length := by omega
        rw [List.getD_eq_getElem?_getD, List.getElem?_eq_getElem hkx, Option.getD_some] at hxk
        rw [List.getD_eq_getElem?_getD, List.getElem?_eq_getElem hky, Option.getD_some] at hyk
        have HX := Lib.hid hxk
        have HY := Lib.hid hyk
        clear hc hc' hxc hyc hxk hyk
        by_cases he : x = y
        · subst he
          go_wp2
          go_quiet (fail)
          go_wp2
          go_roundw
          case rel =>
            refine ⟨k + 1, by omega, by go_num, ?_, er.drewN _⟩
            rw [List.take_succ_eq_append_getElem hkx, List.take_succ_eq_append_getElem hky, HT.out, HX.out, HY.out]
          case measure => simp [intOf]; omega
        · have t2 : ((x : Int) != y) = true := by simp [he]
          have hne : (xs == ys) = false := by
            rw [beq_eq_false_iff_ne]; intro h; subst h; exact he (HX.out.symm.trans HY.out)
          have HN := Lib.hid hne
          clear hne
          go_wp2
          go_quiet (fail)
          go_wp2
          go_ret
          exact RetE.mk (bool_eq HN.out.symm) (er.drewN _)
      · go_wp2
        go_ret
        have h := HT.out
        rw [List.take_of_length_le (by omega), List.take_of_length_le (by omega)] at h
        exact RetE.mk (bool_eq (by rw [h]; simp)) er
  · have hne : (xs == ys) = false := by
      rw [beq_eq_false_iff_ne]; intro h; subst h; omega
    have HN := Lib.hid hne
    clear hne
    go_enter Tryz.func22, Tryz.ntmps22
    go_wp2
    go_ret
    exact RetE.mk (bool_eq HN.out.symm) (Ext.refl _)
end Go.Proofs.YtdedamamjkpcpaaGreatDoor

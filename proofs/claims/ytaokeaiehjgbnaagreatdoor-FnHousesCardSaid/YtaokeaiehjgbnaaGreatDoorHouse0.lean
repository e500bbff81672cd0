/- Contracts of the laws' helpers over plans of houses: a copy, a comparison, the count of what came in; and of the two functions that compare two plans. -/
import Derived.Test.YtaokeaiehjgbnaaGreatDoorLawInts
import Derived.Test.YtaokeaiehjgbnaaGreatDoorCourse
namespace Go.Proofs.YtaokeaiehjgbnaaGreatDoor
open Go.RowKit
set_option linter.unusedSimpArgs false
set_option linter.unusedVariables false
set_option linter.unnecessarySimpa false

theorem blk_old {w : World} {o x : Obj} {k : Nat} (h : w.heap[k]? = some x) : (w.alloc o).heap[k]? = some x := by rw [heap_alloc_old w o (lt_of_block h)]; exact h
theorem blk_at (w : World) (o : Obj) (k : Nat) (hk : k = w.heap.size) : (w.alloc o).heap[k]? = some o := by subst hk; exact heap_alloc_new w o

/-- a plan is handed back, its sides in memory of the call's own -/
def RetHouse (xs : List Int) (t : ByteArray) (w : World) (e : Ending) (w' : World) : Prop :=
  ∃ ao cap, e = .returned (.agg #[.slice ao xs.length cap, .string t]) ∧ OwnInts 2 w' w.heap.size (.slice ao xs.length cap) xs ∧ Ext w w'
set_option maxHeartbeats 400000 in
theorem s_l00Same (ao bo : Option Addr) (n m c d : Nat) (xs ys : List Int) (w : World) (hx : Ints w ao n xs) (hy : Ints w bo m ys) :
    Calls Tryz.prog 51 #[.slice ao n c, .slice bo m d] w (RetE (.bool (xs == ys)) w) := by
  obtain ⟨hxl, hxm, hxc, hxi⟩ := hx
  obtain ⟨hyl, hym, hyc, hyi⟩ := hy
  by_cases hnm : (n : Int) = m
  · have hnm2 : n = m := by omega
    go_enter Tryz.func51, Tryz.ntmps51
    go_wp2
    go_loopw [5] (fun i wr => ∃ k : Nat, k ≤ n ∧ i = .int .i64 k ∧ xs.take k = ys.take k ∧ Ext w wr) (fun i _ => n - (intOf i).toNat)
    case atStart => exact ⟨0, Nat.zero_le _, rfl, by simp, Ext.refl _⟩
    case round =>
      obtain ⟨k, hk, rfl, htk, er⟩ := hrel
      have HT := Lib.hid htk; clear htk
      by_cases hlt : k < n
      · obtain ⟨b, off, rfl, hc⟩ := hxc k hlt
        obtain ⟨b', off', rfl, hc'⟩ := hyc k (by omega)
        obtain ⟨x, hxk⟩ : ∃ x, xs.getD k 0 = x := ⟨_, rfl⟩
        obtain ⟨y, hyk⟩ : ∃ y, ys.getD k 0 = y := ⟨_, rfl⟩
        have g1 := er.cell hc
        have g2 := er.cell hc'
        rw [hxk] at g1
        rw [hyk] at g2
        have hltm : (k : Int) < m := by omega
        have hkx : k < xs.length := by omega
        have hky : k < ys.length := by omega
        rw [List.getD_eq_getElem?_getD, List.getElem?_eq_getElem hkx, Option.getD_some] at hxk
        rw [List.getD_eq_getElem?_getD, List.getElem?_eq_getElem hky, Option.getD_some] at hyk
        have HX := Lib.hid hxk
        have HY := Lib.hid hyk
        clear hc hc' hxc hyc hxk hyk
        by_cases he : x = y
        · subst he
          go_wp2
          go_quiet (fail)
          go_wp2
          go_roundw
          case rel =>
            refine ⟨k + 1, by omega, by go_num, ?_, er.drewN _⟩
            rw [List.take_succ_eq_append_getElem hkx, List.take_succ_eq_append_getElem hky, HT.out, HX.out, HY.out]
          case measure => simp [intOf]; omega
        · have t2 : ((x : Int) != y) = true := by simp [he]
          have hne : (xs == ys) = false := by
            rw [beq_eq_false_iff_ne]; intro h; subst h; exact he (HX.out.symm.trans HY.out)
          have HN := Lib.hid hne
          clear hne
          go_wp2
          go_quiet (fail)
          go_wp2
          go_ret
          exact RetE.mk (bool_eq HN.out.symm) (er.drewN _)
      · go_wp2
        go_ret
        have h := HT.out
        rw [List.take_of_length_le (by omega), List.take_of_length_le (by omega)] at h
        exact RetE.mk (bool_eq (by rw [h]; simp)) er
  · have hne : (xs == ys) = false := by
      rw [beq_eq_false_iff_ne]; intro h; subst h; omega
    have HN := Lib.hid hne
    clear hne
    go_enter Tryz.func51, Tryz.ntmps51
    go_wp2
    go_ret
    exact RetE.mk (bool_eq HN.out.symm) (Ext.refl _)
set_option maxHeartbeats 400000 in
theorem f_Equal_i64 (ao bo : Option Addr) (n m c d : Nat) (xs ys : List Int) (w : World) (hx : Ints w ao n xs) (hy : Ints w bo m ys) :
    Calls Tryz.prog 53 #[.slice ao n c, .slice bo m d] w (RetE (.bool (xs == ys)) w) := by
  obtain ⟨hxl, hxm, hxc, hxi⟩ := hx
  obtain ⟨hyl, hym, hyc, hyi⟩ := hy
  by_cases hnm : (n : Int) = m
  · have hnm2 : n = m := by omega
    go_enter Tryz.func53, Tryz.ntmps53
    go_wp2
    go_loopw [13] (fun i wr => ∃ k : Nat, k ≤ n ∧ i = .int .i64 k ∧ xs.take k = ys.take k ∧ Ext w wr) (fun i _ => n - (intOf i).toNat)
    case atStart => exact ⟨0, Nat.zero_le _, rfl, by simp, Ext.refl _⟩
    case round =>
      obtain ⟨k, hk, rfl, htk, er⟩ := hrel
      have HT := Lib.hid htk; clear htk
      by_cases hlt : k < n
      · obtain ⟨b, off, rfl, hc⟩ := hxc k hlt
        obtain ⟨b', off', rfl, hc'⟩ := hyc k (by omega)
        obtain ⟨x, hxk⟩ : ∃ x, xs.getD k 0 = x := ⟨_, rfl⟩
        obtain ⟨y, hyk⟩ : ∃ y, ys.getD k 0 = y := ⟨_, rfl⟩
        have g1 := er.cell hc
        have g2 := er.cell hc'
        rw [hxk] at g1
        rw [hyk] at g2
        have hltm : (k : Int) < m := by omega
        have hkx : k < xs.length := by omega
        have hky : k < ys.length := by omega
        rw [List.getD_eq_getElem?_getD, List.getElem?_eq_getElem hkx, Option.getD_some] at hxk
        rw [List.getD_eq_getElem?_getD, List.getElem?_eq_getElem hky, Option.getD_some] at hyk
        have HX := Lib.hid hxk
        have HY := Lib.hid hyk
        clear hc hc' hxc hyc hxk hyk
        by_cases he : x = y
        · subst he
          go_wp2
          go_quiet (fail)
          go_wp2
          go_roundw
          case rel =>
            refine ⟨k + 1, by omega, by go_num, ?_, er.drewN _⟩
            rw [List.take_succ_eq_append_getElem hkx, List.take_succ_eq_append_getElem hky, HT.out, HX.out, HY.out]
          case measure => simp [intOf]; omega
        · have t2 : ((x : Int) != y) = true := by simp [he]
          have hne : (xs == ys) = false := by
            rw [beq_eq_false_iff_ne]; intro h; subst h; exact he (HX.out.symm.trans HY.out)
          have HN := Lib.hid hne
          clear hne
          go_wp2
          go_quiet (fail)
          go_wp2
          go_ret
          exact RetE.mk (bool_eq HN.out.symm) (er.drewN _)
      · go_wp2
        go_ret
        have h := HT.out
        rw [List.take_of_length_le (by omega), List.take_of_length_le (by omega)] at h
        exact RetE.mk (bool_eq (by rw [h]; simp)) er
  · have hne : (xs == ys) = false := by
      rw [beq_eq_false_iff_ne]; intro h; subst h; omega
    have HN := Lib.hid hne
    clear hne
    go_enter Tryz.func53, Tryz.ntmps53
    go_wp2
    go_ret
    exact RetE.mk (bool_eq HN.out.symm) (Ext.refl _)
/-- a plan that the call may read -/
def sameH (xs ys : List Int) (s t : ByteArray) : Bool := xs == ys && decide (s = t)
set_option maxHeartbeats 400000 in
theorem i_SameHouse (ao bo : Option Addr) (n m c d : Nat) (xs ys : List Int) (s t : ByteArray) (w : World) (hx : Ints w ao n xs) (hy : Ints w bo m ys) :
    Calls Tryz.prog 24 #[.agg #[.slice ao n c, .string s], .agg #[.slice bo m d, .string t]] w (RetE (.bool (sameH xs ys s t)) w) := by
  have hC := fun W e => f_Equal_i64 ao bo n m c d xs ys W (hx.ext e) (hy.ext e)
  by_cases h1 : (xs == ys) = true
  · by_cases h2 : s = t
    · subst h2
      have hv : Hid (sameH xs ys s s = true) := Lib.hid (by unfold sameH; rw [h1]; simp)
      go_enter Tryz.func24, Tryz.ntmps24
      go_wp2_with (go_at_call 53; refine (hC _ (((Ext.refl w).alloc _).alloc _)).mono ?_; rw [h1]; rintro e w1 ⟨rfl, e1⟩; obtain ⟨p0, p1, _, _, _⟩ := two_cells (e1.block (blk_old (blk_at w _ _ rfl))); obtain ⟨q0, q1, q2, q3, _⟩ := two_cells (e1.block (blk_at (w.alloc _) _ (w.heap.size + 1) (by simp))))
      go_ret
      exact RetE.mk (bool_eq hv.out.symm) ((((Ext.refl w).alloc _).alloc _).trans e1)
    · have hv : Hid (sameH xs ys s t = false) := Lib.hid (by unfold sameH; rw [h1]; simp [h2])
      have h4 : (s.toList == t.toList) = false := toList_ne h2
      go_enter Tryz.func24, Tryz.ntmps24
      go_wp2
      go_ret
      exact RetE.mk (bool_eq hv.out.symm) (((Ext.refl w).alloc _).alloc _)
  · have hv : Hid (sameH xs ys s t = false) := Lib.hid (by unfold sameH; simp [h1])
    rw [Bool.not_eq_true] at h1
    by_cases h2 : s = t
    · subst h2
      go_enter Tryz.func24, Tryz.ntmps24
      go_wp2_with (go_at_call 53; refine (hC _ (((Ext.refl w).alloc _).alloc _)).mono ?_; rw [h1]; rintro e w1 ⟨rfl, e1⟩; obtain ⟨p0, p1, _, _, _⟩ := two_cells (e1.block (blk_old (blk_at w _ _ rfl))); obtain ⟨q0, q1, q2, q3, _⟩ := two_cells (e1.block (blk_at (w.alloc _) _ (w.heap.size + 1) (by simp))))
      go_ret
      exact RetE.mk (bool_eq hv.out.symm) ((((Ext.refl w).alloc _).alloc _).trans e1)
    · have h4 : (s.toList == t.toList) = false := toList_ne h2
      go_enter Tryz.func24, Tryz.ntmps24
      go_wp2
      go_ret
      exact RetE.mk (bool_eq hv.out.symm) (((Ext.refl w).alloc _).alloc _)
set_option maxHeartbeats 400000 in
theorem s_SameHouse (ao bo : Option Addr) (n m c d : Nat) (xs ys : List Int) (s t : ByteArray) (w : World) (hx : Ints w ao n xs) (hy : Ints w bo m ys) :
    Calls Tryz.prog 21 #[.agg #[.slice ao n c, .string s], .agg #[.slice bo m d, .string t]] w (RetE (.bool (sameH xs ys s t)) w) := by
  have hC := fun W e => s_l00Same ao bo n m c d xs ys W (hx.ext e) (hy.ext e)
  by_cases h1 : (xs == ys) = true
  · by_cases h2 : s = t
    · subst h2
      have hv : Hid (sameH xs ys s s = true) := Lib.hid (by unfold sameH; rw [h1]; simp)
      go_enter Tryz.func21, Tryz.ntmps21
      go_wp2_with (go_at_call 51; refine (hC _ (((Ext.refl w).alloc _).alloc _)).mono ?_; rw [h1]; rintro e w1 ⟨rfl, e1⟩; obtain ⟨p0, p1, _, _, _⟩ := two_cells (e1.block (blk_old (blk_at w _ _ rfl))); obtain ⟨q0, q1, q2, q3, _⟩ := two_cells (e1.block (blk_at (w.alloc _) _ (w.heap.size + 1) (by simp))))
      go_ret
      exact RetE.mk (bool_eq hv.out.symm) ((((Ext.refl w).alloc _).alloc _).trans e1)
    · have hv : Hid (sameH xs ys s t = false) := Lib.hid (by unfold sameH; rw [h1]; simp [h2])
      have h4 : (s.toList == t.toList) = false := toList_ne h2
      go_enter Tryz.func21, Tryz.ntmps21
      go_wp2_with (go_at_call 51; refine (hC _ (((Ext.refl w).alloc _).alloc _)).mono ?_; rw [h1]; rintro e w1 ⟨rfl, e1⟩; obtain ⟨p0, p1, _, _, _⟩ := two_cells (e1.block (blk_old (blk_at w _ _ rfl))); obtain ⟨q0, q1, q2, q3, _⟩ := two_cells (e1.block (blk_at (w.alloc _) _ (w.heap.size + 1) (by simp))))
      go_ret
      exact RetE.mk (bool_eq hv.out.symm) ((((Ext.refl w).alloc _).alloc _).trans e1)
  · have hv : Hid (sameH xs ys s t = false) := Lib.hid (by unfold sameH; simp [h1])
    rw [Bool.not_eq_true] at h1
    by_cases h2 : s = t
    · subst h2
      go_enter Tryz.func21, Tryz.ntmps21
      go_wp2_with (go_at_call 51; refine (hC _ (((Ext.refl w).alloc _).alloc _)).mono ?_; rw [h1]; rintro e w1 ⟨rfl, e1⟩; obtain ⟨p0, p1, _, _, _⟩ := two_cells (e1.block (blk_old (blk_at w _ _ rfl))); obtain ⟨q0, q1, q2, q3, _⟩ := two_cells (e1.block (blk_at (w.alloc _) _ (w.heap.size + 1) (by simp))))
      go_ret
      exact RetE.mk (bool_eq hv.out.symm) ((((Ext.refl w).alloc _).alloc _).trans e1)
    · have h4 : (s.toList == t.toList) = false := toList_ne h2
      go_enter Tryz.func21, Tryz.ntmps21
      go_wp2_with (go_at_call 51; refine (hC _ (((Ext.refl w).alloc _).alloc _)).mono ?_; rw [h1]; rintro e w1 ⟨rfl, e1⟩; obtain ⟨p0, p1, _, _, _⟩ := two_cells (e1.block (blk_old (blk_at w _ _ rfl))); obtain ⟨q0, q1, q2, q3, _⟩ := two_cells (e1.block (blk_at (w.alloc _) _ (w.heap.size + 1) (by simp))))
      go_ret
      exact RetE.mk (bool_eq hv.out.symm) ((((Ext.refl w).alloc _).alloc _).trans e1)
end Go.Proofs.YtaokeaiehjgbnaaGreatDoor

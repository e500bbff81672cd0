/- The program's small functions for the best pair of courses (printed by genmay.py). -/
import Derived.Test.YtciamgnfbhijlaaPairV
import Derived.Test.YtciamgnfbhijlaaPairS0
import Derived.Test.YtciamgnfbhijlaaBestI0
import Derived.Test.YtciamgnfbhijlaaMapK
import Derived.Laws.StructEq
namespace Go.Proofs.Ytciamgnfbhijlaa
open Go.RowKit
set_option linter.unusedSimpArgs false
set_option linter.unusedVariables false
set_option linter.unnecessarySimpa false

/-- the search's block -/
def PBox (g : Nat) (L lap : Int) (vm vk vb : Value) (W : World) : Prop := W.heap[g]? = some (.cells #[.int .i64 L, .int .i64 lap, vm, vk, vb] 85 (0, 0))
set_option maxRecDepth 100000 in
set_option maxHeartbeats 4000000 in
theorem i_may_ff (g : Nat) (L lap : Int) (vm vk vb : Value) (at_ lo hi : Int) (w : World) (hb : PBox g L lap vm vk vb w) (x0 : 0 ≤ at_) (x1 : at_ ≤ 1000) (l0 : 0 ≤ lo) (l1 : lo ≤ 1000) (y0 : 0 ≤ hi) (y1 : hi ≤ 1000) :
    Calls Try.prog 72 #[.pointer (some ⟨g, 0, none⟩), keyV at_ lo hi, .bool false, .bool false] w (RetE (.bool (mayP L lap at_ lo hi false false)) w) := by
  obtain ⟨c0, c1, c2, c3, c4, c5⟩ := five_cells hb
  clear hb
  unfold keyV
  by_cases h1 : 3 < at_ + 1 - lo
  · skip
    have v1 : decide (3 < at_ + 1 - lo) = true := by simp [h1]
    have HV : Hid (mayP L lap at_ lo hi false false = false) := Lib.hid (by simp [mayP]; omega)
    go_enter Try.func72, Try.ntmps72
    go_wp2
    (try go_quiet (fail))
    (try go_wp2)
    go_ret
    refine RetE.mk (bool_eq HV.out.symm) ?_
    repeat' (first | exact Ext.refl _ | refine Ext.drewN ?_ _ | refine Ext.drew ?_ | refine Ext.alloc ?_ _)
  · skip
    by_cases h2 : 3 < at_ + 1 - hi
    · skip
      have v2 : decide (3 < at_ + 1 - hi) = true := by simp [h2]
      have HV : Hid (mayP L lap at_ lo hi false false = false) := Lib.hid (by simp [mayP]; omega)
      go_enter Try.func72, Try.ntmps72
      go_wp2
      (try go_quiet (fail))
      (try go_wp2)
      go_ret
      refine RetE.mk (bool_eq HV.out.symm) ?_
      repeat' (first | exact Ext.refl _ | refine Ext.drewN ?_ _ | refine Ext.drew ?_ | refine Ext.alloc ?_ _)
    · skip
      by_cases he : at_ + 1 = L
      · skip
        have t1 : (at_ + 1 == L) = true := by simp [he]
        have f0 : decide (at_ + 1 = L) = true := by simp [he]
        have HV : Hid (mayP L lap at_ lo hi false false = false) := Lib.hid (by simp [mayP]; omega)
        go_enter Try.func72, Try.ntmps72
        go_wp2
        (try go_quiet (fail))
        (try go_wp2)
        go_ret
        refine RetE.mk (bool_eq HV.out.symm) ?_
        repeat' (first | exact Ext.refl _ | refine Ext.drewN ?_ _ | refine Ext.drew ?_ | refine Ext.alloc ?_ _)
      · skip
        have t1 : (at_ + 1 == L) = false := by simp [he]
        have HV : Hid (mayP L lap at_ lo hi false false = true) := Lib.hid (by simp [mayP]; omega)
        go_enter Try.func72, Try.ntmps72
        go_wp2
        (try go_quiet (fail))
        (try go_wp2)
        go_ret
        refine RetE.mk (bool_eq HV.out.symm) ?_
        repeat' (first | exact Ext.refl _ | refine Ext.drewN ?_ _ | refine Ext.drew ?_ | refine Ext.alloc ?_ _)
set_option maxRecDepth 100000 in
set_option maxHeartbeats 4000000 in
theorem i_may_tf (g : Nat) (L lap : Int) (vm vk vb : Value) (at_ lo hi : Int) (w : World) (hb : PBox g L lap vm vk vb w) (x0 : 0 ≤ at_) (x1 : at_ ≤ 1000) (l0 : 0 ≤ lo) (l1 : lo ≤ 1000) (y0 : 0 ≤ hi) (y1 : hi ≤ 1000) :
    Calls Try.prog 72 #[.pointer (some ⟨g, 0, none⟩), keyV at_ lo hi, .bool true, .bool false] w (RetE (.bool (mayP L lap at_ lo hi true false)) w) := by
  obtain ⟨c0, c1, c2, c3, c4, c5⟩ := five_cells hb
  clear hb
  unfold keyV
  by_cases h2 : 3 < at_ + 1 - hi
  · skip
    have v2 : decide (3 < at_ + 1 - hi) = true := by simp [h2]
    have HV : Hid (mayP L lap at_ lo hi true false = false) := Lib.hid (by simp [mayP]; omega)
    go_enter Try.func72, Try.ntmps72
    go_wp2
    (try go_quiet (fail))
    (try go_wp2)
    go_ret
    refine RetE.mk (bool_eq HV.out.symm) ?_
    repeat' (first | exact Ext.refl _ | refine Ext.drewN ?_ _ | refine Ext.drew ?_ | refine Ext.alloc ?_ _)
  · skip
    by_cases he : at_ + 1 = L
    · skip
      have t1 : (at_ + 1 == L) = true := by simp [he]
      have f0 : decide (at_ + 1 = L) = true := by simp [he]
      have HV : Hid (mayP L lap at_ lo hi true false = false) := Lib.hid (by simp [mayP]; omega)
      go_enter Try.func72, Try.ntmps72
      go_wp2
      (try go_quiet (fail))
      (try go_wp2)
      go_ret
      refine RetE.mk (bool_eq HV.out.symm) ?_
      repeat' (first | exact Ext.refl _ | refine Ext.drewN ?_ _ | refine Ext.drew ?_ | refine Ext.alloc ?_ _)
    · skip
      by_cases hp : 0 < hi
      · skip
        by_cases hd : at_ + 1 - hi < lap
        · skip
          have t1 : (at_ + 1 == L) = false := by simp [he]
          have u1 : decide (0 < hi) = true := by simp [hp]
          have u2 : decide (at_ + 1 - hi < lap) = true := by simp [hd]
          have HV : Hid (mayP L lap at_ lo hi true false = false) := Lib.hid (by simp [mayP]; omega)
          go_enter Try.func72, Try.ntmps72
          go_wp2
          (try go_quiet (fail))
          (try go_wp2)
          go_ret
          refine RetE.mk (bool_eq HV.out.symm) ?_
          repeat' (first | exact Ext.refl _ | refine Ext.drewN ?_ _ | refine Ext.drew ?_ | refine Ext.alloc ?_ _)
        · skip
          have t1 : (at_ + 1 == L) = false := by simp [he]
          have u1 : decide (0 < hi) = true := by simp [hp]
          have u2 : decide (at_ + 1 - hi < lap) = false := by simp; omega
          have HV : Hid (mayP L lap at_ lo hi true false = true) := Lib.hid (by simp [mayP]; omega)
          go_enter Try.func72, Try.ntmps72
          go_wp2
          (try go_quiet (fail))
          (try go_wp2)
          go_ret
          refine RetE.mk (bool_eq HV.out.symm) ?_
          repeat' (first | exact Ext.refl _ | refine Ext.drewN ?_ _ | refine Ext.drew ?_ | refine Ext.alloc ?_ _)
      · skip
        have t1 : (at_ + 1 == L) = false := by simp [he]
        have u1 : decide (0 < hi) = false := by simp; omega
        have HV : Hid (mayP L lap at_ lo hi true false = true) := Lib.hid (by simp [mayP]; omega)
        go_enter Try.func72, Try.ntmps72
        go_wp2
        (try go_quiet (fail))
        (try go_wp2)
        go_ret
        refine RetE.mk (bool_eq HV.out.symm) ?_
        repeat' (first | exact Ext.refl _ | refine Ext.drewN ?_ _ | refine Ext.drew ?_ | refine Ext.alloc ?_ _)
set_option maxRecDepth 100000 in
set_option maxHeartbeats 4000000 in
theorem i_may_ft (g : Nat) (L lap : Int) (vm vk vb : Value) (at_ lo hi : Int) (w : World) (hb : PBox g L lap vm vk vb w) (x0 : 0 ≤ at_) (x1 : at_ ≤ 1000) (l0 : 0 ≤ lo) (l1 : lo ≤ 1000) (y0 : 0 ≤ hi) (y1 : hi ≤ 1000) :
    Calls Try.prog 72 #[.pointer (some ⟨g, 0, none⟩), keyV at_ lo hi, .bool false, .bool true] w (RetE (.bool (mayP L lap at_ lo hi false true)) w) := by
  obtain ⟨c0, c1, c2, c3, c4, c5⟩ := five_cells hb
  clear hb
  unfold keyV
  by_cases h1 : 3 < at_ + 1 - lo
  · skip
    have v1 : decide (3 < at_ + 1 - lo) = true := by simp [h1]
    have HV : Hid (mayP L lap at_ lo hi false true = false) := Lib.hid (by simp [mayP]; omega)
    go_enter Try.func72, Try.ntmps72
    go_wp2
    (try go_quiet (fail))
    (try go_wp2)
    go_ret
    refine RetE.mk (bool_eq HV.out.symm) ?_
    repeat' (first | exact Ext.refl _ | refine Ext.drewN ?_ _ | refine Ext.drew ?_ | refine Ext.alloc ?_ _)
  · skip
    by_cases he : at_ + 1 = L
    · skip
      have t1 : (at_ + 1 == L) = true := by simp [he]
      have f0 : decide (at_ + 1 = L) = true := by simp [he]
      have HV : Hid (mayP L lap at_ lo hi false true = false) := Lib.hid (by simp [mayP]; omega)
      go_enter Try.func72, Try.ntmps72
      go_wp2
      (try go_quiet (fail))
      (try go_wp2)
      go_ret
      refine RetE.mk (bool_eq HV.out.symm) ?_
      repeat' (first | exact Ext.refl _ | refine Ext.drewN ?_ _ | refine Ext.drew ?_ | refine Ext.alloc ?_ _)
    · skip
      by_cases hp : 0 < lo
      · skip
        by_cases hd : at_ + 1 - lo < lap
        · skip
          have t1 : (at_ + 1 == L) = false := by simp [he]
          have u1 : decide (0 < lo) = true := by simp [hp]
          have u2 : decide (at_ + 1 - lo < lap) = true := by simp [hd]
          have HV : Hid (mayP L lap at_ lo hi false true = false) := Lib.hid (by simp [mayP]; omega)
          go_enter Try.func72, Try.ntmps72
          go_wp2
          (try go_quiet (fail))
          (try go_wp2)
          go_ret
          refine RetE.mk (bool_eq HV.out.symm) ?_
          repeat' (first | exact Ext.refl _ | refine Ext.drewN ?_ _ | refine Ext.drew ?_ | refine Ext.alloc ?_ _)
        · skip
          have t1 : (at_ + 1 == L) = false := by simp [he]
          have u1 : decide (0 < lo) = true := by simp [hp]
          have u2 : decide (at_ + 1 - lo < lap) = false := by simp; omega
          have HV : Hid (mayP L lap at_ lo hi false true = true) := Lib.hid (by simp [mayP]; omega)
          go_enter Try.func72, Try.ntmps72
          go_wp2
          (try go_quiet (fail))
          (try go_wp2)
          go_ret
          refine RetE.mk (bool_eq HV.out.symm) ?_
          repeat' (first | exact Ext.refl _ | refine Ext.drewN ?_ _ | refine Ext.drew ?_ | refine Ext.alloc ?_ _)
      · skip
        have t1 : (at_ + 1 == L) = false := by simp [he]
        have u1 : decide (0 < lo) = false := by simp; omega
        have HV : Hid (mayP L lap at_ lo hi false true = true) := Lib.hid (by simp [mayP]; omega)
        go_enter Try.func72, Try.ntmps72
        go_wp2
        (try go_quiet (fail))
        (try go_wp2)
        go_ret
        refine RetE.mk (bool_eq HV.out.symm) ?_
        repeat' (first | exact Ext.refl _ | refine Ext.drewN ?_ _ | refine Ext.drew ?_ | refine Ext.alloc ?_ _)
set_option maxRecDepth 100000 in
set_option maxHeartbeats 4000000 in
theorem i_may_tt (g : Nat) (L lap : Int) (vm vk vb : Value) (at_ lo hi : Int) (w : World) (hb : PBox g L lap vm vk vb w) (x0 : 0 ≤ at_) (x1 : at_ ≤ 1000) (l0 : 0 ≤ lo) (l1 : lo ≤ 1000) (y0 : 0 ≤ hi) (y1 : hi ≤ 1000) :
    Calls Try.prog 72 #[.pointer (some ⟨g, 0, none⟩), keyV at_ lo hi, .bool true, .bool true] w (RetE (.bool (mayP L lap at_ lo hi true true)) w) := by
  obtain ⟨c0, c1, c2, c3, c4, c5⟩ := five_cells hb
  clear hb
  unfold keyV
  by_cases he : at_ + 1 = L
  · skip
    have t1 : (at_ + 1 == L) = true := by simp [he]
    have f0 : decide (at_ + 1 = L) = true := by simp [he]
    have HV : Hid (mayP L lap at_ lo hi true true = true) := Lib.hid (by simp [mayP]; omega)
    go_enter Try.func72, Try.ntmps72
    go_wp2
    (try go_quiet (fail))
    (try go_wp2)
    go_ret
    refine RetE.mk (bool_eq HV.out.symm) ?_
    repeat' (first | exact Ext.refl _ | refine Ext.drewN ?_ _ | refine Ext.drew ?_ | refine Ext.alloc ?_ _)
  · skip
    have t1 : (at_ + 1 == L) = false := by simp [he]
    have HV : Hid (mayP L lap at_ lo hi true true = false) := Lib.hid (by simp [mayP]; omega)
    go_enter Try.func72, Try.ntmps72
    go_wp2
    (try go_quiet (fail))
    (try go_wp2)
    go_ret
    refine RetE.mk (bool_eq HV.out.symm) ?_
    repeat' (first | exact Ext.refl _ | refine Ext.drewN ?_ _ | refine Ext.drew ?_ | refine Ext.alloc ?_ _)
theorem i_may (g : Nat) (L lap : Int) (vm vk vb : Value) (at_ lo hi : Int) (a b : Bool) (w : World) (hb : PBox g L lap vm vk vb w) (x0 : 0 ≤ at_) (x1 : at_ ≤ 1000) (l0 : 0 ≤ lo) (l1 : lo ≤ 1000) (y0 : 0 ≤ hi) (y1 : hi ≤ 1000) :
    Calls Try.prog 72 #[.pointer (some ⟨g, 0, none⟩), keyV at_ lo hi, .bool a, .bool b] w (RetE (.bool (mayP L lap at_ lo hi a b)) w) := by
  cases a <;> cases b
  · exact i_may_ff g L lap vm vk vb at_ lo hi w hb x0 x1 l0 l1 y0 y1
  · exact i_may_ft g L lap vm vk vb at_ lo hi w hb x0 x1 l0 l1 y0 y1
  · exact i_may_tf g L lap vm vk vb at_ lo hi w hb x0 x1 l0 l1 y0 y1
  · exact i_may_tt g L lap vm vk vb at_ lo hi w hb x0 x1 l0 l1 y0 y1
theorem txt5 : ∃ M : ByteArray, M = ⟨#[63, 67, 72, 84, 83]⟩ ∧ M.size = 5 ∧ bts M = [63, 67, 72, 84, 83] := ⟨_, rfl, rfl, rfl⟩
theorem wid_txt (q : Int) (h1 : 1 ≤ q) (h2 : q ≤ 4) : (⟨#[63, 67, 72, 84, 83]⟩ : ByteArray).extract q.toNat (q + 1).toNat = mkS [widB q] := by
  have h : q = 1 ∨ q = 2 ∨ q = 3 ∨ q = 4 := by omega
  rcases h with rfl | rfl | rfl | rfl <;> rfl
theorem i_pieceOf (q : Int) (h1 : 1 ≤ q) (h2 : q ≤ 4) (w : World) : Calls Try.prog 73 #[.int .i64 q] w (RetV (.string (mkS [widB q])) w) := by
  have h : q = 1 ∨ q = 2 ∨ q = 3 ∨ q = 4 := by omega
  rcases h with rfl | rfl | rfl | rfl
  all_goals
    go_enter Try.func73, Try.ntmps73
    go_wp2
    go_ret
    exact RetV.mk rfl
/-- better, as the program tells it of cells -/
def lesG (c p : Int) (lo hi : ByteArray) (c' p' : Int) (lo' hi' : ByteArray) : Bool :=
  if c = c' ∧ p = p' then (Op.bytesLess lo.toList lo'.toList || (decide (lo = lo') && Op.bytesLess hi.toList hi'.toList)) else lessC c p c' p'
theorem lesG_eq (x y : PR) : lesG (pcN x) (ppN x) (mkS x.1) (mkS x.2) (pcN y) (ppN y) (mkS y.1) (mkS y.2) = ltP x y := by
  unfold lesG ltP lessC
  have e : (mkS x.1 = mkS y.1) = (x.1 = y.1) := propext ⟨mkS_inj, fun h => by rw [h]⟩
  simp only [mkS_list, e]
  by_cases h1 : pcN x = pcN y
  · by_cases h2 : ppN x = ppN y
    · rw [if_pos ⟨h1, h2⟩, if_pos h1, if_pos h2]
      by_cases h3 : x.1 = y.1
      · rw [if_pos h3, h3, bl_irrefl]; simp
      · rw [if_neg h3]; simp [h3]
    · rw [if_neg (fun h => h2 h.2), if_pos h1, if_neg h2]
      simp [h1]
  · rw [if_neg (fun h => h1 h.1), if_neg h1]
    simp [h1]
set_option maxRecDepth 100000 in
set_option maxHeartbeats 4000000 in
theorem i_lessP (c p : Int) (lo hi : ByteArray) (c' p' : Int) (lo' hi' : ByteArray) (w : World) :
    Calls Try.prog 75 #[.agg #[.int .i64 c, .int .i64 p, .string lo, .string hi], .agg #[.int .i64 c', .int .i64 p', .string lo', .string hi']] w (RetE (.bool (lesG c p lo hi c' p' lo' hi')) w) := by
  have HE := Lib.hid (((Ext.refl w).alloc (.cells #[.int .i64 c, .int .i64 p, .string lo, .string hi] 54)).alloc (.cells #[.int .i64 c', .int .i64 p', .string lo', .string hi'] 54))
  have HC := Lib.hid (fun W => i_less c p c' p' W)
  by_cases h1 : c = c' ∧ p = p'
  · obtain ⟨rfl, rfl⟩ := h1
    have HL : Hid (lesG c p lo hi c p lo' hi' = (Op.bytesLess lo.toList lo'.toList || (decide (lo = lo') && Op.bytesLess hi.toList hi'.toList))) := Lib.hid (by unfold lesG; rw [if_pos ⟨rfl, rfl⟩])
    by_cases h5 : lo = lo'
    · subst h5
      have t1 : Op.bytesLess lo.toList lo.toList = false := bl_irrefl _
      obtain ⟨u, hu⟩ : ∃ u, Op.bytesLess hi.toList hi'.toList = u := ⟨_, rfl⟩
      have HV : Hid (lesG c p lo hi c p lo hi' = u) := Lib.hid (by rw [HL.out, t1, hu]; simp)
      clear HL
      go_enter Try.func75, Try.ntmps75
      go_wp2
      (try go_quiet (fail))
      (try go_wp2)
      go_ret
      refine RetE.mk (bool_eq HV.out.symm) ?_
      repeat' (first | exact HE.out | refine Ext.drewN ?_ _ | refine Ext.drew ?_)
    · have t' : (lo.toList == lo'.toList) = false := toList_ne h5
      obtain ⟨u, hu⟩ : ∃ u, Op.bytesLess lo.toList lo'.toList = u := ⟨_, rfl⟩
      have HV : Hid (lesG c p lo hi c p lo' hi' = u) := Lib.hid (by rw [HL.out, hu]; simp [h5])
      clear HL
      cases u
      all_goals
        go_enter Try.func75, Try.ntmps75
        go_wp2
        (try go_quiet (fail))
        (try go_wp2)
        go_ret
        refine RetE.mk (bool_eq HV.out.symm) ?_
        repeat' (first | exact HE.out | refine Ext.drewN ?_ _ | refine Ext.drew ?_)
  · have HV : Hid (lesG c p lo hi c' p' lo' hi' = lessC c p c' p') := Lib.hid (by unfold lesG; rw [if_neg h1])
    obtain ⟨u, hu⟩ : ∃ u, lessC c p c' p' = u := ⟨_, rfl⟩
    rw [hu] at HV HC
    by_cases h2 : c = c'
    · subst h2
      have h3 : ¬ p = p' := fun h => h1 ⟨rfl, h⟩
      have t2 : (p == p') = false := by simp [h3]
      have t2' : (p != p') = true := by simp [h3]
      clear hu h1
      go_enter Try.func75, Try.ntmps75
      go_wp2_with (go_at_call 80; refine (HC.out _).mono ?_; rintro e w' ⟨rfl, e1⟩)
      go_ret
      exact RetE.mk (bool_eq HV.out.symm) (HE.out.trans e1)
    · have t1 : (c == c') = false := by simp [h2]
      have t1' : (c != c') = true := by simp [h2]
      clear hu h1
      go_enter Try.func75, Try.ntmps75
      go_wp2_with (go_at_call 80; refine (HC.out _).mono ?_; rintro e w' ⟨rfl, e1⟩)
      go_ret
      exact RetE.mk (bool_eq HV.out.symm) (HE.out.trans e1)
end Go.Proofs.Ytciamgnfbhijlaa

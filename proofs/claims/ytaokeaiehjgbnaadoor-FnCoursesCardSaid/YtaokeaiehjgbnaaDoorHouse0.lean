/- Contracts of the laws' helpers over plans of houses: a copy, a comparison, the count of what came in; and of the two functions that compare two plans. -/
import Derived.Test.YtaokeaiehjgbnaaDoorLawInts
import Derived.Test.YtaokeaiehjgbnaaDoorCourse
namespace Go.Proofs.YtaokeaiehjgbnaaDoor
open Go.RowKit
set_option linter.unusedSimpArgs false
set_option linter.unusedVariables false
set_option linter.unnecessarySimpa false

theorem blk_old {w : World} {o x : Obj} {k : Nat} (h : w.heap[k]? = some x) : (w.alloc o).heap[k]? = some x := by rw [heap_alloc_old w o (lt_of_block h)]; exact h
theorem blk_at (w : World) (o : Obj) (k : Nat) (hk : k = w.heap.size) : (w.alloc o).heap[k]? = some o := by subst hk; exact heap_alloc_new w o

/-- a plan is handed back, its sides in memory of the call's own -/
def RetHouse (xs : List Int) (t : ByteArray) (w : World) (e : Ending) (w' : World) : Prop :=
  ∃ ao cap, e = .returned (.agg #[.slice ao xs.length cap, .string t]) ∧ OwnInts 2 w' w.heap.size (.slice ao xs.length cap) xs ∧ Ext w w'
set_option maxHeartbeats 400000 in
theorem l_toHouse (ao : Option Addr) (n c : Nat) (xs : List Int) (t : ByteArray) (w : World) (hx : Ints w ao n xs) (hn : n ≤ 1048576) :
    Calls Tryd.prog 10 #[.agg #[.slice ao n c, .string t]] w (RetHouse xs t w) := by
  have hC := fun W e => l_toInt64S ao n c xs W (hx.ext e) hn
  go_enter Tryd.func10, Tryd.ntmps10
  go_wp2_with (go_at_call 31; refine (hC _ ((((Ext.refl w).alloc _).alloc _).alloc _)).mono ?_; rintro e w1 ⟨a1, c1, rfl, o1, e1⟩; obtain ⟨p0, p1, _, _, _⟩ := two_cells (e1.block (blk_old (blk_old (blk_at w _ _ rfl)))); obtain ⟨q0, q1, q2, q3, _⟩ := two_cells (e1.block (blk_old (blk_at (w.alloc _) _ (w.heap.size + 1) (by simp)))); obtain ⟨r0, r1, r2, r3, _⟩ := two_cells (e1.block (blk_at ((w.alloc _).alloc _) _ (w.heap.size + 1 + 1) (by simp))))
  have e0 : Ext w w1 := ((((Ext.refl w).alloc _).alloc _).alloc _).trans e1
  have hsz : (((w.alloc (.cells #[.slice ao n c, .string t] 24)).alloc (.cells #[.slice none 0 0, .string ⟨#[]⟩] 27)).alloc (.cells #[.slice none 0 0, .string ⟨#[]⟩] 27)).heap.size = w.heap.size + 1 + 1 + 1 := by simp
  rw [hsz] at o1
  refine bodyPost_ret (v := .agg #[.slice a1 xs.length c1, .string t]) (by simp [results, Tryd.results10, go_sem, q0, q1, r0, r1]) rfl ⟨a1, c1, rfl, ?_, ?_⟩
  · refine OwnInts.mono (base := w.heap.size + 1 + 1 + 1) ?_ (by omega)
    repeat' (first | exact o1 | (dsimp only; omega) | refine OwnInts.setBelow ?_ ?_ _)
  · repeat' (first | exact e0 | (dsimp only; omega) | refine Ext.setCell ?_ ?_ _)
set_option maxHeartbeats 400000 in
theorem l_eqHouse (ao bo : Option Addr) (n m c d : Nat) (xs ys : List Int) (s t : ByteArray) (w : World) (hx : Ints w ao n xs) (hy : Ints w bo m ys) :
    Calls Tryd.prog 12 #[.agg #[.slice ao n c, .string s], .agg #[.slice bo m d, .string t]] w (RetE (.bool (xs == ys && decide (s = t))) w) := by
  have hC := fun W e => l_eqInt64S ao bo n m c d xs ys W (hx.ext e) (hy.ext e)
  by_cases h1 : (xs == ys) = true
  · by_cases h2 : s = t
    · subst h2
      have hv : Hid ((xs == ys && decide (s = s)) = true) := Lib.hid (by rw [h1]; simp)
      go_enter Tryd.func12, Tryd.ntmps12
      go_wp2_with (go_at_call 35; refine (hC _ (((Ext.refl w).alloc _).alloc _)).mono ?_; rw [h1]; rintro e w1 ⟨rfl, e1⟩; obtain ⟨p0, p1, _, _, _⟩ := two_cells (e1.block (blk_old (blk_at w _ _ rfl))); obtain ⟨q0, q1, q2, q3, _⟩ := two_cells (e1.block (blk_at (w.alloc _) _ (w.heap.size + 1) (by simp))))
      go_ret
      exact RetE.mk (bool_eq hv.out.symm) ((((Ext.refl w).alloc _).alloc _).trans e1)
    · have hv : Hid ((xs == ys && decide (s = t)) = false) := Lib.hid (by rw [h1]; simp [h2])
      have h4 : (s.toList == t.toList) = false := toList_ne h2
      go_enter Tryd.func12, Tryd.ntmps12
      go_wp2_with (go_at_call 35; refine (hC _ (((Ext.refl w).alloc _).alloc _)).mono ?_; rw [h1]; rintro e w1 ⟨rfl, e1⟩; obtain ⟨p0, p1, _, _, _⟩ := two_cells (e1.block (blk_old (blk_at w _ _ rfl))); obtain ⟨q0, q1, q2, q3, _⟩ := two_cells (e1.block (blk_at (w.alloc _) _ (w.heap.size + 1) (by simp))))
      go_ret
      exact RetE.mk (bool_eq hv.out.symm) ((((Ext.refl w).alloc _).alloc _).trans e1)
  · have hv : Hid ((xs == ys && decide (s = t)) = false) := Lib.hid (by simp [h1])
    rw [Bool.not_eq_true] at h1
    go_enter Tryd.func12, Tryd.ntmps12
    go_wp2_with (go_at_call 35; refine (hC _ (((Ext.refl w).alloc _).alloc _)).mono ?_; rw [h1]; rintro e w1 ⟨rfl, e1⟩)
    go_ret
    exact RetE.mk (bool_eq hv.out.symm) ((((Ext.refl w).alloc _).alloc _).trans e1)
/-- a plan that the call may read -/
def sameH (xs ys : List Int) (s t : ByteArray) : Bool := xs == ys && decide (s = t)
/-- what is left of a bound behind a plan; less than 0 if there is too much -/
def leftH (k : Int) (n m : Nat) : Int := if (n : Int) ≤ k ∧ (n : Int) + m ≤ k then k - n - m else -1
set_option maxHeartbeats 400000 in
theorem l_szHouse (ao : Option Addr) (n c : Nat) (t : ByteArray) (k : Int) (w : World) (hn : n ≤ 9223372036854775807) (ht : t.size ≤ 9223372036854775807) (k1 : 0 ≤ k) (k2 : k ≤ 1000000000) :
    Calls Tryd.prog 8 #[.agg #[.slice ao n c, .string t], .int .i64 k] w (RetE (.int .i64 (leftH k n t.size)) w) := by
  by_cases h1 : (n : Int) ≤ k
  · by_cases h2 : (n : Int) + t.size ≤ k
    all_goals
      have hv : Hid (sel (decide ((n : Int) ≤ k)) (k - n) (-1) = k - n) := Lib.hid (by simp [sel, h1])
      go_enter Tryd.func8, Tryd.ntmps8
      go_wp2_with (go_at_call 28; refine (l_szInt64S _ _ _ _ _ hn k1 k2).mono ?_; rw [hv.out]; rintro e w1 ⟨rfl, rfl⟩)
      go_ret
      refine RetE.mk (int_eq ?_) ((Ext.refl w).alloc _)
      unfold leftH
      split <;> omega
  · have hv : Hid (sel (decide ((n : Int) ≤ k)) (k - n) (-1) = -1) := Lib.hid (by simp [sel]; omega)
    go_enter Tryd.func8, Tryd.ntmps8
    go_wp2_with (go_at_call 28; refine (l_szInt64S _ _ _ _ _ hn k1 k2).mono ?_; rw [hv.out]; rintro e w1 ⟨rfl, rfl⟩)
    go_ret
    refine RetE.mk (int_eq ?_) ((Ext.refl w).alloc _)
    unfold leftH
    split <;> omega
end Go.Proofs.YtaokeaiehjgbnaaDoor

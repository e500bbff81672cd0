/- Contracts of the program's small functions for the best course. -/
import Derived.Test.YtciamgnfbhijlaaBestTab
import Derived.Test.YtciamgnfbhijlaaRecs
import Derived.Test.YtciamgnfbhijlaaClashMath
import Derived.Test.YtciamgnfbhijlaaWall
namespace Go.Proofs.Ytciamgnfbhijlaa
open Go.RowKit
set_option linter.unusedSimpArgs false
set_option linter.unusedVariables false
set_option linter.unnecessarySimpa false

def lessC (a b a' b' : Int) : Bool := decide (a < a') || (decide (a = a') && decide (b < b'))
set_option maxHeartbeats 800000 in
theorem i_less (a b a' b' : Int) (w : World) : Calls Try.prog 80 #[.agg #[.int .i64 a, .int .i64 b], .agg #[.int .i64 a', .int .i64 b']] w (RetE (.bool (lessC a b a' b')) w) := by
  have e2 : Ext w ((w.alloc (.cells #[.int .i64 a, .int .i64 b] 52)).alloc (.cells #[.int .i64 a', .int .i64 b'] 52)) := ((Ext.refl w).alloc _).alloc _
  have HE := Lib.hid e2
  clear e2
  by_cases h1 : a < a'
  · have HV : Hid (lessC a b a' b' = true) := Lib.hid (by simp [lessC, h1])
    go_enter Try.func80, Try.ntmps80
    go_wp2
    go_ret
    exact RetE.mk (bool_eq HV.out.symm) HE.out
  · by_cases h2 : a = a'
    · subst h2
      have HV : Hid (lessC a b a b' = decide (b < b')) := Lib.hid (by simp [lessC])
      go_enter Try.func80, Try.ntmps80
      go_wp2
      go_ret
      exact RetE.mk (bool_eq HV.out.symm) HE.out
    · have HV : Hid (lessC a b a' b' = false) := Lib.hid (by simp [lessC, h2]; omega)
      have t : (a == a') = false := by simp [h2]
      go_enter Try.func80, Try.ntmps80
      go_wp2
      go_ret
      exact RetE.mk (bool_eq HV.out.symm) HE.out
set_option maxHeartbeats 1600000 in
theorem i_with (a b n : Int) (w : World) (a1 : 0 ≤ a) (a2 : a ≤ 100000) (b1 : 0 ≤ b) (b2 : b ≤ 100000) : Calls Try.prog 74 #[.agg #[.int .i64 a, .int .i64 b], .int .u8 n] w (RetE (.agg #[.int .i64 (a + (if cutI n then 1 else 0)), .int .i64 (b + 1)]) w) := by
  cases h : cutI n
  all_goals
    have H := Lib.hid (fun W => i_IsCut n W)
    rw [h] at H
    go_enter Try.func74, Try.ntmps74
    go_wp2_with (go_at_call 79; refine (H.out _).mono ?_; rintro e w' ⟨rfl, rfl⟩)
  · refine bodyPost_ret (v := .agg #[.int .i64 a, .int .i64 (b + 1)]) (by simp [results, Try.results74, go_sem]) rfl (RetE.mk rfl ?_)
    exact ((Ext.refl w).alloc _).alloc _
  · refine bodyPost_ret (v := .agg #[.int .i64 (a + 1), .int .i64 (b + 1)]) (by simp [results, Try.results74, go_sem]) rfl (RetE.mk rfl ?_)
    exact ((Ext.refl w).alloc _).alloc _
end Go.Proofs.Ytciamgnfbhijlaa

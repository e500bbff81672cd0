/- Contracts of the program's small functions for the best course. -/
import Derived.Test.YtehcmocknmfhcaaBestTab
import Derived.Test.YtehcmocknmfhcaaRecs
import Derived.Test.YtehcmocknmfhcaaClashMath
import Derived.Test.YtehcmocknmfhcaaWall
namespace Go.Proofs.Ytehcmocknmfhcaa
open Go.RowKit
set_option linter.unusedSimpArgs false
set_option linter.unusedVariables false
set_option linter.unnecessarySimpa false

def lessC (a b a' b' : Int) : Bool := decide (a < a') || (decide (a = a') && decide (b < b'))
set_option maxHeartbeats 800000 in
theorem i_less (a b a' b' : Int) (w : World) : Calls Try.prog 104 #[.agg #[.int .i64 a, .int .i64 b], .agg #[.int .i64 a', .int .i64 b']] w (RetE (.bool (lessC a b a' b')) w) := by
  have e2 : Ext w ((w.alloc (.cells #[.int .i64 a, .int .i64 b] 123)).alloc (.cells #[.int .i64 a', .int .i64 b'] 123)) := ((Ext.refl w).alloc _).alloc _
  have HE := Lib.hid e2
  clear e2
  by_cases h1 : a < a'
  · have HV : Hid (lessC a b a' b' = true) := Lib.hid (by simp [lessC, h1])
    go_enter Try.func104, Try.ntmps104
    go_wp2
    go_ret
    exact RetE.mk (bool_eq HV.out.symm) HE.out
  · by_cases h2 : a = a'
    · subst h2
      have HV : Hid (lessC a b a b' = decide (b < b')) := Lib.hid (by simp [lessC])
      go_enter Try.func104, Try.ntmps104
      go_wp2
      go_ret
      exact RetE.mk (bool_eq HV.out.symm) HE.out
    · have HV : Hid (lessC a b a' b' = false) := Lib.hid (by simp [lessC, h2]; omega)
      have t : (a == a') = false := by simp [h2]
      go_enter Try.func104, Try.ntmps104
      go_wp2
      go_ret
      exact RetE.mk (bool_eq HV.out.symm) HE.out
set_option maxHeartbeats 1600000 in
theorem i_with (a b n : Int) (w : World) (a1 : 0 ≤ a) (a2 : a ≤ 100000) (b1 : 0 ≤ b) (b2 : b ≤ 100000) : Calls Try.prog 103 #[.agg #[.int .i64 a, .int .i64 b], .int .u8 n] w (RetE (.agg #[.int .i64 (a + (if cutI n then 1 else 0)), .int .i64 (b + 1)]) w) := by
  cases h : cutI n
  all_goals
    have H := Lib.hid (fun W => i_IsCut n W)
    rw [h] at H
    go_enter Try.func103, Try.ntmps103
    go_wp2_with (go_at_call 72; refine (H.out _).mono ?_; rintro e w' ⟨rfl, rfl⟩)
  · refine bodyPost_ret (v := .agg #[.int .i64 a, .int .i64 (b + 1)]) (by simp [results, Try.results103, go_sem]) rfl (RetE.mk rfl ?_)
    exact ((Ext.refl w).alloc _).alloc _
  · refine bodyPost_ret (v := .agg #[.int .i64 (a + 1), .int .i64 (b + 1)]) (by simp [results, Try.results103, go_sem]) rfl (RetE.mk rfl ?_)
    exact ((Ext.refl w).alloc _).alloc _
end Go.Proofs.Ytehcmocknmfhcaa

/- Contracts of the functions of storey rods that only compute with integers. -/
import Derived.Test.YtaokeaiehjgbnaaDoorRows
import Derived.Test.YtaokeaiehjgbnaaDoorLib
import Derived.Test.YtaokeaiehjgbnaaDoorGaMath
namespace Go.Proofs.YtaokeaiehjgbnaaDoor
open Go.RowKit
set_option linter.unusedSimpArgs false
set_option linter.unusedVariables false
set_option linter.unnecessarySimpa false

theorem i_within (n a b : Int) (w : World) : Calls Tryd.prog 47 #[.int .i64 n, .int .i64 a, .int .i64 b] w (RetV (.bool (inB n a b)) w) := by
  by_cases h1 : a ≤ n <;> by_cases h2 : n ≤ b
  all_goals
    go_enter Tryd.func47, Tryd.ntmps47
    go_wp2
    go_ret
    exact RetV.mk (by simp [inB, *])
theorem s_l00In (n a b : Int) (w : World) : Calls Tryd.prog 45 #[.int .i64 n, .int .i64 a, .int .i64 b] w (RetV (.bool (inB n a b)) w) := by
  by_cases h1 : a ≤ n <;> by_cases h2 : n ≤ b
  all_goals
    go_enter Tryd.func45, Tryd.ntmps45
    go_wp2
    go_ret
    exact RetV.mk (by simp [inB, *])

/-! ### marks -/
theorem mark_div (h c k : Int) : (2 * (k * h) + c) / (2 * c) = mark h c k := rfl


/-! ### codes of storeys -/

/-! ### the two functions -/
def nmOk (h c l : Int) : Bool := gcode h c && inB l 0 h
theorem nmOk_bd {h c l : Int} (g : nmOk h c l = true) : 100 ≤ h ∧ h ≤ 6000 ∧ 1 ≤ c ∧ c ≤ 40 ∧ 0 ≤ l ∧ l ≤ h := by simp [nmOk, gcode, inB] at g; omega
def Pair (a b : Int) (w : World) (e : Ending) (w' : World) : Prop := e = .returned (.tuple #[.int .i64 a, .int .i64 b]) ∧ w = w'
theorem Pair.mk {a b a' b' : Int} {w : World} (h : a' = a) (k : b' = b) : Pair a b w (.returned (.tuple #[.int .i64 a', .int .i64 b'])) w := ⟨by rw [h, k], rfl⟩
end Go.Proofs.YtaokeaiehjgbnaaDoor

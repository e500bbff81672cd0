/- Contracts of the functions of storey rods that only compute with integers. -/
import Derived.Test.YtdedamamjkpcpaaGreatDoorRows
import Derived.Test.YtdedamamjkpcpaaGreatDoorLib
import Derived.Test.YtdedamamjkpcpaaGreatDoorGaMath
namespace Go.Proofs.YtdedamamjkpcpaaGreatDoor
open Go.RowKit
set_option linter.unusedSimpArgs false
set_option linter.unusedVariables false
set_option linter.unnecessarySimpa false

theorem i_within (n a b : Int) (w : World) : Calls Tryz.prog 42 #[.int .i64 n, .int .i64 a, .int .i64 b] w (RetV (.bool (inB n a b)) w) := by
  by_cases h1 : a ≤ n <;> by_cases h2 : n ≤ b
  all_goals
    go_enter Tryz.func42, Tryz.ntmps42
    go_wp2
    go_ret
    exact RetV.mk (by simp [inB, *])
theorem s_l00In (n a b : Int) (w : World) : Calls Tryz.prog 32 #[.int .i64 n, .int .i64 a, .int .i64 b] w (RetV (.bool (inB n a b)) w) := by
  by_cases h1 : a ≤ n <;> by_cases h2 : n ≤ b
  all_goals
    go_enter Tryz.func32, Tryz.ntmps32
    go_wp2
    go_ret
    exact RetV.mk (by simp [inB, *])
theorem i_apart (a b : Int) (h1 : -1000000000000 ≤ a) (h2 : a ≤ 1000000000000) (h3 : -1000000000000 ≤ b) (h4 : b ≤ 1000000000000) (w : World) :
    Calls Tryz.prog 44 #[.int .i64 a, .int .i64 b] w (RetV (.int .i64 (dist a b)) w) := by
  by_cases h : a < b
  all_goals
    go_enter Tryz.func44, Tryz.ntmps44
    go_wp2
    go_ret
    exact RetV.mk (int_eq (by unfold dist; split <;> omega))
theorem s_l02Size_abs (n : Int) (h1 : -4000000000000000000 ≤ n) (h2 : n ≤ 4000000000000000000) (w : World) :
    Calls Tryz.prog 64 #[.int .i64 n] w (RetV (.int .i64 (absI n)) w) := by
  by_cases h : n < 0
  all_goals
    go_enter Tryz.func64, Tryz.ntmps64
    go_wp2
    go_ret
    exact RetV.mk (int_eq (by unfold absI; split <;> omega))
theorem s_l02Size (a b : Int) (h1 : -1000000000000 ≤ a) (h2 : a ≤ 1000000000000) (h3 : -1000000000000 ≤ b) (h4 : b ≤ 1000000000000) (w : World) :
    Calls Tryz.prog 64 #[.int .i64 (a - b)] w (RetV (.int .i64 (dist a b)) w) := by
  rw [← dist_abs]
  exact s_l02Size_abs _ (by omega) (by omega) w

/-! ### marks -/
theorem mark_div (h c k : Int) : (2 * (k * h) + c) / (2 * c) = mark h c k := rfl

theorem i_rounded (a c : Int) (a1 : 0 ≤ a) (a2 : a ≤ 1000000000000) (c1 : 1 ≤ c) (c2 : c ≤ 1000000000) (w : World) :
    Calls Tryz.prog 59 #[.int .i64 a, .int .i64 c] w (RetV (.int .i64 ((2 * a + c) / (2 * c))) w) := by
  go_enter Tryz.func59, Tryz.ntmps59
  go_wp2
  go_ret
  exact RetV.mk rfl

/-! ### codes of storeys -/

/-! ### the two functions -/
def nmOk (h c l : Int) : Bool := gcode h c && inB l 0 h
theorem nmOk_bd {h c l : Int} (g : nmOk h c l = true) : 100 ≤ h ∧ h ≤ 6000 ∧ 1 ≤ c ∧ c ≤ 40 ∧ 0 ≤ l ∧ l ≤ h := by simp [nmOk, gcode, inB] at g; omega
def Pair (a b : Int) (w : World) (e : Ending) (w' : World) : Prop := e = .returned (.tuple #[.int .i64 a, .int .i64 b]) ∧ w = w'
theorem Pair.mk {a b a' b' : Int} {w : World} (h : a' = a) (k : b' = b) : Pair a b w (.returned (.tuple #[.int .i64 a', .int .i64 b'])) w := ⟨by rw [h, k], rfl⟩
end Go.Proofs.YtdedamamjkpcpaaGreatDoor

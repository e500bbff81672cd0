/- Contracts: a course of a bond: both sides. -/
import Derived.Test.YtdedamamjkpcpaaGreatDoorBond3
import Derived.RegionTactic
import Derived.ChangeAlike
namespace Go.Proofs.YtdedamamjkpcpaaGreatDoor
open Go.RowKit
set_option linter.unusedSimpArgs false
set_option linter.unusedVariables false
set_option linter.unnecessarySimpa false

theorem crsAt_eq (cs : List Crs) (n : Nat) (k : Int) (j : Nat) (hl : cs.length = n) (h : k % (n : Int) = (j : Int)) : crsAt cs k = cs.getD j default := by
  unfold crsAt; rw [hl, h, Int.toNat_natCast]
end Go.Proofs.YtdedamamjkpcpaaGreatDoor

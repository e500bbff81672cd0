/- Contracts of the reference's small functions for the best course. -/
import Derived.Test.YtehcmocknmfhcaaBestTab
import Derived.Test.YtehcmocknmfhcaaRecs
import Derived.Test.YtehcmocknmfhcaaClashMath
namespace Go.Proofs.Ytehcmocknmfhcaa
open Go.RowKit
set_option linter.unusedSimpArgs false
set_option linter.unusedVariables false
set_option linter.unnecessarySimpa false

def cutV (b : Int) : Int := if cutI b then 1 else 0
/-- better, as the reference tells it; a number of cut pieces below 0 tells that there is none -/
def lessG (a b : Int) (s : ByteArray) (a' b' : Int) (s' : ByteArray) : Bool :=
  if a < 0 ∨ a' < 0 then decide (0 ≤ a) && decide (a' < 0) else if a = a' then (if b = b' then Op.bytesLess s.toList s'.toList else decide (b < b')) else decide (a < a')
/-- a place is at least a lap from all places of a list -/
def farB (lap : Int) (xs : List Int) (y : Int) : Bool := xs.all fun x => decide (lap ≤ dist x y)
def Near (xs : List Int) : Prop := ∀ x ∈ xs, -1000000000000 ≤ x ∧ x ≤ 1000000000000
end Go.Proofs.Ytehcmocknmfhcaa

/- Contracts of the laws' helpers over plans of houses: a copy, a comparison, the count of what came in; and of the two functions that compare two plans. -/
import Derived.Test.YtdedamamjkpcpaaGreatDoorLawInts
import Derived.Test.YtdedamamjkpcpaaGreatDoorCourse
namespace Go.Proofs.YtdedamamjkpcpaaGreatDoor
open Go.RowKit
set_option linter.unusedSimpArgs false
set_option linter.unusedVariables false
set_option linter.unnecessarySimpa false

theorem blk_old {w : World} {o x : Obj} {k : Nat} (h : w.heap[k]? = some x) : (w.alloc o).heap[k]? = some x := by rw [heap_alloc_old w o (lt_of_block h)]; exact h
theorem blk_at (w : World) (o : Obj) (k : Nat) (hk : k = w.heap.size) : (w.alloc o).heap[k]? = some o := by subst hk; exact heap_alloc_new w o

/-- a plan is handed back, its sides in memory of the call's own -/
def RetHouse (xs : List Int) (t : ByteArray) (w : World) (e : Ending) (w' : World) : Prop :=
  ∃ ao cap, e = .returned (.agg #[.slice ao xs.length cap, .string t]) ∧ OwnInts 2 w' w.heap.size (.slice ao xs.length cap) xs ∧ Ext w w'
/-- a plan that the call may read -/
def sameH (xs ys : List Int) (s t : ByteArray) : Bool := xs == ys && decide (s = t)
end Go.Proofs.YtdedamamjkpcpaaGreatDoor

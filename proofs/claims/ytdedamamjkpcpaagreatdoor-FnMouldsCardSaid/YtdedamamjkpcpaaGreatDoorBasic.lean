/- Contracts of small functions over slices of integers: a search by a closure, 'outside', 'rises'. -/
import Derived.Test.YtdedamamjkpcpaaGreatDoorLawInts
import Derived.Test.YtdedamamjkpcpaaGreatDoorGauge
import Derived.Shelf.Abstract
namespace Go.Proofs.YtdedamamjkpcpaaGreatDoor
open Go.RowKit
set_option linter.unusedSimpArgs false
set_option linter.unusedVariables false
set_option linter.unnecessarySimpa false


/-- the first k numbers lie within bounds and rise -/
def risB (lo hi : Int) (xs : List Int) : Nat → Bool
  | 0 => true
  | k + 1 => risB lo hi xs k && (inB (xs.getD k 0) lo hi && (k == 0 || decide (xs.getD (k - 1) 0 < xs.getD k 0)))
/-- each of the first k numbers but the first is more than the one before it -/
def incB (xs : List Int) : Nat → Bool
  | 0 => true
  | k + 1 => incB xs k && (k == 0 || decide (xs.getD (k - 1) 0 < xs.getD k 0))
theorem risB_split (lo hi : Int) (xs : List Int) (k : Nat) (hk : k ≤ xs.length) : risB lo hi xs k = (!((xs.take k).any fun x => !inB x lo hi) && incB xs k) := by
  induction k with
  | zero => simp [risB, incB]
  | succ k ih =>
    rw [List.take_succ_eq_append_getElem (by omega), List.any_append, risB, incB, ih (by omega)]
    have : xs.getD k 0 = xs[k] := by simp [List.getD_eq_getElem?_getD, List.getElem?_eq_getElem (show k < xs.length by omega)]
    rw [this]
    cases h1 : (xs.take k).any (fun x => !inB x lo hi) <;> cases h2 : incB xs k <;> cases h3 : inB xs[k] lo hi <;> simp [h3]
theorem risB_le (lo hi : Int) (xs : List Int) {j k : Nat} (h : risB lo hi xs k = true) (hj : j ≤ k) : risB lo hi xs j = true := by
  induction k with
  | zero => obtain rfl : j = 0 := by omega
            exact h
  | succ k ih =>
    by_cases e : j = k + 1
    · subst e; exact h
    · simp only [risB, Bool.and_eq_true] at h
      exact ih h.1 (by omega)
theorem incB_le (xs : List Int) {j k : Nat} (h : incB xs k = true) (hj : j ≤ k) : incB xs j = true := by
  induction k with
  | zero => obtain rfl : j = 0 := by omega
            exact h
  | succ k ih =>
    by_cases e : j = k + 1
    · subst e; exact h
    · simp only [incB, Bool.and_eq_true] at h
      exact ih h.1 (by omega)
end Go.Proofs.YtdedamamjkpcpaaGreatDoor

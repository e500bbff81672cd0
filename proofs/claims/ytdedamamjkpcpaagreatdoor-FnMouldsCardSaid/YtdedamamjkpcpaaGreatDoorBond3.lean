/- Contracts: the letters of a course of a bond: both sides. -/
import Derived.Test.YtdedamamjkpcpaaGreatDoorGaBonda
import Derived.IntWalk
namespace Go.Proofs.YtdedamamjkpcpaaGreatDoor
open Go.RowKit
set_option linter.unusedSimpArgs false
set_option linter.unusedVariables false
set_option linter.unnecessarySimpa false

theorem ltr_lo (a b : ByteArray) (i : Nat) (h : i < a.size) : ltr (bts a) (bts b) i = a[i] := by
  unfold ltr
  rw [bts_length, if_pos h, bts_getD a i h]
theorem ltr_hi (a b : ByteArray) (i : Nat) (h : ¬ i < a.size) (hj : (i - a.size) % b.size < b.size) : ltr (bts a) (bts b) i = b[(i - a.size) % b.size] := by
  unfold ltr
  rw [bts_length, bts_length, if_neg h, bts_getD b _ hj]
theorem u8_eq {a b : UInt8} (h : a = b) : Value.int .u8 (a.toNat : Int) = .int .u8 (b.toNat : Int) := by rw [h]
end Go.Proofs.YtdedamamjkpcpaaGreatDoor

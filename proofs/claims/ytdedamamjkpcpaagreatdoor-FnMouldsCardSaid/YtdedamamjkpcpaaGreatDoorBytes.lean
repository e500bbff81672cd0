/- Words for rows of bytes: what a text's bytes in memory read as, one that the call made by appending; back to a text. Reversing in place. -/
import Derived.Test.YtdedamamjkpcpaaGreatDoorLawInts
import Derived.Test.YtdedamamjkpcpaaGreatDoorCourse
namespace Go.Proofs.YtdedamamjkpcpaaGreatDoor
open Go.RowKit
set_option linter.unusedSimpArgs false
set_option linter.unusedVariables false
set_option linter.unnecessarySimpa false

/-- the text of some bytes; the walk does not look inside -/
def mkS (l : List UInt8) : ByteArray := ⟨l.toArray⟩
theorem bts_mkS (l : List UInt8) : bts (mkS l) = l := by simp [bts, mkS]
theorem mkS_bts (s : ByteArray) : mkS (bts s) = s := by cases s; simp [bts, mkS]
theorem mkS_size (l : List UInt8) : (mkS l).size = l.length := by rw [← bts_length, bts_mkS]
def u8V (b : UInt8) : Value := .int .u8 (b.toNat : Int)

theorem ne_off {g i j : Nat} (h : i ≠ j) : (⟨g, i, none⟩ : Addr) ≠ ⟨g, j, none⟩ := fun e => h (by simpa using e)


theorem rev_at (l : List UInt8) (n : Nat) (hl : l.length = n) (j : Nat) (hj : j < l.reverse.length) : l.reverse[j] = l.getD (n - 1 - j) 0 := by
  subst hl
  rw [List.length_reverse] at hj
  rw [List.getElem_reverse, List.getD_eq_getElem?_getD, List.getElem?_eq_getElem (by omega)]
  rfl
def mirC (l : List UInt8) : List UInt8 := if validC l then l.reverse else []
/-- a text and a code are handed back -/
def RetSC (l : List UInt8) (c : Int) (w : World) (e : Ending) (w' : World) : Prop := e = .returned (.tuple #[.string (mkS l), .int .i64 c]) ∧ Ext w w'
theorem RetSC.mk {s : ByteArray} {l : List UInt8} {c c' : Int} {w w' : World} (h : s = mkS l) (hc : c' = c) (e : Ext w w') : RetSC l c w (.returned (.tuple #[.string s, .int .i64 c'])) w' := ⟨by rw [h, hc], e⟩
theorem bytesRow_at (s : ByteArray) (cap m : Nat) (hm : m < s.size) : (bytesRow s cap)[m]? = some (.int .u8 (((bts s).getD m 0).toNat : Int)) := by
  unfold bytesRow bts
  rw [Array.getElem?_append_left (by simpa using hm)]
  simp [List.getD_eq_getElem?_getD, hm]
end Go.Proofs.YtdedamamjkpcpaaGreatDoor

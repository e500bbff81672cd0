/- Contracts of the functions on courses that only read a text: pieces, quarters, what a course is. -/
import Derived.Test.YtdedamamjkpcpaaGreatDoorLawInts
import Derived.Test.YtdedamamjkpcpaaGreatDoorGauge
import Derived.Test.YtdedamamjkpcpaaGreatDoorGaMath
namespace Go.Proofs.YtdedamamjkpcpaaGreatDoor
open Go.RowKit
set_option linter.unusedSimpArgs false
set_option linter.unusedVariables false
set_option linter.unnecessarySimpa false

/-- the bytes of a text; the walk does not look inside -/
def bts (s : ByteArray) : List UInt8 := s.data.toList
/-- the byte k of a text, as the walk writes it -/
theorem bts_length (s : ByteArray) : (bts s).length = s.size := by simp [bts]
theorem byte_at (s : ByteArray) (k : Nat) (h : k < s.size) : ∃ (h' : k < (bts s).length), (bts s)[k] = s[k] := ⟨by rw [bts_length]; exact h, rfl⟩
theorem take_snoc (s : ByteArray) (k : Nat) (h : k < s.size) : (bts s).take (k + 1) = (bts s).take k ++ [s[k]] := by
  rw [List.take_succ_eq_append_getElem (by rw [bts_length]; exact h)]; rfl
theorem take_all (s : ByteArray) (k : Nat) (h : s.size ≤ k) : (bts s).take k = bts s := List.take_of_length_le (by rw [bts_length]; exact h)


theorem letters_bts : bts ⟨#[83, 72, 84, 66, 67]⟩ = [83, 72, 84, 66, 67] := rfl
def perpsC (l : List UInt8) : List Int := if validC l then perps l else []
theorem perpsC_length (l : List UInt8) : (perpsC l).length ≤ 60 := by
  unfold perpsC
  split
  · rename_i g
    have ⟨h1, h2, _, _⟩ := validC_bd g
    rw [perps_length]; omega
  · simp
end Go.Proofs.YtdedamamjkpcpaaGreatDoor

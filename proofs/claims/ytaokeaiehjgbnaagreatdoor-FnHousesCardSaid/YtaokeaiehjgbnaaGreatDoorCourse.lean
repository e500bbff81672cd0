/- Contracts of the functions on courses that only read a text: pieces, quarters, what a course is. -/
import Derived.Test.YtaokeaiehjgbnaaGreatDoorLawInts
import Derived.Test.YtaokeaiehjgbnaaGreatDoorGauge
import Derived.Test.YtaokeaiehjgbnaaGreatDoorGaMath
namespace Go.Proofs.YtaokeaiehjgbnaaGreatDoor
open Go.RowKit
set_option linter.unusedSimpArgs false
set_option linter.unusedVariables false
set_option linter.unnecessarySimpa false

/-- the bytes of a text; the walk does not look inside -/
def bts (s : ByteArray) : List UInt8 := s.data.toList
/-- the byte k of a text, as the walk writes it -/
theorem bts_length (s : ByteArray) : (bts s).length = s.size := by simp [bts]
theorem byte_at (s : ByteArray) (k : Nat) (h : k < s.size) : ∃ (h' : k < (bts s).length), (bts s)[k] = s[k] := ⟨by rw [bts_length]; exact h, rfl⟩
theorem take_snoc (s : ByteArray) (k : Nat) (h : k < s.size) : (bts s).take (k + 1) = (bts s).take k ++ [s[k]] := by
  rw [List.take_succ_eq_append_getElem (by rw [bts_length]; exact h)]; rfl
theorem take_all (s : ByteArray) (k : Nat) (h : s.size ≤ k) : (bts s).take k = bts s := List.take_of_length_le (by rw [bts_length]; exact h)

theorem run_indexByteS (s : ByteArray) (c : Int) (w : World) : (callFunc 103 #[.string s, .int .u8 c]).run Tryz.prog w = .ok (.value (.int .i64 (Lib.indexByte (bts s) c.toNat.toUInt8))) w := by
  rw [run_callFunc_extern Tryz.func103 (by kernel_rfl) (by kernel_rfl) (by kernel_rfl) (e := Extern.BytealgIndexByte.indexByte) (by kernel_rfl), Lib.run_indexByteString]
  rfl
theorem f_IndexByte (s : ByteArray) (c : Int) (w : World) : Calls Tryz.prog 76 #[.string s, .int .u8 c] w (RetV (.int .i64 (Lib.indexByte (bts s) c.toNat.toUInt8)) w) := by
  have hr := run_indexByteS s c
  go_enter Tryz.func76, Tryz.ntmps76
  go_wp2
  go_ret
  exact RetV.mk rfl
theorem f_IndexByte_b (s : ByteArray) (b : UInt8) (w : World) : Calls Tryz.prog 76 #[.string s, .int .u8 (b.toNat : Int)] w (RetV (.int .i64 (Lib.indexByte (bts s) b)) w) := by
  have h := f_IndexByte s (b.toNat : Int) w
  rwa [show ((b.toNat : Int).toNat.toUInt8) = b from by simp] at h
set_option maxHeartbeats 400000 in
theorem i_onlyOf (s m : ByteArray) (hs : s.size ≤ 9223372036854775807) (w : World) : Calls Tryz.prog 56 #[.string s, .string m] w (RetV (.bool ((bts s).all (inL (bts m)))) w) := by
  go_enter Tryz.func56, Tryz.ntmps56
  go_wp2
  go_loop [8] (fun i => ∃ k : Nat, k ≤ s.size ∧ i = .int .i64 k ∧ ((bts s).take k).all (inL (bts m)) = true) (fun i => s.size - (intOf i).toNat)
  case atStart => exact ⟨0, Nat.zero_le _, rfl, rfl⟩
  case round =>
    obtain ⟨k, hk, rfl, ht⟩ := hrel
    have HT := Lib.hid ht
    clear ht
    by_cases hlt : k < s.size
    · obtain ⟨hkl, hb⟩ := byte_at s k hlt
      have hsucc := all_take_succ (p := inL (bts m)) hkl
      have hf := all_false_of (p := inL (bts m)) hkl
      rw [hb] at hsucc hf
      have HS := Lib.hid hsucc
      have HF := Lib.hid hf
      have hq : Hid (inL (bts m) s[k] = decide (0 ≤ Lib.indexByte (bts m) s[k])) := rfl
      clear hsucc hf hb
      by_cases hin : 0 ≤ Lib.indexByte (bts m) s[k]
      · go_wp2_with (go_at_call 76; refine (f_IndexByte_b _ _ _).mono ?_; rintro e w' ⟨rfl, rfl⟩)
        go_round
        case rel => exact ⟨k + 1, by omega, by go_num, by rw [HS.out, HT.out, hq.out]; simp [hin]⟩
        case measure => simp [intOf]; omega
      · go_wp2_with (go_at_call 76; refine (f_IndexByte_b _ _ _).mono ?_; rintro e w' ⟨rfl, rfl⟩)
        go_ret
        exact RetV.mk (bool_eq (by rw [HF.out (by rw [hq.out]; simp; omega)]))
    · go_wp2
      go_ret
      exact RetV.mk (bool_eq (by have h := HT.out; rw [take_all s k (by omega)] at h; exact h.symm))

theorem letters_bts : bts ⟨#[83, 72, 84, 66, 67]⟩ = [83, 72, 84, 66, 67] := rfl
def perpsC (l : List UInt8) : List Int := if validC l then perps l else []
theorem perpsC_length (l : List UInt8) : (perpsC l).length ≤ 60 := by
  unfold perpsC
  split
  · rename_i g
    have ⟨h1, h2, _, _⟩ := validC_bd g
    rw [perps_length]; omega
  · simp
end Go.Proofs.YtaokeaiehjgbnaaGreatDoor

/- Contracts of the functions on courses that only read a text: pieces, quarters, what a course is. -/
import Derived.Test.YtnhmcmohnpbcjaaLawInts
import Derived.Test.YtnhmcmohnpbcjaaGauge
import Derived.Test.YtnhmcmohnpbcjaaGaMath
namespace Go.Proofs.Ytnhmcmohnpbcjaa
open Go.RowKit
set_option linter.unusedSimpArgs false
set_option linter.unusedVariables false
set_option linter.unnecessarySimpa false

/-- the bytes of a text; the walk does not look inside -/
def bts (s : ByteArray) : List UInt8 := s.data.toList
/-- the byte k of a text, as the walk writes it -/
theorem bts_length (s : ByteArray) : (bts s).length = s.size := by simp [bts]
theorem byte_at (s : ByteArray) (k : Nat) (h : k < s.size) : ∃ (h' : k < (bts s).length), (bts s)[k] = s[k] := ⟨by rw [bts_length]; exact h, rfl⟩
theorem take_snoc (s : ByteArray) (k : Nat) (h : k < s.size) : (bts s).take (k + 1) = (bts s).take k ++ [s[k]] := by
  rw [List.take_succ_eq_append_getElem (by rw [bts_length]; exact h)]; rfl
theorem take_all (s : ByteArray) (k : Nat) (h : s.size ≤ k) : (bts s).take k = bts s := List.take_of_length_le (by rw [bts_length]; exact h)

theorem i_quartersOf (n : Int) (w : World) : Calls Try.prog 119 #[.int .u8 n] w (RetV (.int .i64 (qI n)) w) := by
  go_enter Try.func119, Try.ntmps119
  go_wp2
  all_goals
    go_ret
    refine RetV.mk (int_eq ?_)
    simp only [beq_iff_eq, beq_eq_false_iff_ne, ne_eq] at *
    unfold qI
    repeat' split
    all_goals omega
theorem s_l02Quarters (n : Int) (w : World) : Calls Try.prog 111 #[.int .u8 n] w (RetV (.int .i64 (qI n)) w) := by
  go_enter Try.func111, Try.ntmps111
  go_wp2
  all_goals
    go_ret
    refine RetV.mk (int_eq ?_)
    simp only [beq_iff_eq, beq_eq_false_iff_ne, ne_eq] at *
    unfold qI
    repeat' split
    all_goals omega
theorem run_indexByteS (s : ByteArray) (c : Int) (w : World) : (callFunc 163 #[.string s, .int .u8 c]).run Try.prog w = .ok (.value (.int .i64 (Lib.indexByte (bts s) c.toNat.toUInt8))) w := by
  rw [run_callFunc_extern Try.func163 (by kernel_rfl) (by kernel_rfl) (by kernel_rfl) (e := Extern.BytealgIndexByte.indexByte) (by kernel_rfl), Lib.run_indexByteString]
  rfl
theorem f_IndexByte (s : ByteArray) (c : Int) (w : World) : Calls Try.prog 149 #[.string s, .int .u8 c] w (RetV (.int .i64 (Lib.indexByte (bts s) c.toNat.toUInt8)) w) := by
  have hr := run_indexByteS s c
  go_enter Try.func149, Try.ntmps149
  go_wp2
  go_ret
  exact RetV.mk rfl
theorem f_IndexByte_b (s : ByteArray) (b : UInt8) (w : World) : Calls Try.prog 149 #[.string s, .int .u8 (b.toNat : Int)] w (RetV (.int .i64 (Lib.indexByte (bts s) b)) w) := by
  have h := f_IndexByte s (b.toNat : Int) w
  rwa [show ((b.toNat : Int).toNat.toUInt8) = b from by simp] at h
set_option maxHeartbeats 400000 in
theorem i_onlyOf (s m : ByteArray) (hs : s.size ≤ 9223372036854775807) (w : World) : Calls Try.prog 116 #[.string s, .string m] w (RetV (.bool ((bts s).all (inL (bts m)))) w) := by
  go_enter Try.func116, Try.ntmps116
  go_wp2
  go_loop [8] (fun i => ∃ k : Nat, k ≤ s.size ∧ i = .int .i64 k ∧ ((bts s).take k).all (inL (bts m)) = true) (fun i => s.size - (intOf i).toNat)
  case atStart => exact ⟨0, Nat.zero_le _, rfl, rfl⟩
  case round =>
    obtain ⟨k, hk, rfl, ht⟩ := hrel
    have HT := Lib.hid ht
    clear ht
    by_cases hlt : k < s.size
    · obtain ⟨hkl, hb⟩ := byte_at s k hlt
      have hsucc := all_take_succ (p := inL (bts m)) hkl
      have hf := all_false_of (p := inL (bts m)) hkl
      rw [hb] at hsucc hf
      have HS := Lib.hid hsucc
      have HF := Lib.hid hf
      have hq : Hid (inL (bts m) s[k] = decide (0 ≤ Lib.indexByte (bts m) s[k])) := rfl
      clear hsucc hf hb
      by_cases hin : 0 ≤ Lib.indexByte (bts m) s[k]
      · go_wp2_with (go_at_call 149; refine (f_IndexByte_b _ _ _).mono ?_; rintro e w' ⟨rfl, rfl⟩)
        go_round
        case rel => exact ⟨k + 1, by omega, by go_num, by rw [HS.out, HT.out, hq.out]; simp [hin]⟩
        case measure => simp [intOf]; omega
      · go_wp2_with (go_at_call 149; refine (f_IndexByte_b _ _ _).mono ?_; rintro e w' ⟨rfl, rfl⟩)
        go_ret
        exact RetV.mk (bool_eq (by rw [HF.out (by rw [hq.out]; simp; omega)]))
    · go_wp2
      go_ret
      exact RetV.mk (bool_eq (by have h := HT.out; rw [take_all s k (by omega)] at h; exact h.symm))
set_option maxHeartbeats 400000 in
theorem s_l04Pieces (s : ByteArray) (hs : s.size ≤ 9223372036854775807) (w : World) : Calls Try.prog 126 #[.string s] w (RetV (.bool ((bts s).all isPc)) w) := by
  go_enter Try.func126, Try.ntmps126
  go_wp2
  go_loop [3] (fun i => ∃ k : Nat, k ≤ s.size ∧ i = .int .i64 k ∧ ((bts s).take k).all isPc = true) (fun i => s.size - (intOf i).toNat)
  case atStart => exact ⟨0, Nat.zero_le _, rfl, rfl⟩
  case round =>
    obtain ⟨k, hk, rfl, ht⟩ := hrel
    have HT := Lib.hid ht
    clear ht
    by_cases hlt : k < s.size
    · obtain ⟨hkl, hb⟩ := byte_at s k hlt
      have hsucc := all_take_succ (p := isPc) hkl
      have hf := all_false_of (p := isPc) hkl
      rw [hb] at hsucc hf
      have HS := Lib.hid hsucc
      have HF := Lib.hid hf
      have hq : Hid (isPc s[k] = decide (qI s[k].toNat ≠ 0)) := rfl
      clear hsucc hf hb
      by_cases hin : qI s[k].toNat = 0
      · have hin2 : (qI s[k].toNat == 0) = true := by simp [hin]
        have HI := Lib.hid hin
        clear hin
        go_wp2_with (go_at_call 111; refine (s_l02Quarters _ _).mono ?_; rintro e w' ⟨rfl, rfl⟩)
        go_ret
        exact RetV.mk (bool_eq (by rw [HF.out (by rw [hq.out, HI.out]; rfl)]))
      · have hin2 : (qI s[k].toNat == 0) = false := by simp [hin]
        go_wp2_with (go_at_call 111; refine (s_l02Quarters _ _).mono ?_; rintro e w' ⟨rfl, rfl⟩)
        go_round
        case rel => exact ⟨k + 1, by omega, by go_num, by rw [HS.out, HT.out, hq.out]; simp [hin]⟩
        case measure => simp [intOf]; omega
    · go_wp2
      go_ret
      exact RetV.mk (bool_eq (by have h := HT.out; rw [take_all s k (by omega)] at h; exact h.symm))
set_option maxHeartbeats 400000 in
theorem s_l06Length (s : ByteArray) (hs : s.size ≤ 1000000000000) (w : World) : Calls Try.prog 85 #[.string s] w (RetV (.int .i64 (qSum (bts s))) w) := by
  go_enter Try.func85, Try.ntmps85
  go_wp2
  go_loop [3, 4] (fun q i => ∃ k : Nat, k ≤ s.size ∧ i = .int .i64 k ∧ q = .int .i64 (qSum ((bts s).take k))) (fun _ i => s.size - (intOf i).toNat)
  case atStart => exact ⟨0, Nat.zero_le _, rfl, rfl⟩
  case round =>
    obtain ⟨k, hk, rfl, rfl⟩ := hrel
    have hbd := qSum_bd ((bts s).take k)
    have hl : ((bts s).take k).length ≤ k := List.length_take_le _ _
    by_cases hlt : k < s.size
    · have hst : qSum ((bts s).take (k + 1)) = qSum ((bts s).take k) + qB s[k] := by rw [take_snoc s k hlt, qSum_snoc]
      have HS := Lib.hid hst
      clear hst
      have hq := qI_bd (s[k].toNat : Int)
      have hqb : Hid (qB s[k] = qI (s[k].toNat : Int)) := rfl
      go_wp2_with (go_at_call 111; refine (s_l02Quarters _ _).mono ?_; rintro e w' ⟨rfl, rfl⟩)
      go_round
      case rel => exact ⟨k + 1, by omega, by go_num, by rw [HS.out, hqb.out]⟩
      case measure => simp [intOf]; omega
    · go_wp2
      go_ret
      exact RetV.mk (int_eq (by rw [take_all s k (by omega)]))

theorem letters_bts : bts ⟨#[83, 72, 84, 66, 67]⟩ = [83, 72, 84, 66, 67] := rfl
theorem s_l06Ok (s : ByteArray) (hs : s.size ≤ 9223372036854775807) (w : World) : Calls Try.prog 84 #[.string s] w (RetV (.bool (validC (bts s))) w) := by
  have hv : validC (bts s) = (inB s.size 1 60 && (bts s).all isPc && decide (qSum (bts s) ≤ 200)) := by unfold validC; rw [bts_length]
  have HV := Lib.hid hv
  clear hv
  by_cases g1 : inB s.size 1 60 = true
  · have ⟨h1, h2⟩ := inB_iff.1 g1
    by_cases g2 : (bts s).all isPc = true
    · by_cases g3 : qSum (bts s) ≤ 200
      all_goals
        go_enter Try.func84, Try.ntmps84
        go_wp2_with (first | (go_at_call 86; refine (s_l00In _ _ _ _).mono ?_; rw [g1]; rintro e w' ⟨rfl, rfl⟩) | (go_at_call 126; refine (s_l04Pieces _ hs _).mono ?_; rw [g2]; rintro e w' ⟨rfl, rfl⟩) | (go_at_call 85; refine (s_l06Length _ (by omega) _).mono ?_; rintro e w' ⟨rfl, rfl⟩))
        go_ret
        exact RetV.mk (bool_eq (by rw [HV.out, g1, g2]; first | (simp; done) | (simp; omega)))
    · rw [Bool.not_eq_true] at g2
      go_enter Try.func84, Try.ntmps84
      go_wp2_with (first | (go_at_call 86; refine (s_l00In _ _ _ _).mono ?_; rw [g1]; rintro e w' ⟨rfl, rfl⟩) | (go_at_call 126; refine (s_l04Pieces _ hs _).mono ?_; rw [g2]; rintro e w' ⟨rfl, rfl⟩))
      go_ret
      exact RetV.mk (bool_eq (by rw [HV.out, g1, g2]; rfl))
  · rw [Bool.not_eq_true] at g1
    go_enter Try.func84, Try.ntmps84
    go_wp2_with (first | (go_at_call 86; refine (s_l00In _ _ _ _).mono ?_; rw [g1]; rintro e w' ⟨rfl, rfl⟩))
    go_ret
    exact RetV.mk (bool_eq (by rw [HV.out, g1]; rfl))
theorem s_CourseLength (s : ByteArray) (hs : s.size ≤ 9223372036854775807) (w : World) : Calls Try.prog 42 #[.string s] w (Pair (sel (validC (bts s)) (qSum (bts s)) 0) (sel (validC (bts s)) 0 1) w) := by
  by_cases g : validC (bts s) = true
  · have ⟨h1, h2, _, _⟩ := validC_bd g
    rw [bts_length] at h1 h2
    go_enter Try.func42, Try.ntmps42
    go_wp2_with (first | (go_at_call 84; refine (s_l06Ok _ hs _).mono ?_; rw [g]; rintro e w' ⟨rfl, rfl⟩) | (go_at_call 85; refine (s_l06Length _ (by omega) _).mono ?_; rintro e w' ⟨rfl, rfl⟩))
    go_ret2
    exact Pair.mk (by rw [sel_t g]) (by rw [sel_t g])
  · have g' := g
    rw [Bool.not_eq_true] at g'
    go_enter Try.func42, Try.ntmps42
    go_wp2_with (first | (go_at_call 84; refine (s_l06Ok _ hs _).mono ?_; rw [g']; rintro e w' ⟨rfl, rfl⟩))
    go_ret2
    exact Pair.mk (by rw [sel_f g]) (by rw [sel_f g])
def perpsC (l : List UInt8) : List Int := if validC l then perps l else []
theorem perpsC_length (l : List UInt8) : (perpsC l).length ≤ 60 := by
  unfold perpsC
  split
  · rename_i g
    have ⟨h1, h2, _, _⟩ := validC_bd g
    rw [perps_length]; omega
  · simp
end Go.Proofs.Ytnhmcmohnpbcjaa

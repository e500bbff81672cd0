/- Contracts of the functions on courses that only read a text: pieces, quarters, what a course is. -/
import Derived.Test.YtaokeaiehjgbnaaDoorLawInts
import Derived.Test.YtaokeaiehjgbnaaDoorGauge
import Derived.Test.YtaokeaiehjgbnaaDoorGaMath
namespace Go.Proofs.YtaokeaiehjgbnaaDoor
open Go.RowKit
set_option linter.unusedSimpArgs false
set_option linter.unusedVariables false
set_option linter.unnecessarySimpa false

/-- the bytes of a text; the walk does not look inside -/
def bts (s : ByteArray) : List UInt8 := s.data.toList
/-- the byte k of a text, as the walk writes it -/
theorem bts_length (s : ByteArray) : (bts s).length = s.size := by simp [bts]
theorem byte_at (s : ByteArray) (k : Nat) (h : k < s.size) : ∃ (h' : k < (bts s).length), (bts s)[k] = s[k] := ⟨by rw [bts_length]; exact h, rfl⟩
theorem take_snoc (s : ByteArray) (k : Nat) (h : k < s.size) : (bts s).take (k + 1) = (bts s).take k ++ [s[k]] := by
  rw [List.take_succ_eq_append_getElem (by rw [bts_length]; exact h)]; rfl
theorem take_all (s : ByteArray) (k : Nat) (h : s.size ≤ k) : (bts s).take k = bts s := List.take_of_length_le (by rw [bts_length]; exact h)

theorem i_quartersOf (n : Int) (w : World) : Calls Tryd.prog 79 #[.int .u8 n] w (RetV (.int .i64 (qI n)) w) := by
  go_enter Tryd.func79, Tryd.ntmps79
  go_wp2
  all_goals
    go_ret
    refine RetV.mk (int_eq ?_)
    simp only [beq_iff_eq, beq_eq_false_iff_ne, ne_eq] at *
    unfold qI
    repeat' split
    all_goals omega
theorem s_l02Quarters (n : Int) (w : World) : Calls Tryd.prog 78 #[.int .u8 n] w (RetV (.int .i64 (qI n)) w) := by
  go_enter Tryd.func78, Tryd.ntmps78
  go_wp2
  all_goals
    go_ret
    refine RetV.mk (int_eq ?_)
    simp only [beq_iff_eq, beq_eq_false_iff_ne, ne_eq] at *
    unfold qI
    repeat' split
    all_goals omega
theorem i_IsCut (n : Int) (w : World) : Calls Tryd.prog 80 #[.int .u8 n] w (RetV (.bool (cutI n)) w) := by
  by_cases h1 : n = 84
  · subst h1
    go_enter Tryd.func80, Tryd.ntmps80
    go_wp2
    go_ret
    exact RetV.mk (bool_eq (by simp [cutI]))
  · by_cases h2 : n = 66
    · subst h2
      go_enter Tryd.func80, Tryd.ntmps80
      go_wp2
      go_ret
      exact RetV.mk (bool_eq (by simp [cutI]))
    · have h3 : (n == 84) = false := by simp [h1]
      have h4 : (n == 66) = false := by simp [h2]
      go_enter Tryd.func80, Tryd.ntmps80
      go_wp2
      go_ret
      exact RetV.mk (bool_eq (by unfold cutI; rw [Bool.eq_iff_iff]; simp [h1, h2]))
theorem run_indexByteS (s : ByteArray) (c : Int) (w : World) : (callFunc 112 #[.string s, .int .u8 c]).run Tryd.prog w = .ok (.value (.int .i64 (Lib.indexByte (bts s) c.toNat.toUInt8))) w := by
  rw [run_callFunc_extern Tryd.func112 (by kernel_rfl) (by kernel_rfl) (by kernel_rfl) (e := Extern.BytealgIndexByte.indexByte) (by kernel_rfl), Lib.run_indexByteString]
  rfl
theorem f_IndexByte (s : ByteArray) (c : Int) (w : World) : Calls Tryd.prog 83 #[.string s, .int .u8 c] w (RetV (.int .i64 (Lib.indexByte (bts s) c.toNat.toUInt8)) w) := by
  have hr := run_indexByteS s c
  go_enter Tryd.func83, Tryd.ntmps83
  go_wp2
  go_ret
  exact RetV.mk rfl
theorem f_IndexByte_b (s : ByteArray) (b : UInt8) (w : World) : Calls Tryd.prog 83 #[.string s, .int .u8 (b.toNat : Int)] w (RetV (.int .i64 (Lib.indexByte (bts s) b)) w) := by
  have h := f_IndexByte s (b.toNat : Int) w
  rwa [show ((b.toNat : Int).toNat.toUInt8) = b from by simp] at h
set_option maxHeartbeats 400000 in
theorem i_onlyOf (s m : ByteArray) (hs : s.size ≤ 9223372036854775807) (w : World) : Calls Tryd.prog 59 #[.string s, .string m] w (RetV (.bool ((bts s).all (inL (bts m)))) w) := by
  go_enter Tryd.func59, Tryd.ntmps59
  go_wp2
  go_loop [8] (fun i => ∃ k : Nat, k ≤ s.size ∧ i = .int .i64 k ∧ ((bts s).take k).all (inL (bts m)) = true) (fun i => s.size - (intOf i).toNat)
  case atStart => exact ⟨0, Nat.zero_le _, rfl, rfl⟩
  case round =>
    obtain ⟨k, hk, rfl, ht⟩ := hrel
    have HT := Lib.hid ht
    clear ht
    by_cases hlt : k < s.size
    · obtain ⟨hkl, hb⟩ := byte_at s k hlt
      have hsucc := all_take_succ (p := inL (bts m)) hkl
      have hf := all_false_of (p := inL (bts m)) hkl
      rw [hb] at hsucc hf
      have HS := Lib.hid hsucc
      have HF := Lib.hid hf
      have hq : Hid (inL (bts m) s[k] = decide (0 ≤ Lib.indexByte (bts m) s[k])) := rfl
      clear hsucc hf hb
      by_cases hin : 0 ≤ Lib.indexByte (bts m) s[k]
      · go_wp2_with (go_at_call 83; refine (f_IndexByte_b _ _ _).mono ?_; rintro e w' ⟨rfl, rfl⟩)
        go_round
        case rel => exact ⟨k + 1, by omega, by go_num, by rw [HS.out, HT.out, hq.out]; simp [hin]⟩
        case measure => simp [intOf]; omega
      · go_wp2_with (go_at_call 83; refine (f_IndexByte_b _ _ _).mono ?_; rintro e w' ⟨rfl, rfl⟩)
        go_ret
        exact RetV.mk (bool_eq (by rw [HF.out (by rw [hq.out]; simp; omega)]))
    · go_wp2
      go_ret
      exact RetV.mk (bool_eq (by have h := HT.out; rw [take_all s k (by omega)] at h; exact h.symm))
set_option maxHeartbeats 400000 in
theorem s_l04Pieces (s : ByteArray) (hs : s.size ≤ 9223372036854775807) (w : World) : Calls Tryd.prog 70 #[.string s] w (RetV (.bool ((bts s).all isPc)) w) := by
  go_enter Tryd.func70, Tryd.ntmps70
  go_wp2
  go_loop [3] (fun i => ∃ k : Nat, k ≤ s.size ∧ i = .int .i64 k ∧ ((bts s).take k).all isPc = true) (fun i => s.size - (intOf i).toNat)
  case atStart => exact ⟨0, Nat.zero_le _, rfl, rfl⟩
  case round =>
    obtain ⟨k, hk, rfl, ht⟩ := hrel
    have HT := Lib.hid ht
    clear ht
    by_cases hlt : k < s.size
    · obtain ⟨hkl, hb⟩ := byte_at s k hlt
      have hsucc := all_take_succ (p := isPc) hkl
      have hf := all_false_of (p := isPc) hkl
      rw [hb] at hsucc hf
      have HS := Lib.hid hsucc
      have HF := Lib.hid hf
      have hq : Hid (isPc s[k] = decide (qI s[k].toNat ≠ 0)) := rfl
      clear hsucc hf hb
      by_cases hin : qI s[k].toNat = 0
      · have hin2 : (qI s[k].toNat == 0) = true := by simp [hin]
        have HI := Lib.hid hin
        clear hin
        go_wp2_with (go_at_call 78; refine (s_l02Quarters _ _).mono ?_; rintro e w' ⟨rfl, rfl⟩)
        go_ret
        exact RetV.mk (bool_eq (by rw [HF.out (by rw [hq.out, HI.out]; rfl)]))
      · have hin2 : (qI s[k].toNat == 0) = false := by simp [hin]
        go_wp2_with (go_at_call 78; refine (s_l02Quarters _ _).mono ?_; rintro e w' ⟨rfl, rfl⟩)
        go_round
        case rel => exact ⟨k + 1, by omega, by go_num, by rw [HS.out, HT.out, hq.out]; simp [hin]⟩
        case measure => simp [intOf]; omega
    · go_wp2
      go_ret
      exact RetV.mk (bool_eq (by have h := HT.out; rw [take_all s k (by omega)] at h; exact h.symm))
set_option maxHeartbeats 400000 in
theorem i_lengthOf (s : ByteArray) (hs : s.size ≤ 1000000000000) (w : World) : Calls Tryd.prog 52 #[.string s] w (RetV (.int .i64 (qSum (bts s))) w) := by
  go_enter Tryd.func52, Tryd.ntmps52
  go_wp2
  go_loop [3, 7] (fun q i => ∃ k : Nat, k ≤ s.size ∧ i = .int .i64 k ∧ q = .int .i64 (qSum ((bts s).take k))) (fun _ i => s.size - (intOf i).toNat)
  case atStart => exact ⟨0, Nat.zero_le _, rfl, rfl⟩
  case round =>
    obtain ⟨k, hk, rfl, rfl⟩ := hrel
    have hbd := qSum_bd ((bts s).take k)
    have hl : ((bts s).take k).length ≤ k := List.length_take_le _ _
    by_cases hlt : k < s.size
    · have hst : qSum ((bts s).take (k + 1)) = qSum ((bts s).take k) + qB s[k] := by rw [take_snoc s k hlt, qSum_snoc]
      have HS := Lib.hid hst
      clear hst
      have hq := qI_bd (s[k].toNat : Int)
      have hqb : Hid (qB s[k] = qI (s[k].toNat : Int)) := rfl
      go_wp2_with (go_at_call 79; refine (i_quartersOf _ _).mono ?_; rintro e w' ⟨rfl, rfl⟩)
      go_round
      case rel => exact ⟨k + 1, by omega, by go_num, by rw [HS.out, hqb.out]⟩
      case measure => simp [intOf]; omega
    · go_wp2
      go_ret
      exact RetV.mk (int_eq (by rw [take_all s k (by omega)]))
set_option maxHeartbeats 400000 in
theorem s_l06Length (s : ByteArray) (hs : s.size ≤ 1000000000000) (w : World) : Calls Tryd.prog 71 #[.string s] w (RetV (.int .i64 (qSum (bts s))) w) := by
  go_enter Tryd.func71, Tryd.ntmps71
  go_wp2
  go_loop [3, 4] (fun q i => ∃ k : Nat, k ≤ s.size ∧ i = .int .i64 k ∧ q = .int .i64 (qSum ((bts s).take k))) (fun _ i => s.size - (intOf i).toNat)
  case atStart => exact ⟨0, Nat.zero_le _, rfl, rfl⟩
  case round =>
    obtain ⟨k, hk, rfl, rfl⟩ := hrel
    have hbd := qSum_bd ((bts s).take k)
    have hl : ((bts s).take k).length ≤ k := List.length_take_le _ _
    by_cases hlt : k < s.size
    · have hst : qSum ((bts s).take (k + 1)) = qSum ((bts s).take k) + qB s[k] := by rw [take_snoc s k hlt, qSum_snoc]
      have HS := Lib.hid hst
      clear hst
      have hq := qI_bd (s[k].toNat : Int)
      have hqb : Hid (qB s[k] = qI (s[k].toNat : Int)) := rfl
      go_wp2_with (go_at_call 78; refine (s_l02Quarters _ _).mono ?_; rintro e w' ⟨rfl, rfl⟩)
      go_round
      case rel => exact ⟨k + 1, by omega, by go_num, by rw [HS.out, hqb.out]⟩
      case measure => simp [intOf]; omega
    · go_wp2
      go_ret
      exact RetV.mk (int_eq (by rw [take_all s k (by omega)]))
set_option maxHeartbeats 400000 in
theorem i_cutsIn (s : ByteArray) (hs : s.size ≤ 1000000000000) (w : World) : Calls Tryd.prog 55 #[.string s] w (RetV (.int .i64 (cutN (bts s))) w) := by
  go_enter Tryd.func55, Tryd.ntmps55
  go_wp2
  go_loop [3, 7] (fun q i => ∃ k : Nat, k ≤ s.size ∧ i = .int .i64 k ∧ q = .int .i64 (cutN ((bts s).take k))) (fun _ i => s.size - (intOf i).toNat)
  case atStart => exact ⟨0, Nat.zero_le _, rfl, rfl⟩
  case round =>
    obtain ⟨k, hk, rfl, rfl⟩ := hrel
    have hbd := cutN_bd ((bts s).take k)
    have hl : ((bts s).take k).length ≤ k := List.length_take_le _ _
    by_cases hlt : k < s.size
    · have hst : cutN ((bts s).take (k + 1)) = cutN ((bts s).take k) + (if cutB s[k] then 1 else 0) := by rw [take_snoc s k hlt, cutN_snoc]
      have HS := Lib.hid hst
      clear hst
      have hcb : Hid (cutB s[k] = cutI (s[k].toNat : Int)) := rfl
      by_cases hc : cutI (s[k].toNat : Int) = true
      · go_wp2_with (go_at_call 80; refine (i_IsCut _ _).mono ?_; rw [hc]; rintro e w' ⟨rfl, rfl⟩)
        go_round
        case rel => exact ⟨k + 1, by omega, by go_num, by rw [HS.out, hcb.out, hc]; rfl⟩
        case measure => simp [intOf]; omega
      · rw [Bool.not_eq_true] at hc
        go_wp2_with (go_at_call 80; refine (i_IsCut _ _).mono ?_; rw [hc]; rintro e w' ⟨rfl, rfl⟩)
        go_round
        case rel => exact ⟨k + 1, by omega, by go_num, by rw [HS.out, hcb.out, hc]; go_num⟩
        case measure => simp [intOf]; omega
    · go_wp2
      go_ret
      exact RetV.mk (int_eq (by rw [take_all s k (by omega)]))

theorem letters_bts : bts ⟨#[83, 72, 84, 66, 67]⟩ = [83, 72, 84, 66, 67] := rfl
theorem i_onlyOf_pieces (s : ByteArray) (hs : s.size ≤ 9223372036854775807) (w : World) : Calls Tryd.prog 59 #[.string s, .string ⟨#[83, 72, 84, 66, 67]⟩] w (RetV (.bool ((bts s).all isPc)) w) := by
  have h := i_onlyOf s ⟨#[83, 72, 84, 66, 67]⟩ hs w
  rw [letters_bts] at h
  rwa [show inL [83, 72, 84, 66, 67] = isPc from funext inL_pieces] at h
theorem i_ValidCourse (s : ByteArray) (hs : s.size ≤ 9223372036854775807) (w : World) : Calls Tryd.prog 44 #[.string s] w (RetV (.bool (validC (bts s))) w) := by
  have hv : validC (bts s) = (inB s.size 1 60 && (bts s).all isPc && decide (qSum (bts s) ≤ 200)) := by unfold validC; rw [bts_length]
  have HV := Lib.hid hv
  clear hv
  by_cases g1 : inB s.size 1 60 = true
  · have ⟨h1, h2⟩ := inB_iff.1 g1
    by_cases g2 : (bts s).all isPc = true
    · by_cases g3 : qSum (bts s) ≤ 200
      all_goals
        go_enter Tryd.func44, Tryd.ntmps44
        go_wp2_with (first | (go_at_call 47; refine (i_within _ _ _ _).mono ?_; rw [g1]; rintro e w' ⟨rfl, rfl⟩) | (go_at_call 59; refine (i_onlyOf_pieces _ hs _).mono ?_; rw [g2]; rintro e w' ⟨rfl, rfl⟩) | (go_at_call 52; refine (i_lengthOf _ (by omega) _).mono ?_; rintro e w' ⟨rfl, rfl⟩))
        go_ret
        exact RetV.mk (bool_eq (by rw [HV.out, g1, g2]; first | (simp; done) | (simp; omega)))
    · rw [Bool.not_eq_true] at g2
      go_enter Tryd.func44, Tryd.ntmps44
      go_wp2_with (first | (go_at_call 47; refine (i_within _ _ _ _).mono ?_; rw [g1]; rintro e w' ⟨rfl, rfl⟩) | (go_at_call 59; refine (i_onlyOf_pieces _ hs _).mono ?_; rw [g2]; rintro e w' ⟨rfl, rfl⟩))
      go_ret
      exact RetV.mk (bool_eq (by rw [HV.out, g1, g2]; rfl))
  · rw [Bool.not_eq_true] at g1
    go_enter Tryd.func44, Tryd.ntmps44
    go_wp2_with (first | (go_at_call 47; refine (i_within _ _ _ _).mono ?_; rw [g1]; rintro e w' ⟨rfl, rfl⟩))
    go_ret
    exact RetV.mk (bool_eq (by rw [HV.out, g1]; rfl))
theorem s_l06Ok (s : ByteArray) (hs : s.size ≤ 9223372036854775807) (w : World) : Calls Tryd.prog 42 #[.string s] w (RetV (.bool (validC (bts s))) w) := by
  have hv : validC (bts s) = (inB s.size 1 60 && (bts s).all isPc && decide (qSum (bts s) ≤ 200)) := by unfold validC; rw [bts_length]
  have HV := Lib.hid hv
  clear hv
  by_cases g1 : inB s.size 1 60 = true
  · have ⟨h1, h2⟩ := inB_iff.1 g1
    by_cases g2 : (bts s).all isPc = true
    · by_cases g3 : qSum (bts s) ≤ 200
      all_goals
        go_enter Tryd.func42, Tryd.ntmps42
        go_wp2_with (first | (go_at_call 45; refine (s_l00In _ _ _ _).mono ?_; rw [g1]; rintro e w' ⟨rfl, rfl⟩) | (go_at_call 70; refine (s_l04Pieces _ hs _).mono ?_; rw [g2]; rintro e w' ⟨rfl, rfl⟩) | (go_at_call 71; refine (s_l06Length _ (by omega) _).mono ?_; rintro e w' ⟨rfl, rfl⟩))
        go_ret
        exact RetV.mk (bool_eq (by rw [HV.out, g1, g2]; first | (simp; done) | (simp; omega)))
    · rw [Bool.not_eq_true] at g2
      go_enter Tryd.func42, Tryd.ntmps42
      go_wp2_with (first | (go_at_call 45; refine (s_l00In _ _ _ _).mono ?_; rw [g1]; rintro e w' ⟨rfl, rfl⟩) | (go_at_call 70; refine (s_l04Pieces _ hs _).mono ?_; rw [g2]; rintro e w' ⟨rfl, rfl⟩))
      go_ret
      exact RetV.mk (bool_eq (by rw [HV.out, g1, g2]; rfl))
  · rw [Bool.not_eq_true] at g1
    go_enter Tryd.func42, Tryd.ntmps42
    go_wp2_with (first | (go_at_call 45; refine (s_l00In _ _ _ _).mono ?_; rw [g1]; rintro e w' ⟨rfl, rfl⟩))
    go_ret
    exact RetV.mk (bool_eq (by rw [HV.out, g1]; rfl))
theorem i_CourseLength (s : ByteArray) (hs : s.size ≤ 9223372036854775807) (w : World) : Calls Tryd.prog 24 #[.string s] w (Pair (sel (validC (bts s)) (qSum (bts s)) 0) (sel (validC (bts s)) 0 1) w) := by
  by_cases g : validC (bts s) = true
  · have ⟨h1, h2, _, _⟩ := validC_bd g
    rw [bts_length] at h1 h2
    go_enter Tryd.func24, Tryd.ntmps24
    go_wp2_with (first | (go_at_call 44; refine (i_ValidCourse _ hs _).mono ?_; rw [g]; rintro e w' ⟨rfl, rfl⟩) | (go_at_call 52; refine (i_lengthOf _ (by omega) _).mono ?_; rintro e w' ⟨rfl, rfl⟩))
    go_ret2
    exact Pair.mk (by rw [sel_t g]) (by rw [sel_t g])
  · have g' := g
    rw [Bool.not_eq_true] at g'
    go_enter Tryd.func24, Tryd.ntmps24
    go_wp2_with (first | (go_at_call 44; refine (i_ValidCourse _ hs _).mono ?_; rw [g']; rintro e w' ⟨rfl, rfl⟩))
    go_ret2
    exact Pair.mk (by rw [sel_f g]) (by rw [sel_f g])
theorem i_CutsIn (s : ByteArray) (hs : s.size ≤ 9223372036854775807) (w : World) : Calls Tryd.prog 27 #[.string s] w (Pair (sel (validC (bts s)) (cutN (bts s)) 0) (sel (validC (bts s)) 0 1) w) := by
  by_cases g : validC (bts s) = true
  · have ⟨h1, h2, _, _⟩ := validC_bd g
    rw [bts_length] at h1 h2
    go_enter Tryd.func27, Tryd.ntmps27
    go_wp2_with (first | (go_at_call 44; refine (i_ValidCourse _ hs _).mono ?_; rw [g]; rintro e w' ⟨rfl, rfl⟩) | (go_at_call 55; refine (i_cutsIn _ (by omega) _).mono ?_; rintro e w' ⟨rfl, rfl⟩))
    go_ret2
    exact Pair.mk (by rw [sel_t g]) (by rw [sel_t g])
  · have g' := g
    rw [Bool.not_eq_true] at g'
    go_enter Tryd.func27, Tryd.ntmps27
    go_wp2_with (first | (go_at_call 44; refine (i_ValidCourse _ hs _).mono ?_; rw [g']; rintro e w' ⟨rfl, rfl⟩))
    go_ret2
    exact Pair.mk (by rw [sel_f g]) (by rw [sel_f g])
set_option maxHeartbeats 400000 in
theorem i_coursePerpends (s : ByteArray) (h1 : 1 ≤ s.size) (h2 : s.size ≤ 1000000) (w : World) : Calls Tryd.prog 54 #[.string s] w (RetInts (perps (bts s)) w) := by
  have hpl : Hid (perps (bts s) = perpTo (bts s) (s.size - 1)) := by unfold perps; rw [bts_length]; rfl
  go_enter Tryd.func54, Tryd.ntmps54
  go_wp2
  go_loopw [3, 4, 10] (fun v q i wr => ∃ k : Nat, k + 1 ≤ s.size ∧ i = .int .i64 k ∧ q = .int .i64 (qSum ((bts s).take k)) ∧ OwnInts 2 wr w.heap.size v (perpTo (bts s) k) ∧ Ext w wr) (fun _ _ i _ => s.size - (intOf i).toNat)
  case atStart => exact ⟨0, by omega, rfl, rfl, OwnInts.empty (Ext.refl w), (Ext.refl w).alloc _⟩
  case round =>
    obtain ⟨k, hk, rfl, rfl, ho, er⟩ := hrel
    have hbd := qSum_bd ((bts s).take k)
    have hl : ((bts s).take k).length ≤ k := List.length_take_le _ _
    have hpt := perpTo_length (bts s) k
    by_cases hlt : (k : Int) + 1 < s.size
    · have hst : qSum ((bts s).take (k + 1)) = qSum ((bts s).take k) + qB s[k] := by rw [take_snoc s k (by omega), qSum_snoc]
      have hst2 : perpTo (bts s) (k + 1) = perpTo (bts s) k ++ [qSum ((bts s).take k) + qB s[k]] := by rw [perpTo, hst]
      have HS := Lib.hid hst
      have HS2 := Lib.hid hst2
      clear hst hst2
      have hq := qI_bd (s[k].toNat : Int)
      have hqb : Hid (qB s[k] = qI (s[k].toNat : Int)) := rfl
      have hks : k < s.size := by omega
      have hlt2 : (k : Int) < (s.size : Int) - 1 := by omega
      go_wp2_with (first
        | (go_at_call 79; refine (i_quartersOf _ _).mono ?_; rintro e w' ⟨rfl, rfl⟩)
        | (at_builtin; refine wpList_append_int rfl _ _ rfl _ _ _ rfl rfl rfl ho er (by unfold IsI64; omega) (by omega) ?_))
      intro v' w1 ho1 er1
      clear ho er
      go_wp2
      go_roundw
      case rel => exact ⟨k + 1, by omega, by go_num, by rw [HS.out, hqb.out], by rw [HS2.out, hqb.out]; exact ho1, er1⟩
      case measure => simp [intOf]; omega
    · go_wp2
      go_ret
      rw [hpl.out, show s.size - 1 = k by omega]
      exact RetInts.of_own ho er
def perpsC (l : List UInt8) : List Int := if validC l then perps l else []
theorem perpsC_length (l : List UInt8) : (perpsC l).length ≤ 60 := by
  unfold perpsC
  split
  · rename_i g
    have ⟨h1, h2, _, _⟩ := validC_bd g
    rw [perps_length]; omega
  · simp
theorem i_CoursePerpends (s : ByteArray) (hs : s.size ≤ 9223372036854775807) (w : World) : Calls Tryd.prog 26 #[.string s] w (RetIntsC (perpsC (bts s)) (sel (validC (bts s)) 0 1) w) := by
  by_cases g : validC (bts s) = true
  · have ⟨h1, h2, _, _⟩ := validC_bd g
    rw [bts_length] at h1 h2
    have eL : Hid (perpsC (bts s) = perps (bts s)) := if_pos g
    have eC : Hid (sel (validC (bts s)) 0 1 = 0) := sel_t g _ _
    go_enter Tryd.func26, Tryd.ntmps26
    go_wp2_with (go_at_call 44; refine (i_ValidCourse _ hs _).mono ?_; rw [g]; rintro e w' ⟨rfl, rfl⟩)
    refine (i_coursePerpends _ (by omega) (by omega) _).mono ?_
    rintro e w1 ⟨ao, cap, rfl, ho, e1⟩
    go_wp2
    go_ret2
    rw [eL.out]
    exact RetIntsC.of_own ho e1 eC.out.symm
  · have eL : Hid (perpsC (bts s) = []) := if_neg g
    have eC : Hid (sel (validC (bts s)) 0 1 = 1) := sel_f g _ _
    rw [Bool.not_eq_true] at g
    go_enter Tryd.func26, Tryd.ntmps26
    go_wp2_with (go_at_call 44; refine (i_ValidCourse _ hs _).mono ?_; rw [g]; rintro e w' ⟨rfl, rfl⟩)
    go_ret2
    rw [eL.out]
    exact RetIntsC.of_own (OwnInts.nilv _ _ _) (Ext.refl _) eC.out.symm
end Go.Proofs.YtaokeaiehjgbnaaDoor

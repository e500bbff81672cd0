/- Contracts: the letters of a course of a bond: both sides. -/
import Derived.Test.YtnhmcmohnpbcjaaGaBonda
import Derived.IntWalk
namespace Go.Proofs.Ytnhmcmohnpbcjaa
open Go.RowKit
set_option linter.unusedSimpArgs false
set_option linter.unusedVariables false
set_option linter.unnecessarySimpa false

theorem ltr_lo (a b : ByteArray) (i : Nat) (h : i < a.size) : ltr (bts a) (bts b) i = a[i] := by
  unfold ltr
  rw [bts_length, if_pos h, bts_getD a i h]
theorem ltr_hi (a b : ByteArray) (i : Nat) (h : ¬ i < a.size) (hj : (i - a.size) % b.size < b.size) : ltr (bts a) (bts b) i = b[(i - a.size) % b.size] := by
  unfold ltr
  rw [bts_length, bts_length, if_neg h, bts_getD b _ hj]
theorem u8_eq {a b : UInt8} (h : a = b) : Value.int .u8 (a.toNat : Int) = .int .u8 (b.toNat : Int) := by rw [h]
set_option maxHeartbeats 800000 in
theorem i_pieceAt (a b : ByteArray) (i : Nat) (ha : a.size ≤ 1000000) (hb : b.size ≤ 1000000) (hb0 : 1 ≤ b.size) (hi : i ≤ 1000000) (w : World) :
    Calls Try.prog 118 #[.agg #[.string a, .string b], .int .i64 i] w (RetE (.int .u8 ((ltr (bts a) (bts b) i).toNat : Int)) w) := by
  have e0 : Ext w (w.alloc (.cells #[.string a, .string b] 151)) := (Ext.refl w).alloc _
  by_cases h : i < a.size
  · have HV := Lib.hid (ltr_lo a b i h)
    have h' : (i : Int) < (a.size : Int) := by omega
    go_enter Try.func118, Try.ntmps118
    go_wp2
    go_ret
    exact RetE.mk (u8_eq HV.out.symm) e0
  · have hj : (i - a.size) % b.size < b.size := Nat.mod_lt _ (by omega)
    have HV := Lib.hid (ltr_hi a b i h hj)
    have h' : ¬ (i : Int) < (a.size : Int) := by omega
    obtain ⟨m, hm⟩ : ∃ m, i - a.size = m := ⟨_, rfl⟩
    have HM : Hid ((i : Int) - (a.size : Int) = (m : Int)) := Lib.hid (by omega)
    rw [hm] at hj
    obtain ⟨j, hjj⟩ : ∃ j, m % b.size = j := ⟨_, rfl⟩
    have HJ : Hid ((m : Int) % (b.size : Int) = (j : Int)) := Lib.hid (by rw [← hjj]; omega)
    rw [hjj] at hj
    have HJ2 : Hid ((i - a.size) % b.size = j) := Lib.hid (by rw [hm, hjj])
    have hm2 : m ≤ 1000000 := by omega
    have hb63 : (0 : Int) < (b.size : Int) := by omega
    have hbne : ¬ (b.size : Int) = 0 := by omega
    have hj' : (j : Int) < (b.size : Int) := by omega
    have hj0 : (0 : Int) ≤ (j : Int) := by omega
    have e1 : IntKind.i64.wrap ((i : Int) - (a.size : Int)) = (m : Int) := by rw [HM.out]; exact IntWalk.i64_in _ (by omega)
    have e2 : Int.tmod (m : Int) (b.size : Int) = (j : Int) := by rw [Int.tmod_eq_emod_of_nonneg (by omega)]; exact HJ.out
    have e3 := HJ.out
    have e4 : (j : Int).toNat = j := by omega
    have e5 : IntKind.i64.wrap (j : Int) = (j : Int) := IntWalk.i64_in _ (by omega)
    clear hm hjj
    go_enter Try.func118, Try.ntmps118
    go_wp2
    go_quiet (fail)
    go_wp2
    go_ret
    refine RetE.mk (u8_eq ?_) (e0.drewN _)
    rw [HV.out]
    simp only [HJ2.out]
set_option maxHeartbeats 800000 in
theorem s_l04Letter (a b : ByteArray) (i : Nat) (ha : a.size ≤ 1000000) (hb : b.size ≤ 1000000) (hb0 : 1 ≤ b.size) (hi : i ≤ 1000000) (w : World) :
    Calls Try.prog 110 #[.agg #[.string a, .string b], .int .i64 i] w (RetE (.int .u8 ((ltr (bts a) (bts b) i).toNat : Int)) w) := by
  have e0 : Ext w (w.alloc (.cells #[.string a, .string b] 151)) := (Ext.refl w).alloc _
  by_cases h : i < a.size
  · have HV := Lib.hid (ltr_lo a b i h)
    have h' : (i : Int) < (a.size : Int) := by omega
    go_enter Try.func110, Try.ntmps110
    go_wp2
    go_ret
    exact RetE.mk (u8_eq HV.out.symm) e0
  · have hj : (i - a.size) % b.size < b.size := Nat.mod_lt _ (by omega)
    have HV := Lib.hid (ltr_hi a b i h hj)
    have h' : ¬ (i : Int) < (a.size : Int) := by omega
    obtain ⟨m, hm⟩ : ∃ m, i - a.size = m := ⟨_, rfl⟩
    have HM : Hid ((i : Int) - (a.size : Int) = (m : Int)) := Lib.hid (by omega)
    rw [hm] at hj
    obtain ⟨j, hjj⟩ : ∃ j, m % b.size = j := ⟨_, rfl⟩
    have HJ : Hid ((m : Int) % (b.size : Int) = (j : Int)) := Lib.hid (by rw [← hjj]; omega)
    rw [hjj] at hj
    have HJ2 : Hid ((i - a.size) % b.size = j) := Lib.hid (by rw [hm, hjj])
    have hm2 : m ≤ 1000000 := by omega
    have hb63 : (0 : Int) < (b.size : Int) := by omega
    have hbne : ¬ (b.size : Int) = 0 := by omega
    have hj' : (j : Int) < (b.size : Int) := by omega
    have hj0 : (0 : Int) ≤ (j : Int) := by omega
    have e1 : IntKind.i64.wrap ((i : Int) - (a.size : Int)) = (m : Int) := by rw [HM.out]; exact IntWalk.i64_in _ (by omega)
    have e2 : Int.tmod (m : Int) (b.size : Int) = (j : Int) := by rw [Int.tmod_eq_emod_of_nonneg (by omega)]; exact HJ.out
    have e3 := HJ.out
    have e4 : (j : Int).toNat = j := by omega
    have e5 : IntKind.i64.wrap (j : Int) = (j : Int) := IntWalk.i64_in _ (by omega)
    clear hm hjj
    go_enter Try.func110, Try.ntmps110
    go_wp2
    go_quiet (fail)
    go_wp2
    go_ret
    refine RetE.mk (u8_eq ?_) (e0.drewN _)
    rw [HV.out]
    simp only [HJ2.out]
end Go.Proofs.Ytnhmcmohnpbcjaa

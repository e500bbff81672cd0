/- Contracts: a course of a bond: both sides. -/
import Derived.Test.YtnhmcmohnpbcjaaBond3
import Derived.RegionTactic
import Derived.ChangeAlike
namespace Go.Proofs.Ytnhmcmohnpbcjaa
open Go.RowKit
set_option linter.unusedSimpArgs false
set_option linter.unusedVariables false
set_option linter.unnecessarySimpa false

theorem crsAt_eq (cs : List Crs) (n : Nat) (k : Int) (j : Nat) (hl : cs.length = n) (h : k % (n : Int) = (j : Int)) : crsAt cs k = cs.getD j default := by
  unfold crsAt; rw [hl, h, Int.toNat_natCast]
set_option maxHeartbeats 1600000 in
theorem i_course (nm : ByteArray) (ao : Option Addr) (n c : Nat) (cs : List Crs) (k : Int) (w : World) (hx : Crss w ao n cs) (hn1 : 1 ≤ n) (hn2 : n ≤ 1000000) (k1 : 0 ≤ k) (k2 : k ≤ 1000000) :
    Calls Try.prog 117 #[.agg #[.string nm, .slice ao n c], .int .i64 k] w (RetE (crsV (crsAt cs k)) w) := by
  obtain ⟨j, hj⟩ := Int.eq_ofNat_of_zero_le (show 0 ≤ k % (n : Int) from Int.emod_nonneg _ (by omega))
  have hjn : (j : Int) < (n : Int) := by rw [← hj]; exact Int.emod_lt_of_pos _ (by omega)
  have HA := Lib.hid (crsAt_eq cs n k j hx.1 hj)
  obtain ⟨b, off, rfl, c0, c1⟩ := hx.2.2.1 j (by omega)
  obtain ⟨x, hxj⟩ : ∃ x, cs.getD j default = x := ⟨_, rfl⟩
  rw [hxj] at c0 c1 HA
  obtain ⟨x1, x2⟩ := x
  have HE := Lib.hid (((Ext.refl w).alloc (.cells #[.string nm, .slice (some ⟨b, off, none⟩) n c] 66)).alloc (.cells #[.string ⟨#[]⟩, .string ⟨#[]⟩] 151))
  have q0 := HE.out.cell c0
  have q1 := HE.out.cell c1
  have hj0 : (0 : Int) ≤ (j : Int) := by omega
  have hn63 : (0 : Int) < (n : Int) := by omega
  have hnne : ¬ (n : Int) = 0 := by omega
  have e2 : Int.tmod k (n : Int) = (j : Int) := by rw [Int.tmod_eq_emod_of_nonneg k1]; exact hj
  have e4 : (j : Int).toNat = j := by omega
  have e5 : IntKind.i64.wrap (j : Int) = (j : Int) := IntWalk.i64_in _ (by omega)
  clear hx hxj c0 c1
  go_enter Try.func117, Try.ntmps117
  go_wp2
  go_region
  all_goals
    go_wp2
    refine bodyPost_ret (v := .agg #[.string x1, .string x2]) (by simp [results, Try.results117, go_sem]) rfl (RetE.mk (by rw [HA.out]; rfl) ?_)
    repeat' (first | exact HE.out | exact HE.out.drew | (dsimp only; omega) | exact Ext.refl _ | refine Ext.drew ?_ | refine Ext.alloc ?_ _ | refine Ext.setCell ?_ ?_ _)
set_option maxHeartbeats 1600000 in
theorem s_l04At (pb : Nat) (nm : ByteArray) (ao : Option Addr) (n c : Nat) (cs : List Crs) (k : Int) (w : World) (hB : Two w pb (.string nm) (.slice ao n c)) (hx : Crss w ao n cs) (hn1 : 1 ≤ n) (hn2 : n ≤ 1000000) (k1 : 0 ≤ k) (k2 : k ≤ 1000000) :
    Calls Try.prog 109 #[.pointer (some ⟨pb, 0, none⟩), .int .i64 k] w (RetE (crsV (crsAt cs k)) w) := by
  obtain ⟨j, hj⟩ := Int.eq_ofNat_of_zero_le (show 0 ≤ k % (n : Int) from Int.emod_nonneg _ (by omega))
  have hjn : (j : Int) < (n : Int) := by rw [← hj]; exact Int.emod_lt_of_pos _ (by omega)
  have HA := Lib.hid (crsAt_eq cs n k j hx.1 hj)
  obtain ⟨b, off, rfl, c0, c1⟩ := hx.2.2.1 j (by omega)
  obtain ⟨x, hxj⟩ : ∃ x, cs.getD j default = x := ⟨_, rfl⟩
  rw [hxj] at c0 c1 HA
  obtain ⟨x1, x2⟩ := x
  have HE := Lib.hid ((Ext.refl w).alloc (.cells #[.string ⟨#[]⟩, .string ⟨#[]⟩] 151))
  have q0 := HE.out.cell c0
  have q1 := HE.out.cell c1
  obtain ⟨p0, p1, p2⟩ := hB.ext HE.out
  have hj0 : (0 : Int) ≤ (j : Int) := by omega
  have hn63 : (0 : Int) < (n : Int) := by omega
  have hnne : ¬ (n : Int) = 0 := by omega
  have e2 : Int.tmod k (n : Int) = (j : Int) := by rw [Int.tmod_eq_emod_of_nonneg k1]; exact hj
  have e4 : (j : Int).toNat = j := by omega
  have e5 : IntKind.i64.wrap (j : Int) = (j : Int) := IntWalk.i64_in _ (by omega)
  clear hx hxj c0 c1 hB
  go_enter Try.func109, Try.ntmps109
  go_wp2
  go_region
  all_goals
    go_wp2
    refine bodyPost_ret (v := .agg #[.string x1, .string x2]) (by simp [results, Try.results109, go_sem]) rfl (RetE.mk (by rw [HA.out]; rfl) ?_)
    repeat' (first | exact HE.out | exact HE.out.drew | (dsimp only; omega) | exact Ext.refl _ | refine Ext.drew ?_ | refine Ext.alloc ?_ _ | refine Ext.setCell ?_ ?_ _)
end Go.Proofs.Ytnhmcmohnpbcjaa

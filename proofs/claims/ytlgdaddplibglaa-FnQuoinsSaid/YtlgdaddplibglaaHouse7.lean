/- Plans of houses: a side in a course: both sides. -/
import Derived.Test.YtlgdaddplibglaaHouse6
namespace Go.Proofs.Ytlgdaddplibglaa
open Go.RowKit
set_option linter.unusedSimpArgs false
set_option linter.unusedVariables false
set_option linter.unnecessarySimpa false

set_option maxHeartbeats 1000000 in
theorem i_SideInCourse (ao : Option Addr) (n c : Nat) (xs : List Int) (s : ByteArray) (k r : Int) (w : World) (hx : Ints w ao n xs) (hs : s.size ≤ 9223372036854775807) :
    Calls Try.prog 17 #[.agg #[.slice ao n c, .string s], .int .i64 k, .int .i64 r] w (RetE (.tuple #[.int .i64 (sideH xs (bts s) k r), .int .i64 (codeH xs (bts s) k r)]) w) := by
  have e0 : Ext w (w.alloc (.cells #[.slice ao n c, .string s] 26)) := (Ext.refl w).alloc _
  have HX := Lib.hid hx
  have HL := Lib.hid hx.1
  clear hx
  obtain ⟨cd, hc⟩ : ∃ cd, codeH xs (bts s) k r = cd := ⟨_, rfl⟩
  have hv : sideH xs (bts s) k r = if cd = 0 then sideI xs k r else 0 := by unfold sideH; rw [hc]
  have HV := Lib.hid hv
  have HBX : Hid (cd = 0 → n ≤ 12 ∧ 0 ≤ k ∧ k < n ∧ 0 ≤ r ∧ r ≤ 1000) := Lib.hid (fun h => by have h1 := code_0 (hc.trans h); have := HL.out; have := validH_bd h1.1; omega)
  have HSB : Hid (cd = 0 → ∀ x ∈ xs, 8 ≤ x ∧ x ≤ 200) := Lib.hid (fun h => (validH_bd (code_0 (hc.trans h)).1).2.2.1)
  rw [hc]
  clear hv
  by_cases h0 : cd = 0
  · obtain ⟨n1, n2, n3, n4, n5⟩ := HBX.out h0
    have HB8 := Lib.hid (HSB.out h0)
    obtain ⟨k, rfl⟩ := Int.eq_ofNat_of_zero_le n2
    go_enter Try.func17, Try.ntmps17
    go_wp2_with (first | (go_at_call 32; refine (i_houseCode _ _ _ _ _ _ _ _ (HX.out.ext e0) hs).mono ?_; rw [hc]; rintro e w1 ⟨rfl, e1⟩; obtain ⟨p0, p1, p2, p3, p4⟩ := two_cells (e1.block (heap_alloc_new w _)); have E1 := Lib.hid (e0.trans e1)) | (go_at_call 38; refine (i_sideInCourse _ _ _ _ _ _ _ _ (HX.out.ext E1.out) HB8.out (by omega) (by omega) (by omega) (by omega)).mono ?_; rintro e w2 ⟨rfl, e2⟩; have E2 := Lib.hid (E1.out.trans e2)))
    go_ret2
    exact RetE.mk (by rw [HV.out, if_pos h0, h0]; rfl) E2.out
  · go_enter Try.func17, Try.ntmps17
    go_wp2_with (go_at_call 32; refine (i_houseCode _ _ _ _ _ _ _ _ (HX.out.ext e0) hs).mono ?_; rw [hc]; rintro e w1 ⟨rfl, e1⟩; obtain ⟨p0, p1, p2, p3, p4⟩ := two_cells (e1.block (heap_alloc_new w _)); have E1 := Lib.hid (e0.trans e1))
    go_ret2
    exact RetE.mk (by rw [HV.out, if_neg h0]; rfl) E1.out
set_option maxHeartbeats 1000000 in
theorem s_SideInCourse (ao : Option Addr) (n c : Nat) (xs : List Int) (s : ByteArray) (k r : Int) (w : World) (hx : Ints w ao n xs) (hs : s.size ≤ 9223372036854775807) :
    Calls Try.prog 18 #[.agg #[.slice ao n c, .string s], .int .i64 k, .int .i64 r] w (RetE (.tuple #[.int .i64 (sideH xs (bts s) k r), .int .i64 (codeH xs (bts s) k r)]) w) := by
  have e0 : Ext w (w.alloc (.cells #[.slice ao n c, .string s] 26)) := (Ext.refl w).alloc _
  have HX := Lib.hid hx
  have HL := Lib.hid hx.1
  clear hx
  obtain ⟨cd, hc⟩ : ∃ cd, codeH xs (bts s) k r = cd := ⟨_, rfl⟩
  have hv : sideH xs (bts s) k r = if cd = 0 then sideI xs k r else 0 := by unfold sideH; rw [hc]
  have HV := Lib.hid hv
  have HBX : Hid (cd = 0 → n ≤ 12 ∧ 0 ≤ k ∧ k < n ∧ 0 ≤ r ∧ r ≤ 1000) := Lib.hid (fun h => by have h1 := code_0 (hc.trans h); have := HL.out; have := validH_bd h1.1; omega)
  have HSB : Hid (cd = 0 → ∀ x ∈ xs, 8 ≤ x ∧ x ≤ 200) := Lib.hid (fun h => (validH_bd (code_0 (hc.trans h)).1).2.2.1)
  rw [hc]
  clear hv
  by_cases h0 : cd = 0
  · obtain ⟨n1, n2, n3, n4, n5⟩ := HBX.out h0
    have HB8 := Lib.hid (HSB.out h0)
    obtain ⟨k, rfl⟩ := Int.eq_ofNat_of_zero_le n2
    go_enter Try.func18, Try.ntmps18
    go_wp2_with (first | (go_at_call 39; refine (s_l07Code _ _ _ _ _ _ _ _ _ (Two.new w _ _ _) (HX.out.ext e0) hs).mono ?_; rw [hc]; rintro e w1 ⟨rfl, e1⟩; have E1 := Lib.hid (e0.trans e1); have HT := Lib.hid ((Two.new w (.slice ao n c) (.string s) 26).ext e1)) | (go_at_call 40; refine (s_l07Side _ _ _ _ _ _ _ _ _ HT.out (HX.out.ext E1.out) HB8.out (by omega) (by omega) (by omega) (by omega)).mono ?_; rintro e w2 ⟨rfl, rfl⟩))
    go_ret2
    exact RetE.mk (by rw [HV.out, if_pos h0, h0]; rfl) E1.out
  · go_enter Try.func18, Try.ntmps18
    go_wp2_with (go_at_call 39; refine (s_l07Code _ _ _ _ _ _ _ _ _ (Two.new w _ _ _) (HX.out.ext e0) hs).mono ?_; rw [hc]; rintro e w1 ⟨rfl, e1⟩; have E1 := Lib.hid (e0.trans e1))
    go_ret2
    exact RetE.mk (by rw [HV.out, if_neg h0]; rfl) E1.out
end Go.Proofs.Ytlgdaddplibglaa

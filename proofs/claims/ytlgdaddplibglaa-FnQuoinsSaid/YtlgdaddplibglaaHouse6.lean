/- Plans of houses: what runs through a corner, the lap at a corner, a side in a course: both sides. -/
import Derived.Test.YtlgdaddplibglaaHouse5
namespace Go.Proofs.Ytlgdaddplibglaa
open Go.RowKit
set_option linter.unusedSimpArgs false
set_option linter.unusedVariables false
set_option linter.unnecessarySimpa false

set_option maxHeartbeats 1000000 in
theorem i_RunsThrough (ao : Option Addr) (n c : Nat) (xs : List Int) (s : ByteArray) (k r : Int) (w : World) (hx : Ints w ao n xs) (hs : s.size ≤ 9223372036854775807) :
    Calls Try.prog 19 #[.agg #[.slice ao n c, .string s], .int .i64 k, .int .i64 r] w (RetE (.tuple #[.bool (runsH xs (bts s) k r), .int .i64 (codeH xs (bts s) k r)]) w) := by
  have e0 : Ext w (w.alloc (.cells #[.slice ao n c, .string s] 26)) := (Ext.refl w).alloc _
  have HX := Lib.hid hx
  have HL := Lib.hid hx.1
  clear hx
  obtain ⟨cd, hc⟩ : ∃ cd, codeH xs (bts s) k r = cd := ⟨_, rfl⟩
  have hv : runsH xs (bts s) k r = (decide (cd = 0) && decide ((k + r) % 2 = 0)) := by unfold runsH thruI; rw [hc]
  have HV := Lib.hid hv
  have HBX : Hid (cd = 0 → n ≤ 12 ∧ 0 ≤ k ∧ k < n ∧ 0 ≤ r ∧ r ≤ 1000) := Lib.hid (fun h => by have h1 := code_0 (hc.trans h); have := HL.out; have := validH_bd h1.1; omega)
  rw [hc]
  clear hv
  by_cases h0 : cd = 0
  · obtain ⟨n1, n2, n3, n4, n5⟩ := HBX.out h0
    by_cases h2 : (k + r) % 2 = 0
    all_goals
      go_enter Try.func19, Try.ntmps19
      go_wp2_with (go_at_call 32; refine (i_houseCode _ _ _ _ _ _ _ _ (HX.out.ext e0) hs).mono ?_; rw [hc]; rintro e w1 ⟨rfl, e1⟩; obtain ⟨p0, p1, p2, p3, p4⟩ := two_cells (e1.block (heap_alloc_new w _)); have E1 := Lib.hid (e0.trans e1))
      go_ret2
      exact RetE.mk (by rw [HV.out]; simp [h0, h2]) E1.out
  · go_enter Try.func19, Try.ntmps19
    go_wp2_with (go_at_call 32; refine (i_houseCode _ _ _ _ _ _ _ _ (HX.out.ext e0) hs).mono ?_; rw [hc]; rintro e w1 ⟨rfl, e1⟩; obtain ⟨p0, p1, p2, p3, p4⟩ := two_cells (e1.block (heap_alloc_new w _)); have E1 := Lib.hid (e0.trans e1))
    go_ret2
    exact RetE.mk (by rw [HV.out]; simp [h0]) E1.out
theorem s_l07Through (k r : Int) (w : World) (h1 : 0 ≤ k) (h2 : k ≤ 100000) (h3 : 0 ≤ r) (h4 : r ≤ 100000) : Calls Try.prog 41 #[.int .i64 k, .int .i64 r] w (RetV (.bool (thruI k r)) w) := by
  by_cases h5 : (k + r) % 2 = 0
  all_goals
    go_enter Try.func41, Try.ntmps41
    go_wp2
    go_ret
    exact RetV.mk (bool_eq (by unfold thruI; simp [h5]))
set_option maxHeartbeats 1000000 in
theorem s_RunsThrough (ao : Option Addr) (n c : Nat) (xs : List Int) (s : ByteArray) (k r : Int) (w : World) (hx : Ints w ao n xs) (hs : s.size ≤ 9223372036854775807) :
    Calls Try.prog 20 #[.agg #[.slice ao n c, .string s], .int .i64 k, .int .i64 r] w (RetE (.tuple #[.bool (runsH xs (bts s) k r), .int .i64 (codeH xs (bts s) k r)]) w) := by
  have e0 : Ext w (w.alloc (.cells #[.slice ao n c, .string s] 26)) := (Ext.refl w).alloc _
  have HX := Lib.hid hx
  have HL := Lib.hid hx.1
  clear hx
  obtain ⟨cd, hc⟩ : ∃ cd, codeH xs (bts s) k r = cd := ⟨_, rfl⟩
  have hv : runsH xs (bts s) k r = (decide (cd = 0) && thruI k r) := by unfold runsH; rw [hc]
  have HV := Lib.hid hv
  have HBX : Hid (cd = 0 → n ≤ 12 ∧ 0 ≤ k ∧ k < n ∧ 0 ≤ r ∧ r ≤ 1000) := Lib.hid (fun h => by have h1 := code_0 (hc.trans h); have := HL.out; have := validH_bd h1.1; omega)
  rw [hc]
  clear hv
  by_cases h0 : cd = 0
  · obtain ⟨n1, n2, n3, n4, n5⟩ := HBX.out h0
    go_enter Try.func20, Try.ntmps20
    go_wp2_with (first | (go_at_call 39; refine (s_l07Code _ _ _ _ _ _ _ _ _ (Two.new w _ _ _) (HX.out.ext e0) hs).mono ?_; rw [hc]; rintro e w1 ⟨rfl, e1⟩; have E1 := Lib.hid (e0.trans e1)) | (go_at_call 41; refine (s_l07Through _ _ _ (by omega) (by omega) (by omega) (by omega)).mono ?_; rintro e w2 ⟨rfl, rfl⟩))
    go_ret2
    exact RetE.mk (by rw [HV.out]; simp [h0]) E1.out
  · go_enter Try.func20, Try.ntmps20
    go_wp2_with (first | (go_at_call 39; refine (s_l07Code _ _ _ _ _ _ _ _ _ (Two.new w _ _ _) (HX.out.ext e0) hs).mono ?_; rw [hc]; rintro e w1 ⟨rfl, e1⟩; have E1 := Lib.hid (e0.trans e1)))
    go_ret2
    exact RetE.mk (by rw [HV.out]; simp [h0]) E1.out
set_option maxHeartbeats 1000000 in
theorem i_QuoinLap (ao : Option Addr) (n c : Nat) (xs : List Int) (s : ByteArray) (k : Int) (b : Bool) (w : World) (hx : Ints w ao n xs) (hs : s.size ≤ 9223372036854775807) :
    Calls Try.prog 22 #[.agg #[.slice ao n c, .string s], .int .i64 k, .bool b] w (RetE (.tuple #[.int .i64 (lapH xs (bts s) k b), .int .i64 (codeH xs (bts s) k 0)]) w) := by
  have e0 : Ext w (w.alloc (.cells #[.slice ao n c, .string s] 26)) := (Ext.refl w).alloc _
  have HX := Lib.hid hx
  clear hx
  obtain ⟨cd, hc⟩ : ∃ cd, codeH xs (bts s) k 0 = cd := ⟨_, rfl⟩
  have hv : lapH xs (bts s) k b = if cd = 0 then sel b 1 2 else 0 := by unfold lapH; rw [hc]
  have HV := Lib.hid hv
  rw [hc]
  clear hv
  have q1 : qI 72 = 2 := by decide
  have q2 : qI 67 = 1 := by decide
  have q3 : qI 83 = 4 := by decide
  have Q : Hid (qI 72 = 2 ∧ qI 67 = 1 ∧ qI 83 = 4) := Lib.hid ⟨q1, q2, q3⟩
  clear q1 q2 q3
  by_cases h0 : cd = 0
  · cases b
    all_goals
      go_enter Try.func22, Try.ntmps22
      go_wp2_with (first | (go_at_call 32; refine (i_houseCode _ _ _ _ _ _ _ _ (HX.out.ext e0) hs).mono ?_; rw [hc]; rintro e w1 ⟨rfl, e1⟩; have E1 := Lib.hid (e0.trans e1)) | (go_at_call 42; refine (i_quartersOf _ _).mono ?_; (first | rw [Q.out.1] | rw [Q.out.2.1] | rw [Q.out.2.2]); rintro e w2 ⟨rfl, rfl⟩))
      go_ret2
      exact RetE.mk (by rw [HV.out, if_pos h0, h0]; rfl) E1.out
  · go_enter Try.func22, Try.ntmps22
    go_wp2_with (first | (go_at_call 32; refine (i_houseCode _ _ _ _ _ _ _ _ (HX.out.ext e0) hs).mono ?_; rw [hc]; rintro e w1 ⟨rfl, e1⟩; have E1 := Lib.hid (e0.trans e1)))
    go_ret2
    exact RetE.mk (by rw [HV.out, if_neg h0]; rfl) E1.out
set_option maxHeartbeats 1000000 in
theorem s_QuoinLap (ao : Option Addr) (n c : Nat) (xs : List Int) (s : ByteArray) (k : Int) (b : Bool) (w : World) (hx : Ints w ao n xs) (hs : s.size ≤ 9223372036854775807) :
    Calls Try.prog 23 #[.agg #[.slice ao n c, .string s], .int .i64 k, .bool b] w (RetE (.tuple #[.int .i64 (lapH xs (bts s) k b), .int .i64 (codeH xs (bts s) k 0)]) w) := by
  have e0 : Ext w (w.alloc (.cells #[.slice ao n c, .string s] 26)) := (Ext.refl w).alloc _
  have HX := Lib.hid hx
  clear hx
  obtain ⟨cd, hc⟩ : ∃ cd, codeH xs (bts s) k 0 = cd := ⟨_, rfl⟩
  have hv : lapH xs (bts s) k b = if cd = 0 then sel b 1 2 else 0 := by unfold lapH; rw [hc]
  have HV := Lib.hid hv
  rw [hc]
  clear hv
  by_cases h0 : cd = 0
  · cases b
    all_goals
      go_enter Try.func23, Try.ntmps23
      go_wp2_with (first | (go_at_call 39; refine (s_l07Code _ _ _ _ _ _ _ _ _ (Two.new w _ _ _) (HX.out.ext e0) hs).mono ?_; rw [hc]; rintro e w1 ⟨rfl, e1⟩; have E1 := Lib.hid (e0.trans e1)))
      go_ret2
      exact RetE.mk (by rw [HV.out, if_pos h0, h0]; rfl) E1.out
  · go_enter Try.func23, Try.ntmps23
    go_wp2_with (first | (go_at_call 39; refine (s_l07Code _ _ _ _ _ _ _ _ _ (Two.new w _ _ _) (HX.out.ext e0) hs).mono ?_; rw [hc]; rintro e w1 ⟨rfl, e1⟩; have E1 := Lib.hid (e0.trans e1)))
    go_ret2
    exact RetE.mk (by rw [HV.out, if_neg h0]; rfl) E1.out
theorem sideI_at (xs : List Int) (n k : Nat) (r : Int) (hn : xs.length = n) : sideI xs k r = xs.getD k 0 - (if ((k : Int) + r) % 2 = 0 then 0 else 2) - (if (((k : Int) + n - 1) % n + r) % 2 = 0 then 2 else 0) := by
  unfold sideI
  rw [hn, Int.toNat_natCast]
set_option maxHeartbeats 1000000 in
theorem i_sideInCourse (ao : Option Addr) (n c : Nat) (xs : List Int) (s : ByteArray) (k : Nat) (r : Int) (w : World) (hx : Ints w ao n xs) (hb : ∀ x ∈ xs, 8 ≤ x ∧ x ≤ 200) (hk : k < n) (hn : n ≤ 12) (hr : 0 ≤ r) (hr2 : r ≤ 1000) :
    Calls Try.prog 38 #[.agg #[.slice ao n c, .string s], .int .i64 k, .int .i64 r] w (RetE (.int .i64 (sideI xs k r)) w) := by
  have e0 : Ext w (w.alloc (.cells #[.slice ao n c, .string s] 26)) := (Ext.refl w).alloc _
  have hsd := sides_at hb k (by have := hx.1; omega)
  have hv := sideI_at xs n k r hx.1
  have HX := Lib.hid hx
  obtain ⟨bb, off, rfl, d0⟩ := (hx.ext e0).2.2.1 k hk
  obtain ⟨sd, hsde⟩ : ∃ sd, xs.getD k 0 = sd := ⟨_, rfl⟩
  rw [hsde] at d0 hsd hv
  have hp : 0 ≤ ((k : Int) + n - 1) % n ∧ ((k : Int) + n - 1) % n < n := ⟨Int.emod_nonneg _ (by omega), Int.emod_lt_of_pos _ (by omega)⟩
  have HV := Lib.hid hv
  clear hx hb hsde hv
  by_cases h1 : ((k : Int) + r) % 2 = 0 <;> by_cases h2 : (((k : Int) + n - 1) % n + r) % 2 = 0
  all_goals
    go_enter Try.func38, Try.ntmps38
    go_wp2
    go_ret
    exact RetE.mk (int_eq (by rw [HV.out]; simp [h1, h2] <;> omega)) e0
set_option maxHeartbeats 1000000 in
theorem s_l07Side (pb : Nat) (ao : Option Addr) (n c : Nat) (xs : List Int) (s : ByteArray) (k : Nat) (r : Int) (w : World) (hB : Two w pb (.slice ao n c) (.string s)) (hx : Ints w ao n xs) (hb : ∀ x ∈ xs, 8 ≤ x ∧ x ≤ 200) (hk : k < n) (hn : n ≤ 12) (hr : 0 ≤ r) (hr2 : r ≤ 1000) :
    Calls Try.prog 40 #[.pointer (some ⟨pb, 0, none⟩), .int .i64 k, .int .i64 r] w (RetV (.int .i64 (sideI xs k r)) w) := by
  have hsd := sides_at hb k (by have := hx.1; omega)
  have hv := sideI_at xs n k r hx.1
  have HX := Lib.hid hx
  obtain ⟨A1, A2, A3⟩ := hB
  obtain ⟨bb, off, rfl, d0⟩ := hx.2.2.1 k hk
  obtain ⟨sd, hsde⟩ : ∃ sd, xs.getD k 0 = sd := ⟨_, rfl⟩
  rw [hsde] at d0 hsd hv
  have hp : 0 ≤ ((k : Int) + n - 1) % n ∧ ((k : Int) + n - 1) % n < n := ⟨Int.emod_nonneg _ (by omega), Int.emod_lt_of_pos _ (by omega)⟩
  have HV := Lib.hid hv
  clear hx hb hsde hv
  by_cases h1 : ((k : Int) + r) % 2 = 0 <;> by_cases h2 : (((k : Int) + n - 1) % n + r) % 2 = 0
  all_goals
    have T1 : Hid (thruI k r = decide (((k : Int) + r) % 2 = 0)) := Lib.hid rfl
    go_enter Try.func40, Try.ntmps40
    go_wp2_with (go_at_call 41; refine (s_l07Through _ _ _ (by omega) (by omega) (by omega) (by omega)).mono ?_; unfold thruI; rintro e w2 ⟨rfl, rfl⟩)
    go_ret
    exact RetV.mk (int_eq (by rw [HV.out]; simp [h1, h2] <;> omega))
end Go.Proofs.Ytlgdaddplibglaa

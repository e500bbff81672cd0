/- The places of the corners of a plan on the reference's side, and what makes a plan valid: both sides. -/
import Derived.Test.YtaokeaiehjgbnaaDoorHouse1
namespace Go.Proofs.YtaokeaiehjgbnaaDoor
open Go.RowKit
set_option linter.unusedSimpArgs false
set_option linter.unusedVariables false
set_option linter.unnecessarySimpa false

set_option maxRecDepth 100000 in
set_option maxHeartbeats 4000000 in
theorem s_l07Points (pb : Nat) (ao : Option Addr) (n c : Nat) (xs : List Int) (s : ByteArray) (w : World) (hB : Two w pb (.slice ao n c) (.string s)) (hx : Ints w ao n xs) (hs : s.size = n) (n12 : n ≤ 12) (hb : ∀ x ∈ xs, 8 ≤ x ∧ x ≤ 200) :
    Calls Tryd.prog 56 #[.pointer (some ⟨pb, 0, none⟩)] w (RetPts (ptsH xs (bts s) n) w) := by
  have hxl := hx.1
  have HBd := Lib.hid (fun k (h : k ≤ xs.length) => pt_bd (bts s) hb (by omega) k h)
  have HSd := Lib.hid (fun k (h : k < xs.length) => sides_at hb k h)
  have HStep : Hid (∀ k, stH xs (bts s) (k + 1) = stepH (stH xs (bts s) k) (xs.getD k 0) ((bts s).getD k 0)) := Lib.hid (fun k => rfl)
  have HWay := Lib.hid (fun k => way_bd xs (bts s) k)
  have HPt := Lib.hid (fun k => ptsH_succ xs (bts s) k)
  have HX := Lib.hid hx
  have HL := Lib.hid hxl
  have HSz := Lib.hid hs
  have HF := Lib.hid (OwnPts.first 0 0 (Ext.refl w))
  have HE0 := Lib.hid (((Ext.refl w).alloc (.cells #[.int .i64 0, .int .i64 0] 2)).alloc (.cells #[slV w.heap.size] 22))
  have HB0 := Lib.hid hB
  clear hx hxl hs hb hB
  go_enter Tryd.func56, Tryd.ntmps56
  go_wp2
  go_loopw [3, 4, 5, 6, 7] (fun v vx vy vw i wr => ∃ (k : Nat) (x y wy : Int), k ≤ n ∧ i = .int .i64 k ∧ vx = .int .i64 x ∧ vy = .int .i64 y ∧ vw = .int .i64 wy ∧ Hid (stH xs (bts s) k = (x, y, wy)) ∧ Hid (OwnPts wr w.heap.size v (ptsH xs (bts s) k)) ∧ Hid (Ext w wr)) (fun _ _ _ _ i _ => n - (intOf i).toNat)
  case atStart => exact ⟨0, 0, 0, 0, Nat.zero_le _, rfl, rfl, rfl, rfl, Lib.hid rfl, HF, HE0⟩
  case round =>
    obtain ⟨k, x, y, wy, hk, rfl, rfl, rfl, rfl, HS, HO, HE⟩ := hrel
    clear HF HE0
    obtain ⟨v3, c3, hv3⟩ := HO.out.slice
    obtain rfl := hv3
    have hpl : (ptsH xs (bts s) k).length ≤ 1000000 := by rw [ptsH_len]; omega
    have HB := Lib.hid (HB0.out.ext HE.out)
    obtain ⟨A1, A2, A3⟩ := HB.out
    by_cases hlt : k < n
    · obtain ⟨bb, off, rfl, d0⟩ := (HX.out.ext HE.out).2.2.1 k hlt
      have hbd := HBd.out k (by have := HL.out; omega)
      have hsd := HSd.out k (by have := HL.out; omega)
      have hst := HStep.out k
      have hwy := HWay.out k
      have hks : k < s.size := by have := HSz.out; omega
      rw [byte_get s k hks, HS.out] at hst
      rw [HS.out] at hbd hwy
      have hx1 : -2400 ≤ x ∧ x ≤ 2400 ∧ -2400 ≤ y ∧ y ≤ 2400 := hbd
      obtain ⟨sd, hsde⟩ : ∃ sd, xs.getD k 0 = sd := ⟨_, rfl⟩
      rw [hsde] at d0 hsd hst
      obtain ⟨b, hidx⟩ : ∃ b, s[k] = b := ⟨_, rfl⟩
      rw [hidx] at hst
      have hpt := HPt.out k
      unfold ptH at hpt
      have HST := Lib.hid hst
      have HPT := Lib.hid hpt
      have HP0 := Lib.hid hpl
      clear hbd hst hpt hsde hpl
      replace hwy : wy = 0 ∨ wy = 1 ∨ wy = 2 ∨ wy = 3 := hwy
      rcases hwy with rfl | rfl | rfl | rfl
      · by_cases h76 : b = 76
        · have t76 : ((b.toNat : Int) == 76) = true := u8_eqH (k := 76) (by decide) h76
          have HN : Hid (stH xs (bts s) (k + 1) = (x + sd, y, 1)) := Lib.hid (by rw [HST.out, stepH_0, if_pos h76])
          clear h76
          go_wp2_with (at_builtin; refine wpList_append_pt (W := w) rfl (.tmp 64) (.tmp 68) rfl _ (ptsH xs (bts s) k) (x + sd) (y) rfl rfl rfl HO.out HE.out HP0.out ?_; intro v' w2 ho2 e2 _; have HO2 : Hid (OwnPts w2 w.heap.size v' (ptsH xs (bts s) (k + 1))) := Lib.hid (by (rw [HPT.out, HN.out]; exact ho2)); obtain ⟨A1, A2, A3⟩ := HB0.out.ext e2; have HE2 := Lib.hid e2; clear ho2 e2)
          go_roundw
          case rel => first | exact ⟨k + 1, x + sd, y, 1, by omega, by go_num, rfl, rfl, by (first | rfl | go_num), HN, HO2, HE2⟩ | ((repeat apply Exists.intro); exact ⟨⟨k + 1, x + sd, y, 1, by omega, by go_num, rfl, rfl, by (first | rfl | go_num), HN, HO2, HE2⟩, rfl⟩)
          case measure => (simp [intOf] <;> omega)
        · have t76 : ((b.toNat : Int) == 76) = false := u8_ne (k := 76) (by decide) h76
          have HN : Hid (stH xs (bts s) (k + 1) = (x + sd, y, 3)) := Lib.hid (by rw [HST.out, stepH_0, if_neg h76])
          clear h76
          go_wp2_with (at_builtin; refine wpList_append_pt (W := w) rfl (.tmp 64) (.tmp 68) rfl _ (ptsH xs (bts s) k) (x + sd) (y) rfl rfl rfl HO.out HE.out HP0.out ?_; intro v' w2 ho2 e2 _; have HO2 : Hid (OwnPts w2 w.heap.size v' (ptsH xs (bts s) (k + 1))) := Lib.hid (by (rw [HPT.out, HN.out]; exact ho2)); obtain ⟨A1, A2, A3⟩ := HB0.out.ext e2; have HE2 := Lib.hid e2; clear ho2 e2)
          go_roundw
          case rel => first | exact ⟨k + 1, x + sd, y, 3, by omega, by go_num, rfl, rfl, by (first | rfl | go_num), HN, HO2, HE2⟩ | ((repeat apply Exists.intro); exact ⟨⟨k + 1, x + sd, y, 3, by omega, by go_num, rfl, rfl, by (first | rfl | go_num), HN, HO2, HE2⟩, rfl⟩)
          case measure => (simp [intOf] <;> omega)
      · by_cases h76 : b = 76
        · have t76 : ((b.toNat : Int) == 76) = true := u8_eqH (k := 76) (by decide) h76
          have HN : Hid (stH xs (bts s) (k + 1) = (x, y + sd, 2)) := Lib.hid (by rw [HST.out, stepH_1, if_pos h76])
          clear h76
          go_wp2_with (at_builtin; refine wpList_append_pt (W := w) rfl (.tmp 64) (.tmp 68) rfl _ (ptsH xs (bts s) k) (x) (y + sd) rfl rfl rfl HO.out HE.out HP0.out ?_; intro v' w2 ho2 e2 _; have HO2 : Hid (OwnPts w2 w.heap.size v' (ptsH xs (bts s) (k + 1))) := Lib.hid (by (rw [HPT.out, HN.out]; exact ho2)); obtain ⟨A1, A2, A3⟩ := HB0.out.ext e2; have HE2 := Lib.hid e2; clear ho2 e2)
          go_roundw
          case rel => first | exact ⟨k + 1, x, y + sd, 2, by omega, by go_num, rfl, rfl, by (first | rfl | go_num), HN, HO2, HE2⟩ | ((repeat apply Exists.intro); exact ⟨⟨k + 1, x, y + sd, 2, by omega, by go_num, rfl, rfl, by (first | rfl | go_num), HN, HO2, HE2⟩, rfl⟩)
          case measure => (simp [intOf] <;> omega)
        · have t76 : ((b.toNat : Int) == 76) = false := u8_ne (k := 76) (by decide) h76
          have HN : Hid (stH xs (bts s) (k + 1) = (x, y + sd, 0)) := Lib.hid (by rw [HST.out, stepH_1, if_neg h76])
          clear h76
          go_wp2_with (at_builtin; refine wpList_append_pt (W := w) rfl (.tmp 64) (.tmp 68) rfl _ (ptsH xs (bts s) k) (x) (y + sd) rfl rfl rfl HO.out HE.out HP0.out ?_; intro v' w2 ho2 e2 _; have HO2 : Hid (OwnPts w2 w.heap.size v' (ptsH xs (bts s) (k + 1))) := Lib.hid (by (rw [HPT.out, HN.out]; exact ho2)); obtain ⟨A1, A2, A3⟩ := HB0.out.ext e2; have HE2 := Lib.hid e2; clear ho2 e2)
          go_roundw
          case rel => first | exact ⟨k + 1, x, y + sd, 0, by omega, by go_num, rfl, rfl, by (first | rfl | go_num), HN, HO2, HE2⟩ | ((repeat apply Exists.intro); exact ⟨⟨k + 1, x, y + sd, 0, by omega, by go_num, rfl, rfl, by (first | rfl | go_num), HN, HO2, HE2⟩, rfl⟩)
          case measure => (simp [intOf] <;> omega)
      · by_cases h76 : b = 76
        · have t76 : ((b.toNat : Int) == 76) = true := u8_eqH (k := 76) (by decide) h76
          have HN : Hid (stH xs (bts s) (k + 1) = (x - sd, y, 3)) := Lib.hid (by rw [HST.out, stepH_2, if_pos h76])
          clear h76
          go_wp2_with (at_builtin; refine wpList_append_pt (W := w) rfl (.tmp 64) (.tmp 68) rfl _ (ptsH xs (bts s) k) (x - sd) (y) rfl rfl rfl HO.out HE.out HP0.out ?_; intro v' w2 ho2 e2 _; have HO2 : Hid (OwnPts w2 w.heap.size v' (ptsH xs (bts s) (k + 1))) := Lib.hid (by (rw [HPT.out, HN.out]; exact ho2)); obtain ⟨A1, A2, A3⟩ := HB0.out.ext e2; have HE2 := Lib.hid e2; clear ho2 e2)
          go_roundw
          case rel => first | exact ⟨k + 1, x - sd, y, 3, by omega, by go_num, rfl, rfl, by (first | rfl | go_num), HN, HO2, HE2⟩ | ((repeat apply Exists.intro); exact ⟨⟨k + 1, x - sd, y, 3, by omega, by go_num, rfl, rfl, by (first | rfl | go_num), HN, HO2, HE2⟩, rfl⟩)
          case measure => (simp [intOf] <;> omega)
        · have t76 : ((b.toNat : Int) == 76) = false := u8_ne (k := 76) (by decide) h76
          have HN : Hid (stH xs (bts s) (k + 1) = (x - sd, y, 1)) := Lib.hid (by rw [HST.out, stepH_2, if_neg h76])
          clear h76
          go_wp2_with (at_builtin; refine wpList_append_pt (W := w) rfl (.tmp 64) (.tmp 68) rfl _ (ptsH xs (bts s) k) (x - sd) (y) rfl rfl rfl HO.out HE.out HP0.out ?_; intro v' w2 ho2 e2 _; have HO2 : Hid (OwnPts w2 w.heap.size v' (ptsH xs (bts s) (k + 1))) := Lib.hid (by (rw [HPT.out, HN.out]; exact ho2)); obtain ⟨A1, A2, A3⟩ := HB0.out.ext e2; have HE2 := Lib.hid e2; clear ho2 e2)
          go_roundw
          case rel => first | exact ⟨k + 1, x - sd, y, 1, by omega, by go_num, rfl, rfl, by (first | rfl | go_num), HN, HO2, HE2⟩ | ((repeat apply Exists.intro); exact ⟨⟨k + 1, x - sd, y, 1, by omega, by go_num, rfl, rfl, by (first | rfl | go_num), HN, HO2, HE2⟩, rfl⟩)
          case measure => (simp [intOf] <;> omega)
      · by_cases h76 : b = 76
        · have t76 : ((b.toNat : Int) == 76) = true := u8_eqH (k := 76) (by decide) h76
          have HN : Hid (stH xs (bts s) (k + 1) = (x, y - sd, 0)) := Lib.hid (by rw [HST.out, stepH_3, if_pos h76])
          clear h76
          go_wp2_with (at_builtin; refine wpList_append_pt (W := w) rfl (.tmp 64) (.tmp 68) rfl _ (ptsH xs (bts s) k) (x) (y - sd) rfl rfl rfl HO.out HE.out HP0.out ?_; intro v' w2 ho2 e2 _; have HO2 : Hid (OwnPts w2 w.heap.size v' (ptsH xs (bts s) (k + 1))) := Lib.hid (by (rw [HPT.out, HN.out]; exact ho2)); obtain ⟨A1, A2, A3⟩ := HB0.out.ext e2; have HE2 := Lib.hid e2; clear ho2 e2)
          go_roundw
          case rel => first | exact ⟨k + 1, x, y - sd, 0, by omega, by go_num, rfl, rfl, by (first | rfl | go_num), HN, HO2, HE2⟩ | ((repeat apply Exists.intro); exact ⟨⟨k + 1, x, y - sd, 0, by omega, by go_num, rfl, rfl, by (first | rfl | go_num), HN, HO2, HE2⟩, rfl⟩)
          case measure => (simp [intOf] <;> omega)
        · have t76 : ((b.toNat : Int) == 76) = false := u8_ne (k := 76) (by decide) h76
          have HN : Hid (stH xs (bts s) (k + 1) = (x, y - sd, 2)) := Lib.hid (by rw [HST.out, stepH_3, if_neg h76])
          clear h76
          go_wp2_with (at_builtin; refine wpList_append_pt (W := w) rfl (.tmp 64) (.tmp 68) rfl _ (ptsH xs (bts s) k) (x) (y - sd) rfl rfl rfl HO.out HE.out HP0.out ?_; intro v' w2 ho2 e2 _; have HO2 : Hid (OwnPts w2 w.heap.size v' (ptsH xs (bts s) (k + 1))) := Lib.hid (by (rw [HPT.out, HN.out]; exact ho2)); obtain ⟨A1, A2, A3⟩ := HB0.out.ext e2; have HE2 := Lib.hid e2; clear ho2 e2)
          go_roundw
          case rel => first | exact ⟨k + 1, x, y - sd, 2, by omega, by go_num, rfl, rfl, by (first | rfl | go_num), HN, HO2, HE2⟩ | ((repeat apply Exists.intro); exact ⟨⟨k + 1, x, y - sd, 2, by omega, by go_num, rfl, rfl, by (first | rfl | go_num), HN, HO2, HE2⟩, rfl⟩)
          case measure => (simp [intOf] <;> omega)
    · obtain rfl : k = n := by omega
      go_wp2
      go_ret
      exact RetPts.of_own HO.out HE.out
end Go.Proofs.YtaokeaiehjgbnaaDoor

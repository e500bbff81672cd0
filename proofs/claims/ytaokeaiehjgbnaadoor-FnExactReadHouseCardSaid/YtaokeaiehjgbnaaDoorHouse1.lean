/- The places of the corners of a plan: both sides. -/
import Derived.Test.YtaokeaiehjgbnaaDoorPts
import Derived.Test.YtaokeaiehjgbnaaDoorHouseMath
import Derived.Test.YtaokeaiehjgbnaaDoorCourse
namespace Go.Proofs.YtaokeaiehjgbnaaDoor
open Go.RowKit
set_option linter.unusedSimpArgs false
set_option linter.unusedVariables false
set_option linter.unnecessarySimpa false

theorem ints_cap {w : World} {base n c : Nat} {ao : Option Addr} {xs : List Int} (h : OwnInts 2 w base (.slice ao n c) xs) : n ≤ c := by
  rcases h.1.2 with ⟨hv, h0⟩ | ⟨g, cap, cur, hv, hg, hh, hc, r⟩
  · simp only [Value.slice.injEq] at hv; omega
  · simp only [Value.slice.injEq] at hv
    obtain ⟨_, h2, h3⟩ := hv
    omega
theorem byte_get (s : ByteArray) (k : Nat) (h : k < s.size) : (bts s).getD k 0 = s[k] := by
  obtain ⟨h1, h2⟩ := byte_at s k h
  rw [List.getD_eq_getElem?_getD, List.getElem?_eq_getElem h1, Option.getD_some]
  exact h2
theorem stepH_0 (x y s : Int) (b : UInt8) : stepH (x, y, 0) s b = (x + s, y, if b = 76 then 1 else 3) := by unfold stepH dX dY; simp
theorem stepH_1 (x y s : Int) (b : UInt8) : stepH (x, y, 1) s b = (x, y + s, if b = 76 then 2 else 0) := by unfold stepH dX dY; simp
theorem stepH_2 (x y s : Int) (b : UInt8) : stepH (x, y, 2) s b = (x - s, y, if b = 76 then 3 else 1) := by unfold stepH dX dY; simp; omega
theorem stepH_3 (x y s : Int) (b : UInt8) : stepH (x, y, 3) s b = (x, y - s, if b = 76 then 0 else 2) := by unfold stepH dX dY; simp; omega
theorem u8_eqH {b : UInt8} {k : Nat} (hk : k < 256) (h : b = UInt8.ofNat k) : ((b.toNat : Int) == (k : Int)) = true := by
  subst h; simp; omega
theorem u8_ne {b : UInt8} {k : Nat} (hk : k < 256) (h : b ≠ UInt8.ofNat k) : ((b.toNat : Int) == (k : Int)) = false := by
  rw [beq_eq_false_iff_ne]
  intro e
  apply h
  apply UInt8.toNat_inj.1
  rw [UInt8.toNat_ofNat', Nat.mod_eq_of_lt hk]
  omega
theorem h_ne : (27 : TypeId) ≠ 22 := by decide
set_option maxRecDepth 100000 in
set_option maxHeartbeats 4000000 in
theorem i_corners (ao : Option Addr) (n c : Nat) (xs : List Int) (s : ByteArray) (w : World) (hx : Ints w ao n xs) (hs : s.size = n) (n12 : n ≤ 12) (hb : ∀ x ∈ xs, 8 ≤ x ∧ x ≤ 200) :
    Calls Tryd.prog 61 #[.agg #[.slice ao n c, .string s]] w (RetPts (ptsH xs (bts s) n) w) := by
  have hxl := hx.1
  have HBd := Lib.hid (fun k (h : k ≤ xs.length) => pt_bd (bts s) hb (by omega) k h)
  have HSd := Lib.hid (fun k (h : k < xs.length) => sides_at hb k h)
  have HStep : Hid (∀ k, stH xs (bts s) (k + 1) = stepH (stH xs (bts s) k) (xs.getD k 0) ((bts s).getD k 0)) := Lib.hid (fun k => rfl)
  have HWay := Lib.hid (fun k => way_bd xs (bts s) k)
  have HPt := Lib.hid (fun k => ptsH_succ xs (bts s) k)
  have HX := Lib.hid hx
  have HL := Lib.hid hxl
  have HSz := Lib.hid hs
  have e1 : Ext w (w.alloc (.cells #[.slice ao n c, .string s] 27)) := (Ext.refl w).alloc _
  have HF := Lib.hid (OwnPts.first 0 0 e1)
  rw [World.size_alloc] at HF
  have HE0 := Lib.hid ((e1.alloc (.cells #[.int .i64 0, .int .i64 0] 2)).alloc (.cells #[slV (w.heap.size + 1)] 22))
  have A : (((w.alloc (.cells #[.slice ao n c, .string s] 27)).alloc (.cells #[.int .i64 0, .int .i64 0] 2)).alloc (.cells #[slV (w.heap.size + 1)] 22)).heap[w.heap.size]? = some (.cells #[.slice ao n c, .string s] 27 (0, 0)) := (((Ext.refl _).alloc _).alloc _).block (heap_alloc_new w _)
  have HA := Lib.hid A
  clear hx hxl hs hb e1 A
  go_enter Tryd.func61, Tryd.ntmps61
  go_wp2
  go_loopw [3, 4, 5, 6, 7, 15] (fun v vx vy vdx vdy i wr => ∃ (k : Nat) (x y dx dy wy : Int), k ≤ n ∧ i = .int .i64 k ∧ vx = .int .i64 x ∧ vy = .int .i64 y ∧ vdx = .int .i64 dx ∧ vdy = .int .i64 dy ∧ Hid ((wy = 0 ∧ dx = 1 ∧ dy = 0) ∨ (wy = 1 ∧ dx = 0 ∧ dy = 1) ∨ (wy = 2 ∧ dx = -1 ∧ dy = 0) ∨ (wy = 3 ∧ dx = 0 ∧ dy = -1)) ∧ Hid (stH xs (bts s) k = (x, y, wy)) ∧ Hid (OwnPts wr w.heap.size v (ptsH xs (bts s) k)) ∧ Hid (Ext w wr) ∧ Hid (wr.heap[w.heap.size]? = some (.cells #[.slice ao n c, .string s] 27 (0, 0)))) (fun _ _ _ _ _ i _ => n - (intOf i).toNat)
  case atStart => exact ⟨0, 0, 0, 1, 0, 0, Nat.zero_le _, rfl, rfl, rfl, rfl, rfl, Lib.hid (.inl ⟨rfl, rfl, rfl⟩), Lib.hid rfl, HF, HE0, HA⟩
  case round =>
    obtain ⟨k, x, y, dx, dy, wy, hk, rfl, rfl, rfl, rfl, rfl, HD, HS, HO, HE, HT⟩ := hrel
    clear HF HE0 HA
    obtain ⟨v3, c3, hv3⟩ := HO.out.slice
    obtain rfl := hv3
    have hpl : (ptsH xs (bts s) k).length ≤ 1000000 := by rw [ptsH_len]; omega
    by_cases hlt : k < n
    · obtain ⟨bb, off, rfl, d0⟩ := (HX.out.ext HE.out).2.2.1 k hlt
      obtain ⟨A1, A2, A3⟩ := two_cells HT.out
      have hbd := HBd.out k (by have := HL.out; omega)
      have hsd := HSd.out k (by have := HL.out; omega)
      have hst := HStep.out k
      have hks : k < s.size := by have := HSz.out; omega
      rw [byte_get s k hks, HS.out] at hst
      rw [HS.out] at hbd
      have hx1 : -2400 ≤ x ∧ x ≤ 2400 ∧ -2400 ≤ y ∧ y ≤ 2400 := hbd
      obtain ⟨sd, hsde⟩ : ∃ sd, xs.getD k 0 = sd := ⟨_, rfl⟩
      rw [hsde] at d0 hsd hst
      obtain ⟨b, hidx⟩ : ∃ b, s[k] = b := ⟨_, rfl⟩
      rw [hidx] at hst
      have hpt := HPt.out k
      unfold ptH at hpt
      have HST := Lib.hid hst
      have HPT := Lib.hid hpt
      have HP0 := Lib.hid hpl
      clear hbd hst hpt hsde hpl
      rcases HD.out with ⟨rfl, rfl, rfl⟩ | ⟨rfl, rfl, rfl⟩ | ⟨rfl, rfl, rfl⟩ | ⟨rfl, rfl, rfl⟩
      · by_cases h76 : b = 76
        · have t76 : ((b.toNat : Int) == 76) = true := u8_eqH (k := 76) (by decide) h76
          have HN : Hid (stH xs (bts s) (k + 1) = (x + sd, y, 1)) := Lib.hid (by rw [HST.out, stepH_0, if_pos h76])
          clear h76
          go_wp2_with (at_builtin; refine wpList_append_pt (W := w) rfl (.tmp 30) (.tmp 34) rfl _ (ptsH xs (bts s) k) (x + sd) (y) rfl rfl rfl HO.out HE.out HP0.out ?_; intro v' w2 ho2 e2 hk2; have HO2 : Hid (OwnPts w2 w.heap.size v' (ptsH xs (bts s) (k + 1))) := Lib.hid (by (rw [HPT.out, HN.out]; exact ho2)); have HT2 := Lib.hid (hk2 _ _ _ _ h_ne HT.out); obtain ⟨A1, A2, A3⟩ := two_cells HT2.out; have HE2 := Lib.hid e2; clear ho2 e2 hk2)
          go_roundw
          case rel => first | exact ⟨k + 1, x + sd, y, 0, 1, 1, by omega, by go_num, rfl, rfl, rfl, rfl, Lib.hid (.inr (.inl ⟨rfl, rfl, rfl⟩)), HN, HO2, HE2, HT2⟩ | ((repeat apply Exists.intro); exact ⟨⟨k + 1, x + sd, y, 0, 1, 1, by omega, by go_num, rfl, rfl, rfl, rfl, Lib.hid (.inr (.inl ⟨rfl, rfl, rfl⟩)), HN, HO2, HE2, HT2⟩, rfl⟩)
          case measure => (simp [intOf] <;> omega)
        · have t76 : ((b.toNat : Int) == 76) = false := u8_ne (k := 76) (by decide) h76
          have HN : Hid (stH xs (bts s) (k + 1) = (x + sd, y, 3)) := Lib.hid (by rw [HST.out, stepH_0, if_neg h76])
          clear h76
          go_wp2_with (at_builtin; refine wpList_append_pt (W := w) rfl (.tmp 30) (.tmp 34) rfl _ (ptsH xs (bts s) k) (x + sd) (y) rfl rfl rfl HO.out HE.out HP0.out ?_; intro v' w2 ho2 e2 hk2; have HO2 : Hid (OwnPts w2 w.heap.size v' (ptsH xs (bts s) (k + 1))) := Lib.hid (by (rw [HPT.out, HN.out]; exact ho2)); have HT2 := Lib.hid (hk2 _ _ _ _ h_ne HT.out); obtain ⟨A1, A2, A3⟩ := two_cells HT2.out; have HE2 := Lib.hid e2; clear ho2 e2 hk2)
          go_roundw
          case rel => first | exact ⟨k + 1, x + sd, y, 0, -1, 3, by omega, by go_num, rfl, rfl, rfl, rfl, Lib.hid (.inr (.inr (.inr ⟨rfl, rfl, rfl⟩))), HN, HO2, HE2, HT2⟩ | ((repeat apply Exists.intro); exact ⟨⟨k + 1, x + sd, y, 0, -1, 3, by omega, by go_num, rfl, rfl, rfl, rfl, Lib.hid (.inr (.inr (.inr ⟨rfl, rfl, rfl⟩))), HN, HO2, HE2, HT2⟩, rfl⟩)
          case measure => (simp [intOf] <;> omega)
      · by_cases h76 : b = 76
        · have t76 : ((b.toNat : Int) == 76) = true := u8_eqH (k := 76) (by decide) h76
          have HN : Hid (stH xs (bts s) (k + 1) = (x, y + sd, 2)) := Lib.hid (by rw [HST.out, stepH_1, if_pos h76])
          clear h76
          go_wp2_with (at_builtin; refine wpList_append_pt (W := w) rfl (.tmp 30) (.tmp 34) rfl _ (ptsH xs (bts s) k) (x) (y + sd) rfl rfl rfl HO.out HE.out HP0.out ?_; intro v' w2 ho2 e2 hk2; have HO2 : Hid (OwnPts w2 w.heap.size v' (ptsH xs (bts s) (k + 1))) := Lib.hid (by (rw [HPT.out, HN.out]; exact ho2)); have HT2 := Lib.hid (hk2 _ _ _ _ h_ne HT.out); obtain ⟨A1, A2, A3⟩ := two_cells HT2.out; have HE2 := Lib.hid e2; clear ho2 e2 hk2)
          go_roundw
          case rel => first | exact ⟨k + 1, x, y + sd, -1, 0, 2, by omega, by go_num, rfl, rfl, rfl, rfl, Lib.hid (.inr (.inr (.inl ⟨rfl, rfl, rfl⟩))), HN, HO2, HE2, HT2⟩ | ((repeat apply Exists.intro); exact ⟨⟨k + 1, x, y + sd, -1, 0, 2, by omega, by go_num, rfl, rfl, rfl, rfl, Lib.hid (.inr (.inr (.inl ⟨rfl, rfl, rfl⟩))), HN, HO2, HE2, HT2⟩, rfl⟩)
          case measure => (simp [intOf] <;> omega)
        · have t76 : ((b.toNat : Int) == 76) = false := u8_ne (k := 76) (by decide) h76
          have HN : Hid (stH xs (bts s) (k + 1) = (x, y + sd, 0)) := Lib.hid (by rw [HST.out, stepH_1, if_neg h76])
          clear h76
          go_wp2_with (at_builtin; refine wpList_append_pt (W := w) rfl (.tmp 30) (.tmp 34) rfl _ (ptsH xs (bts s) k) (x) (y + sd) rfl rfl rfl HO.out HE.out HP0.out ?_; intro v' w2 ho2 e2 hk2; have HO2 : Hid (OwnPts w2 w.heap.size v' (ptsH xs (bts s) (k + 1))) := Lib.hid (by (rw [HPT.out, HN.out]; exact ho2)); have HT2 := Lib.hid (hk2 _ _ _ _ h_ne HT.out); obtain ⟨A1, A2, A3⟩ := two_cells HT2.out; have HE2 := Lib.hid e2; clear ho2 e2 hk2)
          go_roundw
          case rel => first | exact ⟨k + 1, x, y + sd, 1, 0, 0, by omega, by go_num, rfl, rfl, rfl, rfl, Lib.hid (.inl ⟨rfl, rfl, rfl⟩), HN, HO2, HE2, HT2⟩ | ((repeat apply Exists.intro); exact ⟨⟨k + 1, x, y + sd, 1, 0, 0, by omega, by go_num, rfl, rfl, rfl, rfl, Lib.hid (.inl ⟨rfl, rfl, rfl⟩), HN, HO2, HE2, HT2⟩, rfl⟩)
          case measure => (simp [intOf] <;> omega)
      · by_cases h76 : b = 76
        · have t76 : ((b.toNat : Int) == 76) = true := u8_eqH (k := 76) (by decide) h76
          have HN : Hid (stH xs (bts s) (k + 1) = (x - sd, y, 3)) := Lib.hid (by rw [HST.out, stepH_2, if_pos h76])
          clear h76
          go_wp2_with (at_builtin; refine wpList_append_pt (W := w) rfl (.tmp 30) (.tmp 34) rfl _ (ptsH xs (bts s) k) (x - sd) (y) rfl rfl rfl HO.out HE.out HP0.out ?_; intro v' w2 ho2 e2 hk2; have HO2 : Hid (OwnPts w2 w.heap.size v' (ptsH xs (bts s) (k + 1))) := Lib.hid (by (rw [HPT.out, HN.out]; exact ho2)); have HT2 := Lib.hid (hk2 _ _ _ _ h_ne HT.out); obtain ⟨A1, A2, A3⟩ := two_cells HT2.out; have HE2 := Lib.hid e2; clear ho2 e2 hk2)
          go_roundw
          case rel => first | exact ⟨k + 1, x - sd, y, 0, -1, 3, by omega, by go_num, rfl, rfl, rfl, rfl, Lib.hid (.inr (.inr (.inr ⟨rfl, rfl, rfl⟩))), HN, HO2, HE2, HT2⟩ | ((repeat apply Exists.intro); exact ⟨⟨k + 1, x - sd, y, 0, -1, 3, by omega, by go_num, rfl, rfl, rfl, rfl, Lib.hid (.inr (.inr (.inr ⟨rfl, rfl, rfl⟩))), HN, HO2, HE2, HT2⟩, rfl⟩)
          case measure => (simp [intOf] <;> omega)
        · have t76 : ((b.toNat : Int) == 76) = false := u8_ne (k := 76) (by decide) h76
          have HN : Hid (stH xs (bts s) (k + 1) = (x - sd, y, 1)) := Lib.hid (by rw [HST.out, stepH_2, if_neg h76])
          clear h76
          go_wp2_with (at_builtin; refine wpList_append_pt (W := w) rfl (.tmp 30) (.tmp 34) rfl _ (ptsH xs (bts s) k) (x - sd) (y) rfl rfl rfl HO.out HE.out HP0.out ?_; intro v' w2 ho2 e2 hk2; have HO2 : Hid (OwnPts w2 w.heap.size v' (ptsH xs (bts s) (k + 1))) := Lib.hid (by (rw [HPT.out, HN.out]; exact ho2)); have HT2 := Lib.hid (hk2 _ _ _ _ h_ne HT.out); obtain ⟨A1, A2, A3⟩ := two_cells HT2.out; have HE2 := Lib.hid e2; clear ho2 e2 hk2)
          go_roundw
          case rel => first | exact ⟨k + 1, x - sd, y, 0, 1, 1, by omega, by go_num, rfl, rfl, rfl, rfl, Lib.hid (.inr (.inl ⟨rfl, rfl, rfl⟩)), HN, HO2, HE2, HT2⟩ | ((repeat apply Exists.intro); exact ⟨⟨k + 1, x - sd, y, 0, 1, 1, by omega, by go_num, rfl, rfl, rfl, rfl, Lib.hid (.inr (.inl ⟨rfl, rfl, rfl⟩)), HN, HO2, HE2, HT2⟩, rfl⟩)
          case measure => (simp [intOf] <;> omega)
      · by_cases h76 : b = 76
        · have t76 : ((b.toNat : Int) == 76) = true := u8_eqH (k := 76) (by decide) h76
          have HN : Hid (stH xs (bts s) (k + 1) = (x, y - sd, 0)) := Lib.hid (by rw [HST.out, stepH_3, if_pos h76])
          clear h76
          go_wp2_with (at_builtin; refine wpList_append_pt (W := w) rfl (.tmp 30) (.tmp 34) rfl _ (ptsH xs (bts s) k) (x) (y - sd) rfl rfl rfl HO.out HE.out HP0.out ?_; intro v' w2 ho2 e2 hk2; have HO2 : Hid (OwnPts w2 w.heap.size v' (ptsH xs (bts s) (k + 1))) := Lib.hid (by (rw [HPT.out, HN.out]; exact ho2)); have HT2 := Lib.hid (hk2 _ _ _ _ h_ne HT.out); obtain ⟨A1, A2, A3⟩ := two_cells HT2.out; have HE2 := Lib.hid e2; clear ho2 e2 hk2)
          go_roundw
          case rel => first | exact ⟨k + 1, x, y - sd, 1, 0, 0, by omega, by go_num, rfl, rfl, rfl, rfl, Lib.hid (.inl ⟨rfl, rfl, rfl⟩), HN, HO2, HE2, HT2⟩ | ((repeat apply Exists.intro); exact ⟨⟨k + 1, x, y - sd, 1, 0, 0, by omega, by go_num, rfl, rfl, rfl, rfl, Lib.hid (.inl ⟨rfl, rfl, rfl⟩), HN, HO2, HE2, HT2⟩, rfl⟩)
          case measure => (simp [intOf] <;> omega)
        · have t76 : ((b.toNat : Int) == 76) = false := u8_ne (k := 76) (by decide) h76
          have HN : Hid (stH xs (bts s) (k + 1) = (x, y - sd, 2)) := Lib.hid (by rw [HST.out, stepH_3, if_neg h76])
          clear h76
          go_wp2_with (at_builtin; refine wpList_append_pt (W := w) rfl (.tmp 30) (.tmp 34) rfl _ (ptsH xs (bts s) k) (x) (y - sd) rfl rfl rfl HO.out HE.out HP0.out ?_; intro v' w2 ho2 e2 hk2; have HO2 : Hid (OwnPts w2 w.heap.size v' (ptsH xs (bts s) (k + 1))) := Lib.hid (by (rw [HPT.out, HN.out]; exact ho2)); have HT2 := Lib.hid (hk2 _ _ _ _ h_ne HT.out); obtain ⟨A1, A2, A3⟩ := two_cells HT2.out; have HE2 := Lib.hid e2; clear ho2 e2 hk2)
          go_roundw
          case rel => first | exact ⟨k + 1, x, y - sd, -1, 0, 2, by omega, by go_num, rfl, rfl, rfl, rfl, Lib.hid (.inr (.inr (.inl ⟨rfl, rfl, rfl⟩))), HN, HO2, HE2, HT2⟩ | ((repeat apply Exists.intro); exact ⟨⟨k + 1, x, y - sd, -1, 0, 2, by omega, by go_num, rfl, rfl, rfl, rfl, Lib.hid (.inr (.inr (.inl ⟨rfl, rfl, rfl⟩))), HN, HO2, HE2, HT2⟩, rfl⟩)
          case measure => (simp [intOf] <;> omega)
    · obtain rfl : k = n := by omega
      go_wp2
      go_ret
      exact RetPts.of_own HO.out HE.out
end Go.Proofs.YtaokeaiehjgbnaaDoor

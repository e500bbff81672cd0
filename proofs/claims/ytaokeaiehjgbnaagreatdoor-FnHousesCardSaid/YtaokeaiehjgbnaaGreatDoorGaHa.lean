/- A group of texts, one behind the other: House1, House2, House3, House4. -/
import Derived.Test.YtaokeaiehjgbnaaGreatDoorPts
import Derived.Test.YtaokeaiehjgbnaaGreatDoorHouseMath
import Derived.Test.YtaokeaiehjgbnaaGreatDoorCourse
import Derived.Test.YtaokeaiehjgbnaaGreatDoorBasic
import Derived.Lib.Bytealg
/- The places of the corners of a plan: both sides. -/
namespace Go.Proofs.YtaokeaiehjgbnaaGreatDoor
open Go.RowKit
set_option linter.unusedSimpArgs false
set_option linter.unusedVariables false
set_option linter.unnecessarySimpa false

theorem ints_cap {w : World} {base n c : Nat} {ao : Option Addr} {xs : List Int} (h : OwnInts 2 w base (.slice ao n c) xs) : n ≤ c := by
  rcases h.1.2 with ⟨hv, h0⟩ | ⟨g, cap, cur, hv, hg, hh, hc, r⟩
  · simp only [Value.slice.injEq] at hv; omega
  · simp only [Value.slice.injEq] at hv
    obtain ⟨_, h2, h3⟩ := hv
    omega
theorem byte_get (s : ByteArray) (k : Nat) (h : k < s.size) : (bts s).getD k 0 = s[k] := by
  obtain ⟨h1, h2⟩ := byte_at s k h
  rw [List.getD_eq_getElem?_getD, List.getElem?_eq_getElem h1, Option.getD_some]
  exact h2
theorem stepH_0 (x y s : Int) (b : UInt8) : stepH (x, y, 0) s b = (x + s, y, if b = 76 then 1 else 3) := by unfold stepH dX dY; simp
theorem stepH_1 (x y s : Int) (b : UInt8) : stepH (x, y, 1) s b = (x, y + s, if b = 76 then 2 else 0) := by unfold stepH dX dY; simp
theorem stepH_2 (x y s : Int) (b : UInt8) : stepH (x, y, 2) s b = (x - s, y, if b = 76 then 3 else 1) := by unfold stepH dX dY; simp; omega
theorem stepH_3 (x y s : Int) (b : UInt8) : stepH (x, y, 3) s b = (x, y - s, if b = 76 then 0 else 2) := by unfold stepH dX dY; simp; omega
theorem u8_eqH {b : UInt8} {k : Nat} (hk : k < 256) (h : b = UInt8.ofNat k) : ((b.toNat : Int) == (k : Int)) = true := by
  subst h; simp; omega
theorem u8_ne {b : UInt8} {k : Nat} (hk : k < 256) (h : b ≠ UInt8.ofNat k) : ((b.toNat : Int) == (k : Int)) = false := by
  rw [beq_eq_false_iff_ne]
  intro e
  apply h
  apply UInt8.toNat_inj.1
  rw [UInt8.toNat_ofNat', Nat.mod_eq_of_lt hk]
  omega
theorem h_ne : (26 : TypeId) ≠ 24 := by decide
set_option maxRecDepth 100000 in
set_option maxHeartbeats 4000000 in
theorem i_corners (ao : Option Addr) (n c : Nat) (xs : List Int) (s : ByteArray) (w : World) (hx : Ints w ao n xs) (hs : s.size = n) (n12 : n ≤ 12) (hb : ∀ x ∈ xs, 8 ≤ x ∧ x ≤ 200) :
    Calls Tryz.prog 33 #[.agg #[.slice ao n c, .string s]] w (RetPts (ptsH xs (bts s) n) w) := by
  have hxl := hx.1
  have HBd := Lib.hid (fun k (h : k ≤ xs.length) => pt_bd (bts s) hb (by omega) k h)
  have HSd := Lib.hid (fun k (h : k < xs.length) => sides_at hb k h)
  have HStep : Hid (∀ k, stH xs (bts s) (k + 1) = stepH (stH xs (bts s) k) (xs.getD k 0) ((bts s).getD k 0)) := Lib.hid (fun k => rfl)
  have HWay := Lib.hid (fun k => way_bd xs (bts s) k)
  have HPt := Lib.hid (fun k => ptsH_succ xs (bts s) k)
  have HX := Lib.hid hx
  have HL := Lib.hid hxl
  have HSz := Lib.hid hs
  have e1 : Ext w (w.alloc (.cells #[.slice ao n c, .string s] 26)) := (Ext.refl w).alloc _
  have HF := Lib.hid (OwnPts.first 0 0 e1)
  rw [World.size_alloc] at HF
  have HE0 := Lib.hid ((e1.alloc (.cells #[.int .i64 0, .int .i64 0] 2)).alloc (.cells #[slV (w.heap.size + 1)] 24))
  have A : (((w.alloc (.cells #[.slice ao n c, .string s] 26)).alloc (.cells #[.int .i64 0, .int .i64 0] 2)).alloc (.cells #[slV (w.heap.size + 1)] 24)).heap[w.heap.size]? = some (.cells #[.slice ao n c, .string s] 26 (0, 0)) := (((Ext.refl _).alloc _).alloc _).block (heap_alloc_new w _)
  have HA := Lib.hid A
  clear hx hxl hs hb e1 A
  go_enter Tryz.func33, Tryz.ntmps33
  go_wp2
  go_loopw [3, 4, 5, 6, 7, 15] (fun v vx vy vdx vdy i wr => ∃ (k : Nat) (x y dx dy wy : Int), k ≤ n ∧ i = .int .i64 k ∧ vx = .int .i64 x ∧ vy = .int .i64 y ∧ vdx = .int .i64 dx ∧ vdy = .int .i64 dy ∧ Hid ((wy = 0 ∧ dx = 1 ∧ dy = 0) ∨ (wy = 1 ∧ dx = 0 ∧ dy = 1) ∨ (wy = 2 ∧ dx = -1 ∧ dy = 0) ∨ (wy = 3 ∧ dx = 0 ∧ dy = -1)) ∧ Hid (stH xs (bts s) k = (x, y, wy)) ∧ Hid (OwnPts wr w.heap.size v (ptsH xs (bts s) k)) ∧ Hid (Ext w wr) ∧ Hid (wr.heap[w.heap.size]? = some (.cells #[.slice ao n c, .string s] 26 (0, 0)))) (fun _ _ _ _ _ i _ => n - (intOf i).toNat)
  case atStart => exact ⟨0, 0, 0, 1, 0, 0, Nat.zero_le _, rfl, rfl, rfl, rfl, rfl, Lib.hid (.inl ⟨rfl, rfl, rfl⟩), Lib.hid rfl, HF, HE0, HA⟩
  case round =>
    obtain ⟨k, x, y, dx, dy, wy, hk, rfl, rfl, rfl, rfl, rfl, HD, HS, HO, HE, HT⟩ := hrel
    clear HF HE0 HA
    obtain ⟨v3, c3, hv3⟩ := HO.out.slice
    obtain rfl := hv3
    have hpl : (ptsH xs (bts s) k).length ≤ 1000000 := by rw [ptsH_len]; omega
    by_cases hlt : k < n
    · obtain ⟨bb, off, rfl, d0⟩ := (HX.out.ext HE.out).2.2.1 k hlt
      obtain ⟨A1, A2, A3⟩ := two_cells HT.out
      have hbd := HBd.out k (by have := HL.out; omega)
      have hsd := HSd.out k (by have := HL.out; omega)
      have hst := HStep.out k
      have hks : k < s.size := by have := HSz.out; omega
      rw [byte_get s k hks, HS.out] at hst
      rw [HS.out] at hbd
      have hx1 : -2400 ≤ x ∧ x ≤ 2400 ∧ -2400 ≤ y ∧ y ≤ 2400 := hbd
      obtain ⟨sd, hsde⟩ : ∃ sd, xs.getD k 0 = sd := ⟨_, rfl⟩
      rw [hsde] at d0 hsd hst
      obtain ⟨b, hidx⟩ : ∃ b, s[k] = b := ⟨_, rfl⟩
      rw [hidx] at hst
      have hpt := HPt.out k
      unfold ptH at hpt
      have HST := Lib.hid hst
      have HPT := Lib.hid hpt
      have HP0 := Lib.hid hpl
      clear hbd hst hpt hsde hpl
      rcases HD.out with ⟨rfl, rfl, rfl⟩ | ⟨rfl, rfl, rfl⟩ | ⟨rfl, rfl, rfl⟩ | ⟨rfl, rfl, rfl⟩
      · by_cases h76 : b = 76
        · have t76 : ((b.toNat : Int) == 76) = true := u8_eqH (k := 76) (by decide) h76
          have HN : Hid (stH xs (bts s) (k + 1) = (x + sd, y, 1)) := Lib.hid (by rw [HST.out, stepH_0, if_pos h76])
          clear h76
          go_wp2_with (at_builtin; refine wpList_append_pt (W := w) rfl (.tmp 30) (.tmp 34) rfl _ (ptsH xs (bts s) k) (x + sd) (y) rfl rfl rfl HO.out HE.out HP0.out ?_; intro v' w2 ho2 e2 hk2; have HO2 : Hid (OwnPts w2 w.heap.size v' (ptsH xs (bts s) (k + 1))) := Lib.hid (by (rw [HPT.out, HN.out]; exact ho2)); have HT2 := Lib.hid (hk2 _ _ _ _ h_ne HT.out); obtain ⟨A1, A2, A3⟩ := two_cells HT2.out; have HE2 := Lib.hid e2; clear ho2 e2 hk2)
          go_roundw
          case rel => first | exact ⟨k + 1, x + sd, y, 0, 1, 1, by omega, by go_num, rfl, rfl, rfl, rfl, Lib.hid (.inr (.inl ⟨rfl, rfl, rfl⟩)), HN, HO2, HE2, HT2⟩ | ((repeat apply Exists.intro); exact ⟨⟨k + 1, x + sd, y, 0, 1, 1, by omega, by go_num, rfl, rfl, rfl, rfl, Lib.hid (.inr (.inl ⟨rfl, rfl, rfl⟩)), HN, HO2, HE2, HT2⟩, rfl⟩)
          case measure => (simp [intOf] <;> omega)
        · have t76 : ((b.toNat : Int) == 76) = false := u8_ne (k := 76) (by decide) h76
          have HN : Hid (stH xs (bts s) (k + 1) = (x + sd, y, 3)) := Lib.hid (by rw [HST.out, stepH_0, if_neg h76])
          clear h76
          go_wp2_with (at_builtin; refine wpList_append_pt (W := w) rfl (.tmp 30) (.tmp 34) rfl _ (ptsH xs (bts s) k) (x + sd) (y) rfl rfl rfl HO.out HE.out HP0.out ?_; intro v' w2 ho2 e2 hk2; have HO2 : Hid (OwnPts w2 w.heap.size v' (ptsH xs (bts s) (k + 1))) := Lib.hid (by (rw [HPT.out, HN.out]; exact ho2)); have HT2 := Lib.hid (hk2 _ _ _ _ h_ne HT.out); obtain ⟨A1, A2, A3⟩ := two_cells HT2.out; have HE2 := Lib.hid e2; clear ho2 e2 hk2)
          go_roundw
          case rel => first | exact ⟨k + 1, x + sd, y, 0, -1, 3, by omega, by go_num, rfl, rfl, rfl, rfl, Lib.hid (.inr (.inr (.inr ⟨rfl, rfl, rfl⟩))), HN, HO2, HE2, HT2⟩ | ((repeat apply Exists.intro); exact ⟨⟨k + 1, x + sd, y, 0, -1, 3, by omega, by go_num, rfl, rfl, rfl, rfl, Lib.hid (.inr (.inr (.inr ⟨rfl, rfl, rfl⟩))), HN, HO2, HE2, HT2⟩, rfl⟩)
          case measure => (simp [intOf] <;> omega)
      · by_cases h76 : b = 76
        · have t76 : ((b.toNat : Int) == 76) = true := u8_eqH (k := 76) (by decide) h76
          have HN : Hid (stH xs (bts s) (k + 1) = (x, y + sd, 2)) := Lib.hid (by rw [HST.out, stepH_1, if_pos h76])
          clear h76
          go_wp2_with (at_builtin; refine wpList_append_pt (W := w) rfl (.tmp 30) (.tmp 34) rfl _ (ptsH xs (bts s) k) (x) (y + sd) rfl rfl rfl HO.out HE.out HP0.out ?_; intro v' w2 ho2 e2 hk2; have HO2 : Hid (OwnPts w2 w.heap.size v' (ptsH xs (bts s) (k + 1))) := Lib.hid (by (rw [HPT.out, HN.out]; exact ho2)); have HT2 := Lib.hid (hk2 _ _ _ _ h_ne HT.out); obtain ⟨A1, A2, A3⟩ := two_cells HT2.out; have HE2 := Lib.hid e2; clear ho2 e2 hk2)
          go_roundw
          case rel => first | exact ⟨k + 1, x, y + sd, -1, 0, 2, by omega, by go_num, rfl, rfl, rfl, rfl, Lib.hid (.inr (.inr (.inl ⟨rfl, rfl, rfl⟩))), HN, HO2, HE2, HT2⟩ | ((repeat apply Exists.intro); exact ⟨⟨k + 1, x, y + sd, -1, 0, 2, by omega, by go_num, rfl, rfl, rfl, rfl, Lib.hid (.inr (.inr (.inl ⟨rfl, rfl, rfl⟩))), HN, HO2, HE2, HT2⟩, rfl⟩)
          case measure => (simp [intOf] <;> omega)
        · have t76 : ((b.toNat : Int) == 76) = false := u8_ne (k := 76) (by decide) h76
          have HN : Hid (stH xs (bts s) (k + 1) = (x, y + sd, 0)) := Lib.hid (by rw [HST.out, stepH_1, if_neg h76])
          clear h76
          go_wp2_with (at_builtin; refine wpList_append_pt (W := w) rfl (.tmp 30) (.tmp 34) rfl _ (ptsH xs (bts s) k) (x) (y + sd) rfl rfl rfl HO.out HE.out HP0.out ?_; intro v' w2 ho2 e2 hk2; have HO2 : Hid (OwnPts w2 w.heap.size v' (ptsH xs (bts s) (k + 1))) := Lib.hid (by (rw [HPT.out, HN.out]; exact ho2)); have HT2 := Lib.hid (hk2 _ _ _ _ h_ne HT.out); obtain ⟨A1, A2, A3⟩ := two_cells HT2.out; have HE2 := Lib.hid e2; clear ho2 e2 hk2)
          go_roundw
          case rel => first | exact ⟨k + 1, x, y + sd, 1, 0, 0, by omega, by go_num, rfl, rfl, rfl, rfl, Lib.hid (.inl ⟨rfl, rfl, rfl⟩), HN, HO2, HE2, HT2⟩ | ((repeat apply Exists.intro); exact ⟨⟨k + 1, x, y + sd, 1, 0, 0, by omega, by go_num, rfl, rfl, rfl, rfl, Lib.hid (.inl ⟨rfl, rfl, rfl⟩), HN, HO2, HE2, HT2⟩, rfl⟩)
          case measure => (simp [intOf] <;> omega)
      · by_cases h76 : b = 76
        · have t76 : ((b.toNat : Int) == 76) = true := u8_eqH (k := 76) (by decide) h76
          have HN : Hid (stH xs (bts s) (k + 1) = (x - sd, y, 3)) := Lib.hid (by rw [HST.out, stepH_2, if_pos h76])
          clear h76
          go_wp2_with (at_builtin; refine wpList_append_pt (W := w) rfl (.tmp 30) (.tmp 34) rfl _ (ptsH xs (bts s) k) (x - sd) (y) rfl rfl rfl HO.out HE.out HP0.out ?_; intro v' w2 ho2 e2 hk2; have HO2 : Hid (OwnPts w2 w.heap.size v' (ptsH xs (bts s) (k + 1))) := Lib.hid (by (rw [HPT.out, HN.out]; exact ho2)); have HT2 := Lib.hid (hk2 _ _ _ _ h_ne HT.out); obtain ⟨A1, A2, A3⟩ := two_cells HT2.out; have HE2 := Lib.hid e2; clear ho2 e2 hk2)
          go_roundw
          case rel => first | exact ⟨k + 1, x - sd, y, 0, -1, 3, by omega, by go_num, rfl, rfl, rfl, rfl, Lib.hid (.inr (.inr (.inr ⟨rfl, rfl, rfl⟩))), HN, HO2, HE2, HT2⟩ | ((repeat apply Exists.intro); exact ⟨⟨k + 1, x - sd, y, 0, -1, 3, by omega, by go_num, rfl, rfl, rfl, rfl, Lib.hid (.inr (.inr (.inr ⟨rfl, rfl, rfl⟩))), HN, HO2, HE2, HT2⟩, rfl⟩)
          case measure => (simp [intOf] <;> omega)
        · have t76 : ((b.toNat : Int) == 76) = false := u8_ne (k := 76) (by decide) h76
          have HN : Hid (stH xs (bts s) (k + 1) = (x - sd, y, 1)) := Lib.hid (by rw [HST.out, stepH_2, if_neg h76])
          clear h76
          go_wp2_with (at_builtin; refine wpList_append_pt (W := w) rfl (.tmp 30) (.tmp 34) rfl _ (ptsH xs (bts s) k) (x - sd) (y) rfl rfl rfl HO.out HE.out HP0.out ?_; intro v' w2 ho2 e2 hk2; have HO2 : Hid (OwnPts w2 w.heap.size v' (ptsH xs (bts s) (k + 1))) := Lib.hid (by (rw [HPT.out, HN.out]; exact ho2)); have HT2 := Lib.hid (hk2 _ _ _ _ h_ne HT.out); obtain ⟨A1, A2, A3⟩ := two_cells HT2.out; have HE2 := Lib.hid e2; clear ho2 e2 hk2)
          go_roundw
          case rel => first | exact ⟨k + 1, x - sd, y, 0, 1, 1, by omega, by go_num, rfl, rfl, rfl, rfl, Lib.hid (.inr (.inl ⟨rfl, rfl, rfl⟩)), HN, HO2, HE2, HT2⟩ | ((repeat apply Exists.intro); exact ⟨⟨k + 1, x - sd, y, 0, 1, 1, by omega, by go_num, rfl, rfl, rfl, rfl, Lib.hid (.inr (.inl ⟨rfl, rfl, rfl⟩)), HN, HO2, HE2, HT2⟩, rfl⟩)
          case measure => (simp [intOf] <;> omega)
      · by_cases h76 : b = 76
        · have t76 : ((b.toNat : Int) == 76) = true := u8_eqH (k := 76) (by decide) h76
          have HN : Hid (stH xs (bts s) (k + 1) = (x, y - sd, 0)) := Lib.hid (by rw [HST.out, stepH_3, if_pos h76])
          clear h76
          go_wp2_with (at_builtin; refine wpList_append_pt (W := w) rfl (.tmp 30) (.tmp 34) rfl _ (ptsH xs (bts s) k) (x) (y - sd) rfl rfl rfl HO.out HE.out HP0.out ?_; intro v' w2 ho2 e2 hk2; have HO2 : Hid (OwnPts w2 w.heap.size v' (ptsH xs (bts s) (k + 1))) := Lib.hid (by (rw [HPT.out, HN.out]; exact ho2)); have HT2 := Lib.hid (hk2 _ _ _ _ h_ne HT.out); obtain ⟨A1, A2, A3⟩ := two_cells HT2.out; have HE2 := Lib.hid e2; clear ho2 e2 hk2)
          go_roundw
          case rel => first | exact ⟨k + 1, x, y - sd, 1, 0, 0, by omega, by go_num, rfl, rfl, rfl, rfl, Lib.hid (.inl ⟨rfl, rfl, rfl⟩), HN, HO2, HE2, HT2⟩ | ((repeat apply Exists.intro); exact ⟨⟨k + 1, x, y - sd, 1, 0, 0, by omega, by go_num, rfl, rfl, rfl, rfl, Lib.hid (.inl ⟨rfl, rfl, rfl⟩), HN, HO2, HE2, HT2⟩, rfl⟩)
          case measure => (simp [intOf] <;> omega)
        · have t76 : ((b.toNat : Int) == 76) = false := u8_ne (k := 76) (by decide) h76
          have HN : Hid (stH xs (bts s) (k + 1) = (x, y - sd, 2)) := Lib.hid (by rw [HST.out, stepH_3, if_neg h76])
          clear h76
          go_wp2_with (at_builtin; refine wpList_append_pt (W := w) rfl (.tmp 30) (.tmp 34) rfl _ (ptsH xs (bts s) k) (x) (y - sd) rfl rfl rfl HO.out HE.out HP0.out ?_; intro v' w2 ho2 e2 hk2; have HO2 : Hid (OwnPts w2 w.heap.size v' (ptsH xs (bts s) (k + 1))) := Lib.hid (by (rw [HPT.out, HN.out]; exact ho2)); have HT2 := Lib.hid (hk2 _ _ _ _ h_ne HT.out); obtain ⟨A1, A2, A3⟩ := two_cells HT2.out; have HE2 := Lib.hid e2; clear ho2 e2 hk2)
          go_roundw
          case rel => first | exact ⟨k + 1, x, y - sd, -1, 0, 2, by omega, by go_num, rfl, rfl, rfl, rfl, Lib.hid (.inr (.inr (.inl ⟨rfl, rfl, rfl⟩))), HN, HO2, HE2, HT2⟩ | ((repeat apply Exists.intro); exact ⟨⟨k + 1, x, y - sd, -1, 0, 2, by omega, by go_num, rfl, rfl, rfl, rfl, Lib.hid (.inr (.inr (.inl ⟨rfl, rfl, rfl⟩))), HN, HO2, HE2, HT2⟩, rfl⟩)
          case measure => (simp [intOf] <;> omega)
    · obtain rfl : k = n := by omega
      go_wp2
      go_ret
      exact RetPts.of_own HO.out HE.out
end Go.Proofs.YtaokeaiehjgbnaaGreatDoor

/- The places of the corners of a plan on the reference's side, and what makes a plan valid: both sides. -/
namespace Go.Proofs.YtaokeaiehjgbnaaGreatDoor
open Go.RowKit
set_option linter.unusedSimpArgs false
set_option linter.unusedVariables false
set_option linter.unnecessarySimpa false

set_option maxRecDepth 100000 in
set_option maxHeartbeats 4000000 in
theorem s_l07Points (pb : Nat) (ao : Option Addr) (n c : Nat) (xs : List Int) (s : ByteArray) (w : World) (hB : Two w pb (.slice ao n c) (.string s)) (hx : Ints w ao n xs) (hs : s.size = n) (n12 : n ≤ 12) (hb : ∀ x ∈ xs, 8 ≤ x ∧ x ≤ 200) :
    Calls Tryz.prog 34 #[.pointer (some ⟨pb, 0, none⟩)] w (RetPts (ptsH xs (bts s) n) w) := by
  have hxl := hx.1
  have HBd := Lib.hid (fun k (h : k ≤ xs.length) => pt_bd (bts s) hb (by omega) k h)
  have HSd := Lib.hid (fun k (h : k < xs.length) => sides_at hb k h)
  have HStep : Hid (∀ k, stH xs (bts s) (k + 1) = stepH (stH xs (bts s) k) (xs.getD k 0) ((bts s).getD k 0)) := Lib.hid (fun k => rfl)
  have HWay := Lib.hid (fun k => way_bd xs (bts s) k)
  have HPt := Lib.hid (fun k => ptsH_succ xs (bts s) k)
  have HX := Lib.hid hx
  have HL := Lib.hid hxl
  have HSz := Lib.hid hs
  have HF := Lib.hid (OwnPts.first 0 0 (Ext.refl w))
  have HE0 := Lib.hid (((Ext.refl w).alloc (.cells #[.int .i64 0, .int .i64 0] 2)).alloc (.cells #[slV w.heap.size] 24))
  have HB0 := Lib.hid hB
  clear hx hxl hs hb hB
  go_enter Tryz.func34, Tryz.ntmps34
  go_wp2
  go_loopw [3, 4, 5, 6, 7] (fun v vx vy vw i wr => ∃ (k : Nat) (x y wy : Int), k ≤ n ∧ i = .int .i64 k ∧ vx = .int .i64 x ∧ vy = .int .i64 y ∧ vw = .int .i64 wy ∧ Hid (stH xs (bts s) k = (x, y, wy)) ∧ Hid (OwnPts wr w.heap.size v (ptsH xs (bts s) k)) ∧ Hid (Ext w wr)) (fun _ _ _ _ i _ => n - (intOf i).toNat)
  case atStart => exact ⟨0, 0, 0, 0, Nat.zero_le _, rfl, rfl, rfl, rfl, Lib.hid rfl, HF, HE0⟩
  case round =>
    obtain ⟨k, x, y, wy, hk, rfl, rfl, rfl, rfl, HS, HO, HE⟩ := hrel
    clear HF HE0
    obtain ⟨v3, c3, hv3⟩ := HO.out.slice
    obtain rfl := hv3
    have hpl : (ptsH xs (bts s) k).length ≤ 1000000 := by rw [ptsH_len]; omega
    have HB := Lib.hid (HB0.out.ext HE.out)
    obtain ⟨A1, A2, A3⟩ := HB.out
    by_cases hlt : k < n
    · obtain ⟨bb, off, rfl, d0⟩ := (HX.out.ext HE.out).2.2.1 k hlt
      have hbd := HBd.out k (by have := HL.out; omega)
      have hsd := HSd.out k (by have := HL.out; omega)
      have hst := HStep.out k
      have hwy := HWay.out k
      have hks : k < s.size := by have := HSz.out; omega
      rw [byte_get s k hks, HS.out] at hst
      rw [HS.out] at hbd hwy
      have hx1 : -2400 ≤ x ∧ x ≤ 2400 ∧ -2400 ≤ y ∧ y ≤ 2400 := hbd
      obtain ⟨sd, hsde⟩ : ∃ sd, xs.getD k 0 = sd := ⟨_, rfl⟩
      rw [hsde] at d0 hsd hst
      obtain ⟨b, hidx⟩ : ∃ b, s[k] = b := ⟨_, rfl⟩
      rw [hidx] at hst
      have hpt := HPt.out k
      unfold ptH at hpt
      have HST := Lib.hid hst
      have HPT := Lib.hid hpt
      have HP0 := Lib.hid hpl
      clear hbd hst hpt hsde hpl
      replace hwy : wy = 0 ∨ wy = 1 ∨ wy = 2 ∨ wy = 3 := hwy
      rcases hwy with rfl | rfl | rfl | rfl
      · by_cases h76 : b = 76
        · have t76 : ((b.toNat : Int) == 76) = true := u8_eqH (k := 76) (by decide) h76
          have HN : Hid (stH xs (bts s) (k + 1) = (x + sd, y, 1)) := Lib.hid (by rw [HST.out, stepH_0, if_pos h76])
          clear h76
          go_wp2_with (at_builtin; refine wpList_append_pt (W := w) rfl (.tmp 64) (.tmp 68) rfl _ (ptsH xs (bts s) k) (x + sd) (y) rfl rfl rfl HO.out HE.out HP0.out ?_; intro v' w2 ho2 e2 _; have HO2 : Hid (OwnPts w2 w.heap.size v' (ptsH xs (bts s) (k + 1))) := Lib.hid (by (rw [HPT.out, HN.out]; exact ho2)); obtain ⟨A1, A2, A3⟩ := HB0.out.ext e2; have HE2 := Lib.hid e2; clear ho2 e2)
          go_roundw
          case rel => first | exact ⟨k + 1, x + sd, y, 1, by omega, by go_num, rfl, rfl, by (first | rfl | go_num), HN, HO2, HE2⟩ | ((repeat apply Exists.intro); exact ⟨⟨k + 1, x + sd, y, 1, by omega, by go_num, rfl, rfl, by (first | rfl | go_num), HN, HO2, HE2⟩, rfl⟩)
          case measure => (simp [intOf] <;> omega)
        · have t76 : ((b.toNat : Int) == 76) = false := u8_ne (k := 76) (by decide) h76
          have HN : Hid (stH xs (bts s) (k + 1) = (x + sd, y, 3)) := Lib.hid (by rw [HST.out, stepH_0, if_neg h76])
          clear h76
          go_wp2_with (at_builtin; refine wpList_append_pt (W := w) rfl (.tmp 64) (.tmp 68) rfl _ (ptsH xs (bts s) k) (x + sd) (y) rfl rfl rfl HO.out HE.out HP0.out ?_; intro v' w2 ho2 e2 _; have HO2 : Hid (OwnPts w2 w.heap.size v' (ptsH xs (bts s) (k + 1))) := Lib.hid (by (rw [HPT.out, HN.out]; exact ho2)); obtain ⟨A1, A2, A3⟩ := HB0.out.ext e2; have HE2 := Lib.hid e2; clear ho2 e2)
          go_roundw
          case rel => first | exact ⟨k + 1, x + sd, y, 3, by omega, by go_num, rfl, rfl, by (first | rfl | go_num), HN, HO2, HE2⟩ | ((repeat apply Exists.intro); exact ⟨⟨k + 1, x + sd, y, 3, by omega, by go_num, rfl, rfl, by (first | rfl | go_num), HN, HO2, HE2⟩, rfl⟩)
          case measure => (simp [intOf] <;> omega)
      · by_cases h76 : b = 76
        · have t76 : ((b.toNat : Int) == 76) = true := u8_eqH (k := 76) (by decide) h76
          have HN : Hid (stH xs (bts s) (k + 1) = (x, y + sd, 2)) := Lib.hid (by rw [HST.out, stepH_1, if_pos h76])
          clear h76
          go_wp2_with (at_builtin; refine wpList_append_pt (W := w) rfl (.tmp 64) (.tmp 68) rfl _ (ptsH xs (bts s) k) (x) (y + sd) rfl rfl rfl HO.out HE.out HP0.out ?_; intro v' w2 ho2 e2 _; have HO2 : Hid (OwnPts w2 w.heap.size v' (ptsH xs (bts s) (k + 1))) := Lib.hid (by (rw [HPT.out, HN.out]; exact ho2)); obtain ⟨A1, A2, A3⟩ := HB0.out.ext e2; have HE2 := Lib.hid e2; clear ho2 e2)
          go_roundw
          case rel => first | exact ⟨k + 1, x, y + sd, 2, by omega, by go_num, rfl, rfl, by (first | rfl | go_num), HN, HO2, HE2⟩ | ((repeat apply Exists.intro); exact ⟨⟨k + 1, x, y + sd, 2, by omega, by go_num, rfl, rfl, by (first | rfl | go_num), HN, HO2, HE2⟩, rfl⟩)
          case measure => (simp [intOf] <;> omega)
        · have t76 : ((b.toNat : Int) == 76) = false := u8_ne (k := 76) (by decide) h76
          have HN : Hid (stH xs (bts s) (k + 1) = (x, y + sd, 0)) := Lib.hid (by rw [HST.out, stepH_1, if_neg h76])
          clear h76
          go_wp2_with (at_builtin; refine wpList_append_pt (W := w) rfl (.tmp 64) (.tmp 68) rfl _ (ptsH xs (bts s) k) (x) (y + sd) rfl rfl rfl HO.out HE.out HP0.out ?_; intro v' w2 ho2 e2 _; have HO2 : Hid (OwnPts w2 w.heap.size v' (ptsH xs (bts s) (k + 1))) := Lib.hid (by (rw [HPT.out, HN.out]; exact ho2)); obtain ⟨A1, A2, A3⟩ := HB0.out.ext e2; have HE2 := Lib.hid e2; clear ho2 e2)
          go_roundw
          case rel => first | exact ⟨k + 1, x, y + sd, 0, by omega, by go_num, rfl, rfl, by (first | rfl | go_num), HN, HO2, HE2⟩ | ((repeat apply Exists.intro); exact ⟨⟨k + 1, x, y + sd, 0, by omega, by go_num, rfl, rfl, by (first | rfl | go_num), HN, HO2, HE2⟩, rfl⟩)
          case measure => (simp [intOf] <;> omega)
      · by_cases h76 : b = 76
        · have t76 : ((b.toNat : Int) == 76) = true := u8_eqH (k := 76) (by decide) h76
          have HN : Hid (stH xs (bts s) (k + 1) = (x - sd, y, 3)) := Lib.hid (by rw [HST.out, stepH_2, if_pos h76])
          clear h76
          go_wp2_with (at_builtin; refine wpList_append_pt (W := w) rfl (.tmp 64) (.tmp 68) rfl _ (ptsH xs (bts s) k) (x - sd) (y) rfl rfl rfl HO.out HE.out HP0.out ?_; intro v' w2 ho2 e2 _; have HO2 : Hid (OwnPts w2 w.heap.size v' (ptsH xs (bts s) (k + 1))) := Lib.hid (by (rw [HPT.out, HN.out]; exact ho2)); obtain ⟨A1, A2, A3⟩ := HB0.out.ext e2; have HE2 := Lib.hid e2; clear ho2 e2)
          go_roundw
          case rel => first | exact ⟨k + 1, x - sd, y, 3, by omega, by go_num, rfl, rfl, by (first | rfl | go_num), HN, HO2, HE2⟩ | ((repeat apply Exists.intro); exact ⟨⟨k + 1, x - sd, y, 3, by omega, by go_num, rfl, rfl, by (first | rfl | go_num), HN, HO2, HE2⟩, rfl⟩)
          case measure => (simp [intOf] <;> omega)
        · have t76 : ((b.toNat : Int) == 76) = false := u8_ne (k := 76) (by decide) h76
          have HN : Hid (stH xs (bts s) (k + 1) = (x - sd, y, 1)) := Lib.hid (by rw [HST.out, stepH_2, if_neg h76])
          clear h76
          go_wp2_with (at_builtin; refine wpList_append_pt (W := w) rfl (.tmp 64) (.tmp 68) rfl _ (ptsH xs (bts s) k) (x - sd) (y) rfl rfl rfl HO.out HE.out HP0.out ?_; intro v' w2 ho2 e2 _; have HO2 : Hid (OwnPts w2 w.heap.size v' (ptsH xs (bts s) (k + 1))) := Lib.hid (by (rw [HPT.out, HN.out]; exact ho2)); obtain ⟨A1, A2, A3⟩ := HB0.out.ext e2; have HE2 := Lib.hid e2; clear ho2 e2)
          go_roundw
          case rel => first | exact ⟨k + 1, x - sd, y, 1, by omega, by go_num, rfl, rfl, by (first | rfl | go_num), HN, HO2, HE2⟩ | ((repeat apply Exists.intro); exact ⟨⟨k + 1, x - sd, y, 1, by omega, by go_num, rfl, rfl, by (first | rfl | go_num), HN, HO2, HE2⟩, rfl⟩)
          case measure => (simp [intOf] <;> omega)
      · by_cases h76 : b = 76
        · have t76 : ((b.toNat : Int) == 76) = true := u8_eqH (k := 76) (by decide) h76
          have HN : Hid (stH xs (bts s) (k + 1) = (x, y - sd, 0)) := Lib.hid (by rw [HST.out, stepH_3, if_pos h76])
          clear h76
          go_wp2_with (at_builtin; refine wpList_append_pt (W := w) rfl (.tmp 64) (.tmp 68) rfl _ (ptsH xs (bts s) k) (x) (y - sd) rfl rfl rfl HO.out HE.out HP0.out ?_; intro v' w2 ho2 e2 _; have HO2 : Hid (OwnPts w2 w.heap.size v' (ptsH xs (bts s) (k + 1))) := Lib.hid (by (rw [HPT.out, HN.out]; exact ho2)); obtain ⟨A1, A2, A3⟩ := HB0.out.ext e2; have HE2 := Lib.hid e2; clear ho2 e2)
          go_roundw
          case rel => first | exact ⟨k + 1, x, y - sd, 0, by omega, by go_num, rfl, rfl, by (first | rfl | go_num), HN, HO2, HE2⟩ | ((repeat apply Exists.intro); exact ⟨⟨k + 1, x, y - sd, 0, by omega, by go_num, rfl, rfl, by (first | rfl | go_num), HN, HO2, HE2⟩, rfl⟩)
          case measure => (simp [intOf] <;> omega)
        · have t76 : ((b.toNat : Int) == 76) = false := u8_ne (k := 76) (by decide) h76
          have HN : Hid (stH xs (bts s) (k + 1) = (x, y - sd, 2)) := Lib.hid (by rw [HST.out, stepH_3, if_neg h76])
          clear h76
          go_wp2_with (at_builtin; refine wpList_append_pt (W := w) rfl (.tmp 64) (.tmp 68) rfl _ (ptsH xs (bts s) k) (x) (y - sd) rfl rfl rfl HO.out HE.out HP0.out ?_; intro v' w2 ho2 e2 _; have HO2 : Hid (OwnPts w2 w.heap.size v' (ptsH xs (bts s) (k + 1))) := Lib.hid (by (rw [HPT.out, HN.out]; exact ho2)); obtain ⟨A1, A2, A3⟩ := HB0.out.ext e2; have HE2 := Lib.hid e2; clear ho2 e2)
          go_roundw
          case rel => first | exact ⟨k + 1, x, y - sd, 2, by omega, by go_num, rfl, rfl, by (first | rfl | go_num), HN, HO2, HE2⟩ | ((repeat apply Exists.intro); exact ⟨⟨k + 1, x, y - sd, 2, by omega, by go_num, rfl, rfl, by (first | rfl | go_num), HN, HO2, HE2⟩, rfl⟩)
          case measure => (simp [intOf] <;> omega)
    · obtain rfl : k = n := by omega
      go_wp2
      go_ret
      exact RetPts.of_own HO.out HE.out
end Go.Proofs.YtaokeaiehjgbnaaGreatDoor

/- What makes a plan valid: both sides. -/
namespace Go.Proofs.YtaokeaiehjgbnaaGreatDoor
open Go.RowKit
set_option linter.unusedSimpArgs false
set_option linter.unusedVariables false
set_option linter.unnecessarySimpa false

theorem validH_nlen {xs : List Int} (t : List UInt8) {n : Nat} (hn : xs.length = n) (h : inB (n : Int) 4 12 = false) : validH xs t = false := by unfold validH; rw [hn, h]; rfl
theorem validH_ntxt {xs : List Int} {t : List UInt8} (h : t.length ≠ xs.length) : validH xs t = false := by
  cases h1 : validH xs t
  · rfl
  · exact absurd (validH_bd h1).2.2.2.1 h
theorem validH_nside {xs : List Int} (t : List UInt8) {k : Nat} (hk : k < xs.length) (h : inB (xs.getD k 0) 8 200 = false) : validH xs t = false := by
  cases h1 : validH xs t
  · rfl
  · have := sides_at (validH_bd h1).2.2.1 k hk
    rw [inB_iff.2 this] at h
    exact absurd h (by decide)
theorem validH_nlet (xs : List Int) {t : List UInt8} {k : Nat} (hk : k < t.length) (h : lrB (t.getD k 0) = false) : validH xs t = false := by
  cases h1 : validH xs t
  · rfl
  · have h2 := List.all_eq_true.1 (validH_bd h1).2.2.2.2 t[k] (List.getElem_mem _)
    rw [List.getD_eq_getElem?_getD, List.getElem?_eq_getElem hk, Option.getD_some, h2] at h
    exact absurd h (by decide)
theorem all_of {α : Type} (d : α) {l : List α} {p : α → Bool} {n : Nat} (hn : l.length = n) (h : ∀ j, j < n → p (l.getD j d) = true) : l.all p = true := by
  rw [List.all_eq_true]
  intro x hx
  obtain ⟨i, hi, rfl⟩ := List.mem_iff_getElem.1 hx
  have := h i (by omega)
  rwa [List.getD_eq_getElem?_getD, List.getElem?_eq_getElem hi, Option.getD_some] at this
theorem validH_end {xs : List Int} {t : List UInt8} {n : Nat} (hn : xs.length = n) (ht : t.length = n) (h1 : inB (n : Int) 4 12 = true) (h : ∀ j, j < n → inB (xs.getD j 0) 8 200 = true ∧ lrB (t.getD j 0) = true) :
    validH xs t = (decide (turnN t n = 4) && (decide ((ptH xs t n).1 = 0) && decide ((ptH xs t n).2 = 0))) := by
  unfold validH
  rw [hn, h1, all_of 0 hn (fun j hj => (h j hj).1), all_of 0 ht (fun j hj => (h j hj).2), ht]
  have h2 : decide (2 * (cntL t : Int) = n + 4) = decide (turnN t n = 4) := by
    unfold turnN
    rw [List.take_of_length_le (by omega)]
    apply decide_eq_decide.2
    omega
  rw [h2]
  simp only [decide_true, Bool.true_and, ptH]
  rfl
theorem cntL_le (t : List UInt8) : cntL t ≤ t.length := List.count_le_length
theorem run_countS (s : ByteArray) (c : Int) (w : World) : (callFunc 78 #[.string s, .int .u8 c]).run Tryz.prog w = .ok (.value (.int .i64 (Lib.countByte (bts s) c.toNat.toUInt8 : Nat))) w := by
  rw [run_callFunc_extern Tryz.func78 (by kernel_rfl) (by kernel_rfl) (by kernel_rfl) (e := Extern.BytealgCount.count) (by kernel_rfl), Lib.run_countString]
  rfl
set_option maxRecDepth 100000 in
theorem f_CountL (s : ByteArray) (w : World) : Calls Tryz.prog 57 #[.string s, .string ⟨#[76]⟩] w (RetV (.int .i64 (cntL (bts s) : Nat)) w) := by
  have h0 := run_countS s 76 w
  rw [show (76 : Int).toNat.toUInt8 = 76 from by decide, show Lib.countByte (bts s) 76 = cntL (bts s) from rfl] at h0
  have hr : (callFunc 78 #[.string s, .int .u8 (((⟨#[76]⟩ : ByteArray)[0]'(by decide)).toNat : Int)]).run Tryz.prog w = .ok (.value (.int .i64 (cntL (bts s) : Nat))) w := h0
  clear h0
  go_enter Tryz.func57, Tryz.ntmps57
  go_wp2
  go_ret
  exact RetV.mk rfl
theorem i_onlyOf_LR (s : ByteArray) (hs : s.size ≤ 9223372036854775807) (w : World) : Calls Tryz.prog 56 #[.string s, .string ⟨#[76, 82]⟩] w (RetV (.bool ((bts s).all lrB)) w) := by
  have h := i_onlyOf s ⟨#[76, 82]⟩ hs w
  rw [show bts ⟨#[76, 82]⟩ = [76, 82] from rfl] at h
  rwa [show inL [76, 82] = lrB from funext inL_LR] at h
set_option maxRecDepth 100000 in
set_option maxHeartbeats 2000000 in
theorem i_ValidHouse (ao : Option Addr) (n c : Nat) (xs : List Int) (s : ByteArray) (w : World) (hx : Ints w ao n xs) (hs : s.size ≤ 9223372036854775807) :
    Calls Tryz.prog 25 #[.agg #[.slice ao n c, .string s]] w (RetE (.bool (validH xs (bts s))) w) := by
  have hxm := hx.2.1
  have hv : validH xs (bts s) = (inB n 4 12 && (!(xs.any fun x => !inB x 8 200) && (decide (s.size = n) && ((bts s).all lrB && (decide (2 * (cntL (bts s) : Int) = n + 4) && (decide ((ptH xs (bts s) n).1 = 0) && decide ((ptH xs (bts s) n).2 = 0))))))) := by
    unfold validH
    rw [bts_length, hx.1]
    have h1 : (!(xs.any fun x => !inB x 8 200)) = (xs.all fun x => inB x 8 200) := by rw [List.not_any_eq_all_not]; simp
    rw [h1]
    rfl
  have HV := Lib.hid hv
  have e0 : Ext w (w.alloc (.cells #[.slice ao n c, .string s] 26)) := (Ext.refl w).alloc _
  have HX := Lib.hid hx
  have HX0 := Lib.hid (hx.ext e0)
  have HL := Lib.hid hx.1
  obtain ⟨m, hm⟩ : ∃ m, cntL (bts s) = m := ⟨_, rfl⟩
  have hmn : m ≤ s.size := by have := cntL_le (bts s); rw [hm, bts_length] at this; exact this
  clear hx hv
  obtain ⟨b1, g1⟩ : ∃ b, inB (n : Int) 4 12 = b := ⟨_, rfl⟩
  obtain ⟨b2, g2⟩ : ∃ b, (xs.any fun x => !inB x 8 200) = b := ⟨_, rfl⟩
  obtain ⟨b4, g4⟩ : ∃ b, (bts s).all lrB = b := ⟨_, rfl⟩
  cases b1
  · go_enter Tryz.func25, Tryz.ntmps25
    go_wp2_with (first | (go_at_call 54; refine (i_within _ _ _ _).mono ?_; rw [g1]; rintro e w' ⟨rfl, rfl⟩))
    go_ret
    exact RetE.mk (bool_eq (by rw [HV.out, g1]; rfl)) e0
  · have ⟨h1, h2⟩ := inB_iff.1 g1
    cases b2
    case true =>
      go_enter Tryz.func25, Tryz.ntmps25
      go_wp2_with (first | (go_at_call 54; refine (i_within _ _ _ _).mono ?_; rw [g1]; rintro e w' ⟨rfl, rfl⟩) | (go_at_call 55; refine (i_outside _ _ _ _ _ _ _ HX0.out).mono ?_; rw [g2]; rintro e w1 ⟨rfl, e1⟩; obtain ⟨p0, p1, p2, p3, p4⟩ := two_cells (e1.block (heap_alloc_new w _)); have E1 := Lib.hid (e0.trans e1)))
      go_ret
      exact RetE.mk (bool_eq (by rw [HV.out, g1, g2]; rfl)) E1.out
    case false =>
      have HBX : Hid (∀ x ∈ xs, 8 ≤ x ∧ x ≤ 200) := Lib.hid (fun x hx => by have := List.any_eq_false.1 g2 x hx; simp only [Bool.not_eq_true', Bool.not_eq_false] at this; exact inB_iff.1 this)
      by_cases g3 : s.size = n
      case neg =>
        go_enter Tryz.func25, Tryz.ntmps25
        go_wp2_with (first | (go_at_call 54; refine (i_within _ _ _ _).mono ?_; rw [g1]; rintro e w' ⟨rfl, rfl⟩) | (go_at_call 55; refine (i_outside _ _ _ _ _ _ _ HX0.out).mono ?_; rw [g2]; rintro e w1 ⟨rfl, e1⟩; obtain ⟨p0, p1, p2, p3, p4⟩ := two_cells (e1.block (heap_alloc_new w _)); have E1 := Lib.hid (e0.trans e1)))
        go_ret
        exact RetE.mk (bool_eq (by rw [HV.out, g1, g2, decide_eq_false g3]; rfl)) E1.out
      case pos =>
        cases b4
        case false =>
          go_enter Tryz.func25, Tryz.ntmps25
          go_wp2_with (first | (go_at_call 54; refine (i_within _ _ _ _).mono ?_; rw [g1]; rintro e w' ⟨rfl, rfl⟩) | (go_at_call 55; refine (i_outside _ _ _ _ _ _ _ HX0.out).mono ?_; rw [g2]; rintro e w1 ⟨rfl, e1⟩; obtain ⟨p0, p1, p2, p3, p4⟩ := two_cells (e1.block (heap_alloc_new w _)); have E1 := Lib.hid (e0.trans e1)) | (go_at_call 56; refine (i_onlyOf_LR _ hs _).mono ?_; rw [g4]; rintro e w' ⟨rfl, rfl⟩))
          go_ret
          exact RetE.mk (bool_eq (by rw [HV.out, g1, g2, g4, decide_eq_true g3]; rfl)) E1.out
        case true =>
          by_cases g5 : 2 * (m : Int) = n + 4
          case neg =>
            go_enter Tryz.func25, Tryz.ntmps25
            go_wp2_with (first | (go_at_call 54; refine (i_within _ _ _ _).mono ?_; rw [g1]; rintro e w' ⟨rfl, rfl⟩) | (go_at_call 55; refine (i_outside _ _ _ _ _ _ _ HX0.out).mono ?_; rw [g2]; rintro e w1 ⟨rfl, e1⟩; obtain ⟨p0, p1, p2, p3, p4⟩ := two_cells (e1.block (heap_alloc_new w _)); have E1 := Lib.hid (e0.trans e1)) | (go_at_call 56; refine (i_onlyOf_LR _ hs _).mono ?_; rw [g4]; rintro e w' ⟨rfl, rfl⟩) | (go_at_call 57; refine (f_CountL _ _).mono ?_; rw [hm]; rintro e w' ⟨rfl, rfl⟩))
            go_ret
            exact RetE.mk (bool_eq (by rw [HV.out, g1, g2, g4, hm, decide_eq_false g5, decide_eq_true g3]; rfl)) E1.out
          case pos =>
            go_enter Tryz.func25, Tryz.ntmps25
            go_wp2_with (first | (go_at_call 54; refine (i_within _ _ _ _).mono ?_; rw [g1]; rintro e w' ⟨rfl, rfl⟩) | (go_at_call 55; refine (i_outside _ _ _ _ _ _ _ HX0.out).mono ?_; rw [g2]; rintro e w1 ⟨rfl, e1⟩; obtain ⟨p0, p1, p2, p3, p4⟩ := two_cells (e1.block (heap_alloc_new w _)); have E1 := Lib.hid (e0.trans e1)) | (go_at_call 56; refine (i_onlyOf_LR _ hs _).mono ?_; rw [g4]; rintro e w' ⟨rfl, rfl⟩) | (go_at_call 57; refine (f_CountL _ _).mono ?_; rw [hm]; rintro e w' ⟨rfl, rfl⟩) | (go_at_call 33; refine (i_corners _ _ _ _ _ _ (HX.out.ext E1.out) g3 (by omega) HBX.out).mono ?_; rintro e w2 ⟨a2, c2, rfl, o2, e2⟩; rw [ptsH_len] at o2 ⊢; obtain ⟨pg, pi, rfl, d1, d2, d3⟩ := o2.pts.2 n (by omega); unfold slV at d1; rw [ptsH_at _ _ _ _ (Nat.le_refl _)] at d2 d3; obtain ⟨X, hX⟩ : ∃ X, (ptH xs (bts s) n).1 = X := ⟨_, rfl⟩; obtain ⟨Y, hY⟩ : ∃ Y, (ptH xs (bts s) n).2 = Y := ⟨_, rfl⟩; rw [hX] at d2; rw [hY] at d3; have E2 := Lib.hid (E1.out.trans e2); clear o2))
            all_goals
              go_ret
              exact RetE.mk (bool_eq (by rw [HV.out, g1, g2, g4, hm, decide_eq_true g5, decide_eq_true g3, hX, hY]; first | (simp; done) | (simp_all; done) | (by_cases hX0 : X = 0 <;> by_cases hY0 : Y = 0 <;> simp [hX0, hY0] <;> done) | (by_cases hX0 : X = 0 <;> by_cases hY0 : Y = 0 <;> simp_all))) E2.out
end Go.Proofs.YtaokeaiehjgbnaaGreatDoor

/- What makes a plan valid: the reference's side. -/
namespace Go.Proofs.YtaokeaiehjgbnaaGreatDoor
open Go.RowKit
set_option linter.unusedSimpArgs false
set_option linter.unusedVariables false
set_option linter.unnecessarySimpa false

set_option maxRecDepth 100000 in
set_option maxHeartbeats 2000000 in
theorem s_l07Ok (pb : Nat) (ao : Option Addr) (n c : Nat) (xs : List Int) (s : ByteArray) (w : World) (hB : Two w pb (.slice ao n c) (.string s)) (hx : Ints w ao n xs) (hs : s.size ≤ 9223372036854775807) :
    Calls Tryz.prog 30 #[.pointer (some ⟨pb, 0, none⟩)] w (RetE (.bool (validH xs (bts s))) w) := by
  have hxm := hx.2.1
  have hxl := hx.1
  have HB := Lib.hid hB
  obtain ⟨A1, A2, A3⟩ := hB
  have HX := Lib.hid hx
  have HL := Lib.hid hxl
  have HNL := Lib.hid (validH_nlen (bts s) hxl)
  have HNT : Hid (s.size ≠ n → validH xs (bts s) = false) := Lib.hid (fun h => validH_ntxt (by rw [bts_length, hxl]; exact h))
  have HNS : Hid (∀ k, k < n → inB (xs.getD k 0) 8 200 = false → validH xs (bts s) = false) := Lib.hid (fun k hk h => validH_nside (bts s) (by omega) h)
  have HNB : Hid (∀ k (h : k < s.size), lrB (s[k]) = false → validH xs (bts s) = false) := Lib.hid (fun k hk h => validH_nlet xs (by rw [bts_length]; exact hk) (by rw [byte_get s k hk]; exact h))
  obtain ⟨b1, g1⟩ : ∃ b, inB (n : Int) 4 12 = b := ⟨_, rfl⟩
  cases b1
  · clear hx hxl
    have hv := HNL.out g1
    go_enter Tryz.func30, Tryz.ntmps30
    go_wp2_with (first | (go_at_call 31; refine (s_l00In _ _ _ _).mono ?_; rw [g1]; rintro e w' ⟨rfl, rfl⟩))
    go_ret
    exact RetE.mk (bool_eq hv.symm) (Ext.refl _)
  · have ⟨h1, h2⟩ := inB_iff.1 g1
    by_cases g3 : s.size = n
    case neg =>
      clear hx hxl
      have hv := Lib.hid (HNT.out g3)
      go_enter Tryz.func30, Tryz.ntmps30
      go_wp2_with (first | (go_at_call 31; refine (s_l00In _ _ _ _).mono ?_; rw [g1]; rintro e w' ⟨rfl, rfl⟩))
      go_ret
      exact RetE.mk (bool_eq hv.out.symm) (Ext.refl _)
    case pos =>
      have HEND : Hid ((∀ j, j < n → inB (xs.getD j 0) 8 200 = true ∧ lrB ((bts s).getD j 0) = true) → validH xs (bts s) = (decide (turnN (bts s) n = 4) && (decide ((ptH xs (bts s) n).1 = 0) && decide ((ptH xs (bts s) n).2 = 0)))) := Lib.hid (fun h => validH_end hxl (by rw [bts_length]; exact g3) g1 h)
      have HTS : Hid (∀ k (h : k < s.size), turnN (bts s) (k + 1) = turnN (bts s) k + if s[k] = 76 then 1 else -1) := Lib.hid (fun k hk => by rw [turnN_succ _ _ (by rw [bts_length]; exact hk), byte_get s k hk])
      have HBG := Lib.hid (byte_get s)
      have HTB : Hid (∀ k : Nat, -(k : Int) ≤ turnN (bts s) k ∧ turnN (bts s) k ≤ k) := Lib.hid (fun k => by
        unfold turnN
        have := cntL_le ((bts s).take k)
        have h2 : ((bts s).take k).length ≤ k := List.length_take_le _ _
        omega)
      have HT0 : Hid (turnN (bts s) 0 = 0) := Lib.hid (by unfold turnN cntL; simp)
      clear hx hxl
      go_enter Tryz.func30, Tryz.ntmps30
      go_wp2_with (first | (go_at_call 31; refine (s_l00In _ _ _ _).mono ?_; rw [g1]; rintro e w' ⟨rfl, rfl⟩))
      go_loop [4, 5] (fun t i => ∃ (k : Nat) (tv : Int), k ≤ n ∧ i = .int .i64 k ∧ t = .int .i64 tv ∧ Hid (turnN (bts s) k = tv) ∧ Hid (∀ j, j < k → inB (xs.getD j 0) 8 200 = true ∧ lrB ((bts s).getD j 0) = true)) (fun _ i => n - (intOf i).toNat)
      case atStart => exact ⟨0, 0, Nat.zero_le _, rfl, rfl, HT0, Lib.hid (fun j hj => absurd hj (Nat.not_lt_zero _))⟩
      case round =>
        obtain ⟨k, tv, hk, rfl, rfl, HTV, HG⟩ := hrel
        by_cases hlt : k < n
        · obtain ⟨bb, off, rfl, d0⟩ := HX.out.2.2.1 k hlt
          obtain ⟨sd, hsde⟩ : ∃ sd, xs.getD k 0 = sd := ⟨_, rfl⟩
          have hks : k < s.size := by omega
          have hst := HTS.out k hks
          have hbg := HBG.out k hks
          have htb := HTB.out k
          have hns := HNS.out k hlt
          have hnb := HNB.out k hks
          rw [hsde] at d0 hns
          obtain ⟨b, hidx⟩ : ∃ b, s[k] = b := ⟨_, rfl⟩
          rw [hidx] at hst hbg hnb
          rw [HTV.out] at htb hst
          have HSD := Lib.hid hsde
          have HST := Lib.hid hst
          have HBB := Lib.hid hbg
          have HN1 := Lib.hid hns
          have HN2 := Lib.hid hnb
          clear hsde hst hbg hns hnb
          obtain ⟨b2, g2⟩ : ∃ b, inB sd 8 200 = b := ⟨_, rfl⟩
          cases b2
          · have hv := Lib.hid (HN1.out g2)
            go_wp2_with (first | (go_at_call 31; refine (s_l00In _ _ _ _).mono ?_; rw [g2]; rintro e w' ⟨rfl, rfl⟩))
            go_ret
            exact RetE.mk (bool_eq hv.out.symm) (Ext.refl _)
          · by_cases h76 : b = 76
            · have t76 : ((b.toNat : Int) == 76) = true := u8_eqH (k := 76) (by decide) h76
              have HN : Hid (turnN (bts s) (k + 1) = tv + 1) := Lib.hid (by rw [HST.out, if_pos h76])
              have HG2 : Hid (∀ j, j < k + 1 → inB (xs.getD j 0) 8 200 = true ∧ lrB ((bts s).getD j 0) = true) := Lib.hid (fun j hj => by
                by_cases h : j < k
                · exact HG.out j h
                · obtain rfl : j = k := by omega
                  rw [HSD.out, HBB.out, h76]
                  exact ⟨g2, rfl⟩)
              clear h76
              go_wp2_with (first | (go_at_call 31; refine (s_l00In _ _ _ _).mono ?_; rw [g2]; rintro e w' ⟨rfl, rfl⟩))
              go_round
              case rel => exact ⟨k + 1, tv + 1, by omega, by go_num, rfl, HN, HG2⟩
              case measure => (simp [intOf] <;> omega)
            · have t76 : ((b.toNat : Int) == 76) = false := u8_ne (k := 76) (by decide) h76
              by_cases h82 : b = 82
              · have t82 : ((b.toNat : Int) == 82) = true := u8_eqH (k := 82) (by decide) h82
                have HN : Hid (turnN (bts s) (k + 1) = tv - 1) := Lib.hid (by rw [HST.out, if_neg h76]; omega)
                have HG2 : Hid (∀ j, j < k + 1 → inB (xs.getD j 0) 8 200 = true ∧ lrB ((bts s).getD j 0) = true) := Lib.hid (fun j hj => by
                  by_cases h : j < k
                  · exact HG.out j h
                  · obtain rfl : j = k := by omega
                    rw [HSD.out, HBB.out, h82]
                    exact ⟨g2, rfl⟩)
                clear h76 h82
                go_wp2_with (first | (go_at_call 31; refine (s_l00In _ _ _ _).mono ?_; rw [g2]; rintro e w' ⟨rfl, rfl⟩))
                go_round
                case rel => exact ⟨k + 1, tv - 1, by omega, by go_num, rfl, HN, HG2⟩
                case measure => (simp [intOf] <;> omega)
              · have t82 : ((b.toNat : Int) == 82) = false := u8_ne (k := 82) (by decide) h82
                have hv := Lib.hid (HN2.out (by unfold lrB; simp [h76, h82]))
                clear h76 h82
                go_wp2_with (first | (go_at_call 31; refine (s_l00In _ _ _ _).mono ?_; rw [g2]; rintro e w' ⟨rfl, rfl⟩))
                go_ret
                exact RetE.mk (bool_eq hv.out.symm) (Ext.refl _)
        · obtain rfl : k = n := by omega
          have HV := Lib.hid (HEND.out HG.out)
          have HBX : Hid (∀ x ∈ xs, 8 ≤ x ∧ x ≤ 200) := Lib.hid (fun x hx => by
            obtain ⟨i, hi, rfl⟩ := List.mem_iff_getElem.1 hx
            have := (HG.out i (by have := HL.out; omega)).1
            rw [List.getD_eq_getElem?_getD, List.getElem?_eq_getElem hi, Option.getD_some] at this
            exact inB_iff.1 this)
          go_wp2_with (first | (go_at_call 34; refine (s_l07Points _ _ _ _ _ _ _ HB.out HX.out g3 (by omega) HBX.out).mono ?_; rintro e w2 ⟨a2, c2, rfl, o2, e2⟩; rw [ptsH_len] at o2 ⊢; obtain ⟨pg, pi, rfl, d1, d2, d3⟩ := o2.pts.2 k (by omega); unfold slV at d1; rw [ptsH_at _ _ _ _ (Nat.le_refl _)] at d2 d3; obtain ⟨X, hX⟩ : ∃ X, (ptH xs (bts s) k).1 = X := ⟨_, rfl⟩; obtain ⟨Y, hY⟩ : ∃ Y, (ptH xs (bts s) k).2 = Y := ⟨_, rfl⟩; rw [hX] at d2; rw [hY] at d3; have E2 := Lib.hid e2; clear o2))
          all_goals
            go_ret
            exact RetE.mk (bool_eq (by rw [HV.out, HTV.out, hX, hY]; by_cases hT0 : tv = 4 <;> by_cases hX0 : X = 0 <;> by_cases hY0 : Y = 0 <;> simp_all)) E2.out
theorem s_ValidHouse (ao : Option Addr) (n c : Nat) (xs : List Int) (s : ByteArray) (w : World) (hx : Ints w ao n xs) (hs : s.size ≤ 9223372036854775807) :
    Calls Tryz.prog 26 #[.agg #[.slice ao n c, .string s]] w (RetE (.bool (validH xs (bts s))) w) := by
  have e0 : Ext w (w.alloc (.cells #[.slice ao n c, .string s] 26)) := (Ext.refl w).alloc _
  have HX0 := Lib.hid (hx.ext e0)
  clear hx
  go_enter Tryz.func26, Tryz.ntmps26
  go_wp2_with (go_at_call 30; refine (s_l07Ok _ _ _ _ _ _ _ (Two.new w _ _ _) HX0.out hs).mono ?_; rintro e w1 ⟨rfl, e1⟩)
  go_ret
  exact RetE.mk rfl (e0.trans e1)
end Go.Proofs.YtaokeaiehjgbnaaGreatDoor

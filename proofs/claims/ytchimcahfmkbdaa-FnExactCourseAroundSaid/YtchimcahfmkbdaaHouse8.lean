/- Plans of houses: the area inside: both sides. -/
import Derived.Test.YtchimcahfmkbdaaHouse7
import Derived.Shelf.Abstract
import Derived.RegionTactic
import Derived.BigRegion
import Derived.Deep.DeepCutAuto
namespace Go.Proofs.Ytchimcahfmkbdaa
open Go.RowKit
set_option linter.unusedSimpArgs false
set_option linter.unusedVariables false
set_option linter.unnecessarySimpa false

def areaN (xs : List Int) (t : List UInt8) : Nat → Int
  | 0 => 0
  | k + 1 => areaN xs t k + ((ptH xs t k).1 * (ptH xs t (k + 1)).2 - (ptH xs t (k + 1)).1 * (ptH xs t k).2)
theorem mul_bd {a b : Int} (h : -2400 ≤ a ∧ a ≤ 2400) (h2 : -2400 ≤ b ∧ b ≤ 2400) : -5760000 ≤ a * b ∧ a * b ≤ 5760000 := by
  have h3 : a.natAbs ≤ 2400 := by omega
  have h4 : b.natAbs ≤ 2400 := by omega
  have h5 : (a * b).natAbs ≤ 2400 * 2400 := by rw [Int.natAbs_mul]; exact Nat.mul_le_mul h3 h4
  omega
theorem ptH_bd {xs : List Int} (t : List UInt8) (h : ∀ x ∈ xs, 8 ≤ x ∧ x ≤ 200) (hn : xs.length ≤ 12) (k : Nat) (hk : k ≤ xs.length) : (-2400 ≤ (ptH xs t k).1 ∧ (ptH xs t k).1 ≤ 2400) ∧ (-2400 ≤ (ptH xs t k).2 ∧ (ptH xs t k).2 ≤ 2400) := by
  have := pt_bd t h hn k hk
  unfold ptH
  exact ⟨⟨this.1, this.2.1⟩, this.2.2⟩
theorem areaN_bd {xs : List Int} (t : List UInt8) (h : ∀ x ∈ xs, 8 ≤ x ∧ x ≤ 200) (hn : xs.length ≤ 12) (k : Nat) (hk : k ≤ xs.length) : -(11520000 * (k : Int)) ≤ areaN xs t k ∧ areaN xs t k ≤ 11520000 * k := by
  induction k with
  | zero => simp [areaN]
  | succ k ih =>
    have h1 := ih (by omega)
    have h2 := ptH_bd t h hn k (by omega)
    have h3 := ptH_bd t h hn (k + 1) (by omega)
    have h4 := mul_bd h2.1 h3.2
    have h5 := mul_bd h3.1 h2.2
    show _ ≤ areaN xs t k + _ ∧ areaN xs t k + _ ≤ _
    omega
def areaH (xs : List Int) (t : List UInt8) (n : Nat) : Int := sel (validH xs t) (absI (areaN xs t n) / 2) 0
theorem PtsAt.uni {w : World} {ao : Option Addr} {n : Nat} {ps : List (Int × Int)} (h : PtsAt w ao n ps) (hn : 0 < n) :
    ∃ g, ao = some ⟨g, 0, none⟩ ∧ ∀ i, i < n → ∃ gi, w.cell? ⟨g, i, none⟩ = some (.slice (some ⟨gi, 0, none⟩) 2 2) ∧ w.cell? ⟨gi, 0, none⟩ = some (.int .i64 (ps.getD i (0, 0)).1) ∧ w.cell? ⟨gi, 1, none⟩ = some (.int .i64 (ps.getD i (0, 0)).2) := by
  obtain ⟨g, _, rfl, _⟩ := h.2 0 hn
  refine ⟨g, rfl, fun i hi => ?_⟩
  obtain ⟨g', gi, h1, h2, h3, h4⟩ := h.2 i hi
  simp only [Option.some.injEq, Addr.mk.injEq, and_true] at h1
  subst h1
  exact ⟨gi, h2, h3, h4⟩
set_option maxRecDepth 100000 in
set_option maxHeartbeats 2000000 in
theorem i_AreaInside (ao : Option Addr) (n c : Nat) (xs : List Int) (s : ByteArray) (w : World) (hx : Ints w ao n xs) (hs : s.size ≤ 9223372036854775807) :
    Calls Try.prog 22 #[.agg #[.slice ao n c, .string s]] w (RetE (.tuple #[.int .i64 (areaH xs (bts s) n), .int .i64 (sel (validH xs (bts s)) 0 1)]) w) := by
  have e0 : Ext w (w.alloc (.cells #[.slice ao n c, .string s] 27)) := (Ext.refl w).alloc _
  have HX := Lib.hid hx
  have HL := Lib.hid hx.1
  have hxm := hx.2.1
  clear hx
  obtain ⟨v, hv⟩ : ∃ v, validH xs (bts s) = v := ⟨_, rfl⟩
  have hA : areaH xs (bts s) n = sel v (absI (areaN xs (bts s) n) / 2) 0 := by unfold areaH; rw [hv]
  rw [hv, hA]
  clear hA
  have HBX : Hid (v = true → s.size = n ∧ n ≤ 12 ∧ ∀ x ∈ xs, 8 ≤ x ∧ x ≤ 200) := Lib.hid (fun h => by have h1 := validH_bd (hv.trans h); have := HL.out; rw [bts_length] at h1; exact ⟨by omega, by omega, h1.2.2.1⟩)
  cases v
  · go_enter Try.func22, Try.ntmps22
    go_wp2_with (go_at_call 17; refine (i_ValidHouse _ _ _ _ _ _ (HX.out.ext e0) hs).mono ?_; rw [hv]; rintro e w1 ⟨rfl, e1⟩; obtain ⟨p0, p1, p2, p3, p4⟩ := two_cells (e1.block (heap_alloc_new w _)); have E1 := Lib.hid (e0.trans e1))
    go_ret2
    exact RetE.mk rfl E1.out
  · obtain ⟨g3, n12, hb⟩ := HBX.out rfl
    have HB8 := Lib.hid hb
    have HAB := Lib.hid (fun k (h : k ≤ xs.length) => areaN_bd (bts s) hb (by have := HL.out; omega) k h)
    have HPB := Lib.hid (fun k (h : k ≤ xs.length) => ptH_bd (bts s) hb (by have := HL.out; omega) k h)
    clear hb
    go_enter Try.func22, Try.ntmps22
    go_wp2_with (first | (go_at_call 17; refine (i_ValidHouse _ _ _ _ _ _ (HX.out.ext e0) hs).mono ?_; rw [hv]; rintro e w1 ⟨rfl, e1⟩; obtain ⟨p0, p1, p2, p3, p4⟩ := two_cells (e1.block (heap_alloc_new w _)); have E1 := Lib.hid (e0.trans e1)) | (go_at_call 58; refine (i_corners _ _ _ _ _ _ (HX.out.ext E1.out) g3 n12 HB8.out).mono ?_; rintro e w2 ⟨a2, c2, rfl, o2, e2⟩; rw [ptsH_len] at o2 ⊢; have E2 := Lib.hid (E1.out.trans e2); obtain ⟨pg, rfl, hp⟩ := o2.pts.uni (Nat.succ_pos n); have HP := Lib.hid hp; obtain ⟨q0, q1, q2⟩ := (Two.of (e1.block (heap_alloc_new w _)) : Two w1 w.heap.size (.slice ao n c) (.string s)).ext e2; clear o2 hp))
    go_loopw [5, 15] (fun t i wr => ∃ (k : Nat) (tv : Int), k ≤ n ∧ i = .int .i64 k ∧ t = .int .i64 tv ∧ Hid (areaN xs (bts s) k = tv) ∧ Hid (Ext w2 wr)) (fun _ i _ => n - (intOf i).toNat)
    case atStart => exact ⟨0, 0, Nat.zero_le _, rfl, rfl, Lib.hid rfl, Lib.hid (Ext.refl _)⟩
    case round =>
      obtain ⟨k, tv, hk, rfl, rfl, HT, HER⟩ := hrel
      have hab := HAB.out k (by have := HL.out; omega)
      rw [HT.out] at hab
      by_cases hlt : k < n
      · obtain ⟨g1, d1, d2, d3⟩ := HP.out k (by omega)
        obtain ⟨g2, d4, d5, d6⟩ := HP.out (k + 1) (by omega)
        rw [ptsH_at _ _ _ _ (by omega)] at d2 d3 d5 d6
        replace d1 := HER.out.cell d1
        replace d2 := HER.out.cell d2
        replace d3 := HER.out.cell d3
        replace d4 := HER.out.cell d4
        replace d5 := HER.out.cell d5
        replace d6 := HER.out.cell d6
        have hb1 := HPB.out k (by have := HL.out; omega)
        have hb2 := HPB.out (k + 1) (by have := HL.out; omega)
        have hn : areaN xs (bts s) (k + 1) = tv + ((ptH xs (bts s) k).1 * (ptH xs (bts s) (k + 1)).2 - (ptH xs (bts s) (k + 1)).1 * (ptH xs (bts s) k).2) := by rw [← HT.out]; rfl
        have hm1 := mul_bd hb1.1 hb2.2
        have hm2 := mul_bd hb2.1 hb1.2
        obtain ⟨X0, hX0⟩ : ∃ X, (ptH xs (bts s) k).1 = X := ⟨_, rfl⟩
        obtain ⟨Y0, hY0⟩ : ∃ X, (ptH xs (bts s) k).2 = X := ⟨_, rfl⟩
        obtain ⟨X1, hX1⟩ : ∃ X, (ptH xs (bts s) (k + 1)).1 = X := ⟨_, rfl⟩
        obtain ⟨Y1, hY1⟩ : ∃ X, (ptH xs (bts s) (k + 1)).2 = X := ⟨_, rfl⟩
        rw [hX0, hX1, hY0, hY1] at hn
        rw [hX0, hY1] at hm1
        rw [hX1, hY0] at hm2
        rw [hX0] at d2
        rw [hY0] at d3
        rw [hX1] at d5
        rw [hY1] at d6
        have HN := Lib.hid hn
        clear hb1 hb2 hX0 hX1 hY0 hY1 hn
        go_upto_region 7 with fail
        go_quiet (fail)
        go_wp2
        go_roundw
        case rel => first | exact ⟨k + 1, tv + (X0 * Y1 - X1 * Y0), by omega, by go_num, rfl, HN, Lib.hid (HER.out.drewN _)⟩ | ((repeat apply Exists.intro); exact ⟨⟨k + 1, tv + (X0 * Y1 - X1 * Y0), by omega, by go_num, rfl, HN, Lib.hid (HER.out.drewN _)⟩, rfl⟩)
        case measure => (simp [intOf] <;> omega)
      · obtain rfl : k = n := by omega
        by_cases ht : tv < 0
        all_goals
          go_wp2
          go_ret2
          exact RetE.mk (by rw [HT.out]; unfold absI sel; simp [ht] <;> (first | omega | (rw [← Int.neg_tdiv, Int.tdiv_eq_ediv_of_nonneg (by omega)]; first | omega | (unfold wrap64; omega)))) (E2.out.trans HER.out)
set_option maxRecDepth 100000 in
set_option maxHeartbeats 2000000 in
theorem s_AreaInside (ao : Option Addr) (n c : Nat) (xs : List Int) (s : ByteArray) (w : World) (hx : Ints w ao n xs) (hs : s.size ≤ 9223372036854775807) :
    Calls Try.prog 21 #[.agg #[.slice ao n c, .string s]] w (RetE (.tuple #[.int .i64 (areaH xs (bts s) n), .int .i64 (sel (validH xs (bts s)) 0 1)]) w) := by
  have e0 : Ext w (w.alloc (.cells #[.slice ao n c, .string s] 27)) := (Ext.refl w).alloc _
  have HX := Lib.hid hx
  have HL := Lib.hid hx.1
  have hxm := hx.2.1
  clear hx
  obtain ⟨v, hv⟩ : ∃ v, validH xs (bts s) = v := ⟨_, rfl⟩
  have hA : areaH xs (bts s) n = sel v (absI (areaN xs (bts s) n) / 2) 0 := by unfold areaH; rw [hv]
  rw [hv, hA]
  clear hA
  have HBX : Hid (v = true → s.size = n ∧ n ≤ 12 ∧ ∀ x ∈ xs, 8 ≤ x ∧ x ≤ 200) := Lib.hid (fun h => by have h1 := validH_bd (hv.trans h); have := HL.out; rw [bts_length] at h1; exact ⟨by omega, by omega, h1.2.2.1⟩)
  cases v
  · go_enter Try.func21, Try.ntmps21
    go_wp2_with (go_at_call 52; refine (s_l07Ok _ _ _ _ _ _ _ (Two.new w _ _ _) (HX.out.ext e0) hs).mono ?_; rw [hv]; rintro e w1 ⟨rfl, e1⟩; have E1 := Lib.hid (e0.trans e1))
    go_ret2
    exact RetE.mk rfl E1.out
  · obtain ⟨g3, n12, hb⟩ := HBX.out rfl
    have HB8 := Lib.hid hb
    have HAB := Lib.hid (fun k (h : k ≤ xs.length) => areaN_bd (bts s) hb (by have := HL.out; omega) k h)
    have HPB := Lib.hid (fun k (h : k ≤ xs.length) => ptH_bd (bts s) hb (by have := HL.out; omega) k h)
    clear hb
    go_enter Try.func21, Try.ntmps21
    go_wp2_with (first | (go_at_call 52; refine (s_l07Ok _ _ _ _ _ _ _ (Two.new w _ _ _) (HX.out.ext e0) hs).mono ?_; rw [hv]; rintro e w1 ⟨rfl, e1⟩; have E1 := Lib.hid (e0.trans e1); have HT1 := Lib.hid ((Two.new w (.slice ao n c) (.string s) 27).ext e1)) | (go_at_call 60; refine (s_l07Points _ _ _ _ _ _ _ HT1.out (HX.out.ext E1.out) g3 n12 HB8.out).mono ?_; rintro e w2 ⟨a2, c2, rfl, o2, e2⟩; rw [ptsH_len] at o2 ⊢; have E2 := Lib.hid (E1.out.trans e2); obtain ⟨pg, rfl, hp⟩ := o2.pts.uni (Nat.succ_pos n); have HP := Lib.hid hp; have HT2 := Lib.hid (HT1.out.ext e2); obtain ⟨q0, q1, q2⟩ := HT2.out; clear o2 hp))
    go_loopw [5, 6] (fun t i wr => ∃ (k : Nat) (tv : Int), k ≤ n ∧ i = .int .i64 k ∧ t = .int .i64 tv ∧ Hid (areaN xs (bts s) k = tv) ∧ Hid (Ext w2 wr)) (fun _ i _ => n - (intOf i).toNat)
    case atStart => exact ⟨0, 0, Nat.zero_le _, rfl, rfl, Lib.hid rfl, Lib.hid (Ext.refl _)⟩
    case round =>
      obtain ⟨k, tv, hk, rfl, rfl, HT, HER⟩ := hrel
      obtain ⟨q0, q1, q2⟩ := HT2.out.ext HER.out
      have hab := HAB.out k (by have := HL.out; omega)
      rw [HT.out] at hab
      by_cases hlt : k < n
      · obtain ⟨g1, d1, d2, d3⟩ := HP.out k (by omega)
        obtain ⟨g2, d4, d5, d6⟩ := HP.out (k + 1) (by omega)
        rw [ptsH_at _ _ _ _ (by omega)] at d2 d3 d5 d6
        replace d1 := HER.out.cell d1
        replace d2 := HER.out.cell d2
        replace d3 := HER.out.cell d3
        replace d4 := HER.out.cell d4
        replace d5 := HER.out.cell d5
        replace d6 := HER.out.cell d6
        have hb1 := HPB.out k (by have := HL.out; omega)
        have hb2 := HPB.out (k + 1) (by have := HL.out; omega)
        have hn : areaN xs (bts s) (k + 1) = tv + ((ptH xs (bts s) k).1 * (ptH xs (bts s) (k + 1)).2 - (ptH xs (bts s) (k + 1)).1 * (ptH xs (bts s) k).2) := by rw [← HT.out]; rfl
        have hm1 := mul_bd hb1.1 hb2.2
        have hm2 := mul_bd hb2.1 hb1.2
        obtain ⟨X0, hX0⟩ : ∃ X, (ptH xs (bts s) k).1 = X := ⟨_, rfl⟩
        obtain ⟨Y0, hY0⟩ : ∃ X, (ptH xs (bts s) k).2 = X := ⟨_, rfl⟩
        obtain ⟨X1, hX1⟩ : ∃ X, (ptH xs (bts s) (k + 1)).1 = X := ⟨_, rfl⟩
        obtain ⟨Y1, hY1⟩ : ∃ X, (ptH xs (bts s) (k + 1)).2 = X := ⟨_, rfl⟩
        rw [hX0, hX1, hY0, hY1] at hn
        rw [hX0, hY1] at hm1
        rw [hX1, hY0] at hm2
        rw [hX0] at d2
        rw [hY0] at d3
        rw [hX1] at d5
        rw [hY1] at d6
        have HN := Lib.hid hn
        clear hb1 hb2 hX0 hX1 hY0 hY1 hn
        go_upto_region 8 with fail
        go_quiet (fail)
        go_wp2
        go_roundw
        case rel => first | exact ⟨k + 1, tv + (X0 * Y1 - X1 * Y0), by omega, by go_num, rfl, HN, Lib.hid (HER.out.drewN _)⟩ | ((repeat apply Exists.intro); exact ⟨⟨k + 1, tv + (X0 * Y1 - X1 * Y0), by omega, by go_num, rfl, HN, Lib.hid (HER.out.drewN _)⟩, rfl⟩)
        case measure => (simp [intOf] <;> omega)
      · obtain rfl : k = n := by omega
        obtain ⟨u, hu, u0, u1⟩ : ∃ u, absI tv = u ∧ 0 ≤ u ∧ u ≤ 138240000 := ⟨_, rfl, by unfold absI; split <;> omega, by unfold absI; split <;> omega⟩
        go_wp2_with (go_at_call 61; refine (s_l02Size_abs _ (by omega) (by omega) _).mono ?_; rw [hu]; rintro e w' ⟨rfl, rfl⟩)
        go_ret2
        exact RetE.mk (by rw [HT.out, hu]; unfold sel; simp <;> (first | omega | (rw [Int.tdiv_eq_ediv_of_nonneg (by omega)]; first | omega | (unfold wrap64; omega)))) (E2.out.trans HER.out)
end Go.Proofs.Ytchimcahfmkbdaa

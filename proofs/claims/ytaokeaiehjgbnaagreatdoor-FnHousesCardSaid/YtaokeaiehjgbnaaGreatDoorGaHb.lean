/- A group of texts, one behind the other: House5, House6, House7, House8. -/
import Derived.Test.YtaokeaiehjgbnaaGreatDoorGaHa
import Derived.Shelf.Abstract
import Derived.RegionTactic
import Derived.BigRegion
import Derived.Deep.DeepCutAuto
/- Plans of houses: round the house, the code of a question, what runs through a corner, the lap at a corner, a side in a course: both sides. -/
namespace Go.Proofs.YtaokeaiehjgbnaaGreatDoor
open Go.RowKit
set_option linter.unusedSimpArgs false
set_option linter.unusedVariables false
set_option linter.unnecessarySimpa false

def sumN (xs : List Int) : Nat → Int
  | 0 => 0
  | k + 1 => sumN xs k + xs.getD k 0
theorem sumN_bd {xs : List Int} (h : ∀ x ∈ xs, 8 ≤ x ∧ x ≤ 200) (k : Nat) (hk : k ≤ xs.length) : 0 ≤ sumN xs k ∧ sumN xs k ≤ 200 * k := by
  induction k with
  | zero => simp [sumN]
  | succ k ih =>
    have h1 := ih (by omega)
    have h2 := sides_at h k (by omega)
    show 0 ≤ sumN xs k + xs.getD k 0 ∧ sumN xs k + xs.getD k 0 ≤ _
    omega
def inRange (n : Nat) (k r : Int) : Bool := inB k 0 (n - 1) && inB r 0 1000
/-- the code of a question about corner or side k and course r -/
def codeH (xs : List Int) (t : List UInt8) (k r : Int) : Int := sel (validH xs t) (sel (inRange xs.length k r) 0 2) 1
def thruI (k r : Int) : Bool := decide ((k + r) % 2 = 0)
def runsH (xs : List Int) (t : List UInt8) (k r : Int) : Bool := decide (codeH xs t k r = 0) && thruI k r
def lapH (xs : List Int) (t : List UInt8) (k : Int) (cav : Bool) : Int := if codeH xs t k 0 = 0 then sel cav 1 2 else 0
def sideI (xs : List Int) (k r : Int) : Int := xs.getD k.toNat 0 - (if (k + r) % 2 = 0 then 0 else 2) - (if ((k + xs.length - 1) % xs.length + r) % 2 = 0 then 2 else 0)
def sideH (xs : List Int) (t : List UInt8) (k r : Int) : Int := if codeH xs t k r = 0 then sideI xs k r else 0
theorem sideI_at (xs : List Int) (n k : Nat) (r : Int) (hn : xs.length = n) : sideI xs k r = xs.getD k 0 - (if ((k : Int) + r) % 2 = 0 then 0 else 2) - (if (((k : Int) + n - 1) % n + r) % 2 = 0 then 2 else 0) := by
  unfold sideI
  rw [hn, Int.toNat_natCast]
theorem code_0 {xs : List Int} {t : List UInt8} {k r : Int} (h : codeH xs t k r = 0) : validH xs t = true ∧ 0 ≤ k ∧ k < xs.length ∧ 0 ≤ r ∧ r ≤ 1000 := by
  unfold codeH sel at h
  split at h
  · rename_i h1
    split at h
    · rename_i h2
      unfold inRange at h2
      rw [Bool.and_eq_true, inB_iff, inB_iff] at h2
      exact ⟨h1, by omega, by omega, by omega, by omega⟩
    · omega
  · omega
theorem code_bd (xs : List Int) (t : List UInt8) (k r : Int) : codeH xs t k r = 0 ∨ codeH xs t k r = 1 ∨ codeH xs t k r = 2 := by
  unfold codeH sel
  split
  · split <;> simp
  · simp
theorem i_sumOf (ao : Option Addr) (n c : Nat) (xs : List Int) (w : World) (hx : Ints w ao n xs) (n12 : n ≤ 12) (hb : ∀ x ∈ xs, 8 ≤ x ∧ x ≤ 200) :
    Calls Tryz.prog 38 #[.slice ao n c] w (RetV (.int .i64 (sumN xs n)) w) := by
  have hxl := hx.1
  have HX := Lib.hid hx
  have HBd := Lib.hid (fun k (h : k ≤ xs.length) => sumN_bd hb k h)
  have HSd := Lib.hid (fun k (h : k < xs.length) => sides_at hb k h)
  have HL := Lib.hid hxl
  clear hx hxl hb
  go_enter Tryz.func38, Tryz.ntmps38
  go_wp2
  go_loop [3, 8] (fun t i => ∃ (k : Nat) (tv : Int), k ≤ n ∧ i = .int .i64 k ∧ t = .int .i64 tv ∧ Hid (sumN xs k = tv)) (fun _ i => n - (intOf i).toNat)
  case atStart => exact ⟨0, 0, Nat.zero_le _, rfl, rfl, Lib.hid rfl⟩
  case round =>
    obtain ⟨k, tv, hk, rfl, rfl, HT⟩ := hrel
    by_cases hlt : k < n
    · obtain ⟨bb, off, rfl, d0⟩ := HX.out.2.2.1 k hlt
      have hbd := HBd.out k (by have := HL.out; omega)
      have hsd := HSd.out k (by have := HL.out; omega)
      rw [HT.out] at hbd
      have HN : Hid (sumN xs (k + 1) = tv + xs.getD k 0) := Lib.hid (by rw [← HT.out]; rfl)
      obtain ⟨sd, hsde⟩ : ∃ sd, xs.getD k 0 = sd := ⟨_, rfl⟩
      rw [hsde] at d0 hsd HN
      clear hsde
      go_wp2
      go_round
      case rel => exact ⟨k + 1, tv + sd, by omega, by go_num, rfl, HN⟩
      case measure => (simp [intOf] <;> omega)
    · obtain rfl : k = n := by omega
      go_wp2
      go_ret
      exact RetV.mk (int_eq HT.out.symm)
theorem i_RoundHouse (ao : Option Addr) (n c : Nat) (xs : List Int) (s : ByteArray) (w : World) (hx : Ints w ao n xs) (hs : s.size ≤ 9223372036854775807) :
    Calls Tryz.prog 14 #[.agg #[.slice ao n c, .string s]] w (RetE (.tuple #[.int .i64 (sel (validH xs (bts s)) (sumN xs n) 0), .int .i64 (sel (validH xs (bts s)) 0 1)]) w) := by
  have e0 : Ext w (w.alloc (.cells #[.slice ao n c, .string s] 26)) := (Ext.refl w).alloc _
  have HX := Lib.hid hx
  have HL := Lib.hid hx.1
  clear hx
  obtain ⟨v, hv⟩ : ∃ v, validH xs (bts s) = v := ⟨_, rfl⟩
  rw [hv]
  have HBX : Hid (v = true → n ≤ 12 ∧ ∀ x ∈ xs, 8 ≤ x ∧ x ≤ 200) := Lib.hid (fun h => by have h1 := validH_bd (hv.trans h); have := HL.out; exact ⟨by omega, h1.2.2.1⟩)
  cases v
  all_goals
    go_enter Tryz.func14, Tryz.ntmps14
    go_wp2_with (first | (go_at_call 25; refine (i_ValidHouse _ _ _ _ _ _ (HX.out.ext e0) hs).mono ?_; rw [hv]; rintro e w1 ⟨rfl, e1⟩; obtain ⟨p0, p1, p2, p3, p4⟩ := two_cells (e1.block (heap_alloc_new w _)); have E1 := Lib.hid (e0.trans e1)) | (go_at_call 38; refine (i_sumOf _ _ _ _ _ (HX.out.ext E1.out) (HBX.out (by trivial)).1 (HBX.out (by trivial)).2).mono ?_; rintro e w2 ⟨rfl, rfl⟩))
    go_ret2
    exact RetE.mk rfl E1.out
set_option maxHeartbeats 1000000 in
theorem s_RoundHouse (ao : Option Addr) (n c : Nat) (xs : List Int) (s : ByteArray) (w : World) (hx : Ints w ao n xs) (hs : s.size ≤ 9223372036854775807) :
    Calls Tryz.prog 15 #[.agg #[.slice ao n c, .string s]] w (RetE (.tuple #[.int .i64 (sel (validH xs (bts s)) (sumN xs n) 0), .int .i64 (sel (validH xs (bts s)) 0 1)]) w) := by
  have e0 : Ext w (w.alloc (.cells #[.slice ao n c, .string s] 26)) := (Ext.refl w).alloc _
  have HX := Lib.hid hx
  have HL := Lib.hid hx.1
  clear hx
  obtain ⟨v, hv⟩ : ∃ v, validH xs (bts s) = v := ⟨_, rfl⟩
  rw [hv]
  have HBX : Hid (v = true → n ≤ 12 ∧ ∀ x ∈ xs, 8 ≤ x ∧ x ≤ 200) := Lib.hid (fun h => by have h1 := validH_bd (hv.trans h); have := HL.out; exact ⟨by omega, h1.2.2.1⟩)
  cases v
  · go_enter Tryz.func15, Tryz.ntmps15
    go_wp2_with (go_at_call 30; refine (s_l07Ok _ _ _ _ _ _ _ (Two.new w _ _ _) (HX.out.ext e0) hs).mono ?_; rw [hv]; rintro e w1 ⟨rfl, e1⟩; have E1 := Lib.hid (e0.trans e1))
    go_ret2
    exact RetE.mk rfl E1.out
  · have hn12 := (HBX.out rfl).1
    have HBd := Lib.hid (fun k (h : k ≤ xs.length) => sumN_bd (HBX.out rfl).2 k h)
    have HSd := Lib.hid (fun k (h : k < xs.length) => sides_at (HBX.out rfl).2 k h)
    go_enter Tryz.func15, Tryz.ntmps15
    go_wp2_with (go_at_call 30; refine (s_l07Ok _ _ _ _ _ _ _ (Two.new w _ _ _) (HX.out.ext e0) hs).mono ?_; rw [hv]; rintro e w1 ⟨rfl, e1⟩; obtain ⟨p0, p1, p2⟩ := (Two.new w (.slice ao n c) (.string s) 26).ext e1; have E1 := Lib.hid (e0.trans e1))
    go_loop [4, 5] (fun t i => ∃ (k : Nat) (tv : Int), k ≤ n ∧ i = .int .i64 k ∧ t = .int .i64 tv ∧ Hid (sumN xs k = tv)) (fun _ i => n - (intOf i).toNat)
    case atStart => exact ⟨0, 0, Nat.zero_le _, rfl, rfl, Lib.hid rfl⟩
    case round =>
      obtain ⟨k, tv, hk, rfl, rfl, HT⟩ := hrel
      by_cases hlt : k < n
      · obtain ⟨bb, off, rfl, d0⟩ := (HX.out.ext E1.out).2.2.1 k hlt
        have hbd := HBd.out k (by have := HL.out; omega)
        have hsd := HSd.out k (by have := HL.out; omega)
        rw [HT.out] at hbd
        have HN : Hid (sumN xs (k + 1) = tv + xs.getD k 0) := Lib.hid (by rw [← HT.out]; rfl)
        obtain ⟨sd, hsde⟩ : ∃ sd, xs.getD k 0 = sd := ⟨_, rfl⟩
        rw [hsde] at d0 hsd HN
        clear hsde
        go_wp2
        go_round
        case rel => exact ⟨k + 1, tv + sd, by omega, by go_num, rfl, HN⟩
        case measure => (simp [intOf] <;> omega)
      · obtain rfl : k = n := by omega
        go_wp2
        go_ret2
        exact RetE.mk (by rw [HT.out]; rfl) E1.out
set_option maxHeartbeats 1000000 in
theorem i_houseCode (ao : Option Addr) (n c : Nat) (xs : List Int) (s : ByteArray) (k r : Int) (w : World) (hx : Ints w ao n xs) (hs : s.size ≤ 9223372036854775807) :
    Calls Tryz.prog 28 #[.agg #[.slice ao n c, .string s], .int .i64 k, .int .i64 r] w (RetE (.int .i64 (codeH xs (bts s) k r)) w) := by
  have e0 : Ext w (w.alloc (.cells #[.slice ao n c, .string s] 26)) := (Ext.refl w).alloc _
  have HX := Lib.hid hx
  have HL := Lib.hid hx.1
  have hC : codeH xs (bts s) k r = sel (validH xs (bts s)) (sel (inB k 0 (n - 1) && inB r 0 1000) 0 2) 1 := by unfold codeH inRange; rw [hx.1]
  rw [hC]
  clear hx hC
  obtain ⟨v, hv⟩ : ∃ v, validH xs (bts s) = v := ⟨_, rfl⟩
  obtain ⟨b1, g1⟩ : ∃ b, inB k 0 (n - 1) = b := ⟨_, rfl⟩
  obtain ⟨b2, g2⟩ : ∃ b, inB r 0 1000 = b := ⟨_, rfl⟩
  rw [hv, g1, g2]
  have HBX : Hid (v = true → 4 ≤ n ∧ n ≤ 12) := Lib.hid (fun h => by have h1 := validH_bd (hv.trans h); have := HL.out; omega)
  cases v
  case false =>
    go_enter Tryz.func28, Tryz.ntmps28
    go_wp2_with (first | (go_at_call 25; refine (i_ValidHouse _ _ _ _ _ _ (HX.out.ext e0) hs).mono ?_; rw [hv]; rintro e w1 ⟨rfl, e1⟩; obtain ⟨p0, p1, p2, p3, p4⟩ := two_cells (e1.block (heap_alloc_new w _)); have E1 := Lib.hid (e0.trans e1)))
    go_ret
    exact RetE.mk rfl E1.out
  case true =>
    obtain ⟨n1, n2⟩ := HBX.out rfl
    cases b1
    case false =>
      go_enter Tryz.func28, Tryz.ntmps28
      go_wp2_with (first | (go_at_call 25; refine (i_ValidHouse _ _ _ _ _ _ (HX.out.ext e0) hs).mono ?_; rw [hv]; rintro e w1 ⟨rfl, e1⟩; obtain ⟨p0, p1, p2, p3, p4⟩ := two_cells (e1.block (heap_alloc_new w _)); have E1 := Lib.hid (e0.trans e1)) | (go_at_call 54; refine (i_within _ _ _ _).mono ?_; rw [g1]; rintro e w' ⟨rfl, rfl⟩))
      go_ret
      exact RetE.mk rfl E1.out
    case true =>
      cases b2
      all_goals
        go_enter Tryz.func28, Tryz.ntmps28
        go_wp2_with (first | (go_at_call 25; refine (i_ValidHouse _ _ _ _ _ _ (HX.out.ext e0) hs).mono ?_; rw [hv]; rintro e w1 ⟨rfl, e1⟩; obtain ⟨p0, p1, p2, p3, p4⟩ := two_cells (e1.block (heap_alloc_new w _)); have E1 := Lib.hid (e0.trans e1)) | (go_at_call 54; refine (i_within _ _ _ _).mono ?_; (first | rw [g1] | rw [g2]); rintro e w' ⟨rfl, rfl⟩))
        go_ret
        exact RetE.mk rfl E1.out
end Go.Proofs.YtaokeaiehjgbnaaGreatDoor

/- Plans of houses: what runs through a corner, the lap at a corner, a side in a course: both sides. -/
namespace Go.Proofs.YtaokeaiehjgbnaaGreatDoor
open Go.RowKit
set_option linter.unusedSimpArgs false
set_option linter.unusedVariables false
set_option linter.unnecessarySimpa false

end Go.Proofs.YtaokeaiehjgbnaaGreatDoor

/- Plans of houses: a side in a course: both sides. -/
namespace Go.Proofs.YtaokeaiehjgbnaaGreatDoor
open Go.RowKit
set_option linter.unusedSimpArgs false
set_option linter.unusedVariables false
set_option linter.unnecessarySimpa false

end Go.Proofs.YtaokeaiehjgbnaaGreatDoor

/- Plans of houses: the area inside: both sides. -/
namespace Go.Proofs.YtaokeaiehjgbnaaGreatDoor
open Go.RowKit
set_option linter.unusedSimpArgs false
set_option linter.unusedVariables false
set_option linter.unnecessarySimpa false

def areaN (xs : List Int) (t : List UInt8) : Nat → Int
  | 0 => 0
  | k + 1 => areaN xs t k + ((ptH xs t k).1 * (ptH xs t (k + 1)).2 - (ptH xs t (k + 1)).1 * (ptH xs t k).2)
theorem mul_bd {a b : Int} (h : -2400 ≤ a ∧ a ≤ 2400) (h2 : -2400 ≤ b ∧ b ≤ 2400) : -5760000 ≤ a * b ∧ a * b ≤ 5760000 := by
  have h3 : a.natAbs ≤ 2400 := by omega
  have h4 : b.natAbs ≤ 2400 := by omega
  have h5 : (a * b).natAbs ≤ 2400 * 2400 := by rw [Int.natAbs_mul]; exact Nat.mul_le_mul h3 h4
  omega
theorem ptH_bd {xs : List Int} (t : List UInt8) (h : ∀ x ∈ xs, 8 ≤ x ∧ x ≤ 200) (hn : xs.length ≤ 12) (k : Nat) (hk : k ≤ xs.length) : (-2400 ≤ (ptH xs t k).1 ∧ (ptH xs t k).1 ≤ 2400) ∧ (-2400 ≤ (ptH xs t k).2 ∧ (ptH xs t k).2 ≤ 2400) := by
  have := pt_bd t h hn k hk
  unfold ptH
  exact ⟨⟨this.1, this.2.1⟩, this.2.2⟩
theorem areaN_bd {xs : List Int} (t : List UInt8) (h : ∀ x ∈ xs, 8 ≤ x ∧ x ≤ 200) (hn : xs.length ≤ 12) (k : Nat) (hk : k ≤ xs.length) : -(11520000 * (k : Int)) ≤ areaN xs t k ∧ areaN xs t k ≤ 11520000 * k := by
  induction k with
  | zero => simp [areaN]
  | succ k ih =>
    have h1 := ih (by omega)
    have h2 := ptH_bd t h hn k (by omega)
    have h3 := ptH_bd t h hn (k + 1) (by omega)
    have h4 := mul_bd h2.1 h3.2
    have h5 := mul_bd h3.1 h2.2
    show _ ≤ areaN xs t k + _ ∧ areaN xs t k + _ ≤ _
    omega
def areaH (xs : List Int) (t : List UInt8) (n : Nat) : Int := sel (validH xs t) (absI (areaN xs t n) / 2) 0
theorem PtsAt.uni {w : World} {ao : Option Addr} {n : Nat} {ps : List (Int × Int)} (h : PtsAt w ao n ps) (hn : 0 < n) :
    ∃ g, ao = some ⟨g, 0, none⟩ ∧ ∀ i, i < n → ∃ gi, w.cell? ⟨g, i, none⟩ = some (.slice (some ⟨gi, 0, none⟩) 2 2) ∧ w.cell? ⟨gi, 0, none⟩ = some (.int .i64 (ps.getD i (0, 0)).1) ∧ w.cell? ⟨gi, 1, none⟩ = some (.int .i64 (ps.getD i (0, 0)).2) := by
  obtain ⟨g, _, rfl, _⟩ := h.2 0 hn
  refine ⟨g, rfl, fun i hi => ?_⟩
  obtain ⟨g', gi, h1, h2, h3, h4⟩ := h.2 i hi
  simp only [Option.some.injEq, Addr.mk.injEq, and_true] at h1
  subst h1
  exact ⟨gi, h2, h3, h4⟩
set_option maxRecDepth 100000 in
set_option maxHeartbeats 2000000 in
theorem i_AreaInside (ao : Option Addr) (n c : Nat) (xs : List Int) (s : ByteArray) (w : World) (hx : Ints w ao n xs) (hs : s.size ≤ 9223372036854775807) :
    Calls Tryz.prog 12 #[.agg #[.slice ao n c, .string s]] w (RetE (.tuple #[.int .i64 (areaH xs (bts s) n), .int .i64 (sel (validH xs (bts s)) 0 1)]) w) := by
  have e0 : Ext w (w.alloc (.cells #[.slice ao n c, .string s] 26)) := (Ext.refl w).alloc _
  have HX := Lib.hid hx
  have HL := Lib.hid hx.1
  have hxm := hx.2.1
  clear hx
  obtain ⟨v, hv⟩ : ∃ v, validH xs (bts s) = v := ⟨_, rfl⟩
  have hA : areaH xs (bts s) n = sel v (absI (areaN xs (bts s) n) / 2) 0 := by unfold areaH; rw [hv]
  rw [hv, hA]
  clear hA
  have HBX : Hid (v = true → s.size = n ∧ n ≤ 12 ∧ ∀ x ∈ xs, 8 ≤ x ∧ x ≤ 200) := Lib.hid (fun h => by have h1 := validH_bd (hv.trans h); have := HL.out; rw [bts_length] at h1; exact ⟨by omega, by omega, h1.2.2.1⟩)
  cases v
  · go_enter Tryz.func12, Tryz.ntmps12
    go_wp2_with (go_at_call 25; refine (i_ValidHouse _ _ _ _ _ _ (HX.out.ext e0) hs).mono ?_; rw [hv]; rintro e w1 ⟨rfl, e1⟩; obtain ⟨p0, p1, p2, p3, p4⟩ := two_cells (e1.block (heap_alloc_new w _)); have E1 := Lib.hid (e0.trans e1))
    go_ret2
    exact RetE.mk rfl E1.out
  · obtain ⟨g3, n12, hb⟩ := HBX.out rfl
    have HB8 := Lib.hid hb
    have HAB := Lib.hid (fun k (h : k ≤ xs.length) => areaN_bd (bts s) hb (by have := HL.out; omega) k h)
    have HPB := Lib.hid (fun k (h : k ≤ xs.length) => ptH_bd (bts s) hb (by have := HL.out; omega) k h)
    clear hb
    go_enter Tryz.func12, Tryz.ntmps12
    go_wp2_with (first | (go_at_call 25; refine (i_ValidHouse _ _ _ _ _ _ (HX.out.ext e0) hs).mono ?_; rw [hv]; rintro e w1 ⟨rfl, e1⟩; obtain ⟨p0, p1, p2, p3, p4⟩ := two_cells (e1.block (heap_alloc_new w _)); have E1 := Lib.hid (e0.trans e1)) | (go_at_call 33; refine (i_corners _ _ _ _ _ _ (HX.out.ext E1.out) g3 n12 HB8.out).mono ?_; rintro e w2 ⟨a2, c2, rfl, o2, e2⟩; rw [ptsH_len] at o2 ⊢; have E2 := Lib.hid (E1.out.trans e2); obtain ⟨pg, rfl, hp⟩ := o2.pts.uni (Nat.succ_pos n); have HP := Lib.hid hp; obtain ⟨q0, q1, q2⟩ := (Two.of (e1.block (heap_alloc_new w _)) : Two w1 w.heap.size (.slice ao n c) (.string s)).ext e2; clear o2 hp))
    go_loopw [5, 15] (fun t i wr => ∃ (k : Nat) (tv : Int), k ≤ n ∧ i = .int .i64 k ∧ t = .int .i64 tv ∧ Hid (areaN xs (bts s) k = tv) ∧ Hid (Ext w2 wr)) (fun _ i _ => n - (intOf i).toNat)
    case atStart => exact ⟨0, 0, Nat.zero_le _, rfl, rfl, Lib.hid rfl, Lib.hid (Ext.refl _)⟩
    case round =>
      obtain ⟨k, tv, hk, rfl, rfl, HT, HER⟩ := hrel
      have hab := HAB.out k (by have := HL.out; omega)
      rw [HT.out] at hab
      by_cases hlt : k < n
      · obtain ⟨g1, d1, d2, d3⟩ := HP.out k (by omega)
        obtain ⟨g2, d4, d5, d6⟩ := HP.out (k + 1) (by omega)
        rw [ptsH_at _ _ _ _ (by omega)] at d2 d3 d5 d6
        replace d1 := HER.out.cell d1
        replace d2 := HER.out.cell d2
        replace d3 := HER.out.cell d3
        replace d4 := HER.out.cell d4
        replace d5 := HER.out.cell d5
        replace d6 := HER.out.cell d6
        have hb1 := HPB.out k (by have := HL.out; omega)
        have hb2 := HPB.out (k + 1) (by have := HL.out; omega)
        have hn : areaN xs (bts s) (k + 1) = tv + ((ptH xs (bts s) k).1 * (ptH xs (bts s) (k + 1)).2 - (ptH xs (bts s) (k + 1)).1 * (ptH xs (bts s) k).2) := by rw [← HT.out]; rfl
        have hm1 := mul_bd hb1.1 hb2.2
        have hm2 := mul_bd hb2.1 hb1.2
        obtain ⟨X0, hX0⟩ : ∃ X, (ptH xs (bts s) k).1 = X := ⟨_, rfl⟩
        obtain ⟨Y0, hY0⟩ : ∃ X, (ptH xs (bts s) k).2 = X := ⟨_, rfl⟩
        obtain ⟨X1, hX1⟩ : ∃ X, (ptH xs (bts s) (k + 1)).1 = X := ⟨_, rfl⟩
        obtain ⟨Y1, hY1⟩ : ∃ X, (ptH xs (bts s) (k + 1)).2 = X := ⟨_, rfl⟩
        rw [hX0, hX1, hY0, hY1] at hn
        rw [hX0, hY1] at hm1
        rw [hX1, hY0] at hm2
        rw [hX0] at d2
        rw [hY0] at d3
        rw [hX1] at d5
        rw [hY1] at d6
        have HN := Lib.hid hn
        clear hb1 hb2 hX0 hX1 hY0 hY1 hn
        go_upto_region 7 with fail
        go_quiet (fail)
        go_wp2
        go_roundw
        case rel => first | exact ⟨k + 1, tv + (X0 * Y1 - X1 * Y0), by omega, by go_num, rfl, HN, Lib.hid (HER.out.drewN _)⟩ | ((repeat apply Exists.intro); exact ⟨⟨k + 1, tv + (X0 * Y1 - X1 * Y0), by omega, by go_num, rfl, HN, Lib.hid (HER.out.drewN _)⟩, rfl⟩)
        case measure => (simp [intOf] <;> omega)
      · obtain rfl : k = n := by omega
        by_cases ht : tv < 0
        all_goals
          go_wp2
          go_ret2
          exact RetE.mk (by rw [HT.out]; unfold absI sel; simp [ht] <;> (first | omega | (rw [← Int.neg_tdiv, Int.tdiv_eq_ediv_of_nonneg (by omega)]; first | omega | (unfold wrap64; omega)))) (E2.out.trans HER.out)
set_option maxRecDepth 100000 in
set_option maxHeartbeats 2000000 in
theorem s_AreaInside (ao : Option Addr) (n c : Nat) (xs : List Int) (s : ByteArray) (w : World) (hx : Ints w ao n xs) (hs : s.size ≤ 9223372036854775807) :
    Calls Tryz.prog 13 #[.agg #[.slice ao n c, .string s]] w (RetE (.tuple #[.int .i64 (areaH xs (bts s) n), .int .i64 (sel (validH xs (bts s)) 0 1)]) w) := by
  have e0 : Ext w (w.alloc (.cells #[.slice ao n c, .string s] 26)) := (Ext.refl w).alloc _
  have HX := Lib.hid hx
  have HL := Lib.hid hx.1
  have hxm := hx.2.1
  clear hx
  obtain ⟨v, hv⟩ : ∃ v, validH xs (bts s) = v := ⟨_, rfl⟩
  have hA : areaH xs (bts s) n = sel v (absI (areaN xs (bts s) n) / 2) 0 := by unfold areaH; rw [hv]
  rw [hv, hA]
  clear hA
  have HBX : Hid (v = true → s.size = n ∧ n ≤ 12 ∧ ∀ x ∈ xs, 8 ≤ x ∧ x ≤ 200) := Lib.hid (fun h => by have h1 := validH_bd (hv.trans h); have := HL.out; rw [bts_length] at h1; exact ⟨by omega, by omega, h1.2.2.1⟩)
  cases v
  · go_enter Tryz.func13, Tryz.ntmps13
    go_wp2_with (go_at_call 30; refine (s_l07Ok _ _ _ _ _ _ _ (Two.new w _ _ _) (HX.out.ext e0) hs).mono ?_; rw [hv]; rintro e w1 ⟨rfl, e1⟩; have E1 := Lib.hid (e0.trans e1))
    go_ret2
    exact RetE.mk rfl E1.out
  · obtain ⟨g3, n12, hb⟩ := HBX.out rfl
    have HB8 := Lib.hid hb
    have HAB := Lib.hid (fun k (h : k ≤ xs.length) => areaN_bd (bts s) hb (by have := HL.out; omega) k h)
    have HPB := Lib.hid (fun k (h : k ≤ xs.length) => ptH_bd (bts s) hb (by have := HL.out; omega) k h)
    clear hb
    go_enter Tryz.func13, Tryz.ntmps13
    go_wp2_with (first | (go_at_call 30; refine (s_l07Ok _ _ _ _ _ _ _ (Two.new w _ _ _) (HX.out.ext e0) hs).mono ?_; rw [hv]; rintro e w1 ⟨rfl, e1⟩; have E1 := Lib.hid (e0.trans e1); have HT1 := Lib.hid ((Two.new w (.slice ao n c) (.string s) 26).ext e1)) | (go_at_call 34; refine (s_l07Points _ _ _ _ _ _ _ HT1.out (HX.out.ext E1.out) g3 n12 HB8.out).mono ?_; rintro e w2 ⟨a2, c2, rfl, o2, e2⟩; rw [ptsH_len] at o2 ⊢; have E2 := Lib.hid (E1.out.trans e2); obtain ⟨pg, rfl, hp⟩ := o2.pts.uni (Nat.succ_pos n); have HP := Lib.hid hp; have HT2 := Lib.hid (HT1.out.ext e2); obtain ⟨q0, q1, q2⟩ := HT2.out; clear o2 hp))
    go_loopw [5, 6] (fun t i wr => ∃ (k : Nat) (tv : Int), k ≤ n ∧ i = .int .i64 k ∧ t = .int .i64 tv ∧ Hid (areaN xs (bts s) k = tv) ∧ Hid (Ext w2 wr)) (fun _ i _ => n - (intOf i).toNat)
    case atStart => exact ⟨0, 0, Nat.zero_le _, rfl, rfl, Lib.hid rfl, Lib.hid (Ext.refl _)⟩
    case round =>
      obtain ⟨k, tv, hk, rfl, rfl, HT, HER⟩ := hrel
      obtain ⟨q0, q1, q2⟩ := HT2.out.ext HER.out
      have hab := HAB.out k (by have := HL.out; omega)
      rw [HT.out] at hab
      by_cases hlt : k < n
      · obtain ⟨g1, d1, d2, d3⟩ := HP.out k (by omega)
        obtain ⟨g2, d4, d5, d6⟩ := HP.out (k + 1) (by omega)
        rw [ptsH_at _ _ _ _ (by omega)] at d2 d3 d5 d6
        replace d1 := HER.out.cell d1
        replace d2 := HER.out.cell d2
        replace d3 := HER.out.cell d3
        replace d4 := HER.out.cell d4
        replace d5 := HER.out.cell d5
        replace d6 := HER.out.cell d6
        have hb1 := HPB.out k (by have := HL.out; omega)
        have hb2 := HPB.out (k + 1) (by have := HL.out; omega)
        have hn : areaN xs (bts s) (k + 1) = tv + ((ptH xs (bts s) k).1 * (ptH xs (bts s) (k + 1)).2 - (ptH xs (bts s) (k + 1)).1 * (ptH xs (bts s) k).2) := by rw [← HT.out]; rfl
        have hm1 := mul_bd hb1.1 hb2.2
        have hm2 := mul_bd hb2.1 hb1.2
        obtain ⟨X0, hX0⟩ : ∃ X, (ptH xs (bts s) k).1 = X := ⟨_, rfl⟩
        obtain ⟨Y0, hY0⟩ : ∃ X, (ptH xs (bts s) k).2 = X := ⟨_, rfl⟩
        obtain ⟨X1, hX1⟩ : ∃ X, (ptH xs (bts s) (k + 1)).1 = X := ⟨_, rfl⟩
        obtain ⟨Y1, hY1⟩ : ∃ X, (ptH xs (bts s) (k + 1)).2 = X := ⟨_, rfl⟩
        rw [hX0, hX1, hY0, hY1] at hn
        rw [hX0, hY1] at hm1
        rw [hX1, hY0] at hm2
        rw [hX0] at d2
        rw [hY0] at d3
        rw [hX1] at d5
        rw [hY1] at d6
        have HN := Lib.hid hn
        clear hb1 hb2 hX0 hX1 hY0 hY1 hn
        go_upto_region 8 with fail
        go_quiet (fail)
        go_wp2
        go_roundw
        case rel => first | exact ⟨k + 1, tv + (X0 * Y1 - X1 * Y0), by omega, by go_num, rfl, HN, Lib.hid (HER.out.drewN _)⟩ | ((repeat apply Exists.intro); exact ⟨⟨k + 1, tv + (X0 * Y1 - X1 * Y0), by omega, by go_num, rfl, HN, Lib.hid (HER.out.drewN _)⟩, rfl⟩)
        case measure => (simp [intOf] <;> omega)
      · obtain rfl : k = n := by omega
        obtain ⟨u, hu, u0, u1⟩ : ∃ u, absI tv = u ∧ 0 ≤ u ∧ u ≤ 138240000 := ⟨_, rfl, by unfold absI; split <;> omega, by unfold absI; split <;> omega⟩
        go_wp2_with (go_at_call 37; refine (s_l02Size_abs _ (by omega) (by omega) _).mono ?_; rw [hu]; rintro e w' ⟨rfl, rfl⟩)
        go_ret2
        exact RetE.mk (by rw [HT.out, hu]; unfold sel; simp <;> (first | omega | (rw [Int.tdiv_eq_ediv_of_nonneg (by omega)]; first | omega | (unfold wrap64; omega)))) (E2.out.trans HER.out)
end Go.Proofs.YtaokeaiehjgbnaaGreatDoor

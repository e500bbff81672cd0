/- Plans of houses: round the house, the code of a question, what runs through a corner, the lap at a corner, a side in a course: both sides. -/
import Derived.Test.YtlgdaddplibglaaHouse4
namespace Go.Proofs.Ytlgdaddplibglaa
open Go.RowKit
set_option linter.unusedSimpArgs false
set_option linter.unusedVariables false
set_option linter.unnecessarySimpa false

def sumN (xs : List Int) : Nat → Int
  | 0 => 0
  | k + 1 => sumN xs k + xs.getD k 0
theorem sumN_bd {xs : List Int} (h : ∀ x ∈ xs, 8 ≤ x ∧ x ≤ 200) (k : Nat) (hk : k ≤ xs.length) : 0 ≤ sumN xs k ∧ sumN xs k ≤ 200 * k := by
  induction k with
  | zero => simp [sumN]
  | succ k ih =>
    have h1 := ih (by omega)
    have h2 := sides_at h k (by omega)
    show 0 ≤ sumN xs k + xs.getD k 0 ∧ sumN xs k + xs.getD k 0 ≤ _
    omega
def inRange (n : Nat) (k r : Int) : Bool := inB k 0 (n - 1) && inB r 0 1000
/-- the code of a question about corner or side k and course r -/
def codeH (xs : List Int) (t : List UInt8) (k r : Int) : Int := sel (validH xs t) (sel (inRange xs.length k r) 0 2) 1
def thruI (k r : Int) : Bool := decide ((k + r) % 2 = 0)
def runsH (xs : List Int) (t : List UInt8) (k r : Int) : Bool := decide (codeH xs t k r = 0) && thruI k r
def lapH (xs : List Int) (t : List UInt8) (k : Int) (cav : Bool) : Int := if codeH xs t k 0 = 0 then sel cav 1 2 else 0
def sideI (xs : List Int) (k r : Int) : Int := xs.getD k.toNat 0 - (if (k + r) % 2 = 0 then 0 else 2) - (if ((k + xs.length - 1) % xs.length + r) % 2 = 0 then 2 else 0)
def sideH (xs : List Int) (t : List UInt8) (k r : Int) : Int := if codeH xs t k r = 0 then sideI xs k r else 0
theorem code_0 {xs : List Int} {t : List UInt8} {k r : Int} (h : codeH xs t k r = 0) : validH xs t = true ∧ 0 ≤ k ∧ k < xs.length ∧ 0 ≤ r ∧ r ≤ 1000 := by
  unfold codeH sel at h
  split at h
  · rename_i h1
    split at h
    · rename_i h2
      unfold inRange at h2
      rw [Bool.and_eq_true, inB_iff, inB_iff] at h2
      exact ⟨h1, by omega, by omega, by omega, by omega⟩
    · omega
  · omega
theorem code_bd (xs : List Int) (t : List UInt8) (k r : Int) : codeH xs t k r = 0 ∨ codeH xs t k r = 1 ∨ codeH xs t k r = 2 := by
  unfold codeH sel
  split
  · split <;> simp
  · simp
theorem i_sumOf (ao : Option Addr) (n c : Nat) (xs : List Int) (w : World) (hx : Ints w ao n xs) (n12 : n ≤ 12) (hb : ∀ x ∈ xs, 8 ≤ x ∧ x ≤ 200) :
    Calls Try.prog 44 #[.slice ao n c] w (RetV (.int .i64 (sumN xs n)) w) := by
  have hxl := hx.1
  have HX := Lib.hid hx
  have HBd := Lib.hid (fun k (h : k ≤ xs.length) => sumN_bd hb k h)
  have HSd := Lib.hid (fun k (h : k < xs.length) => sides_at hb k h)
  have HL := Lib.hid hxl
  clear hx hxl hb
  go_enter Try.func44, Try.ntmps44
  go_wp2
  go_loop [3, 8] (fun t i => ∃ (k : Nat) (tv : Int), k ≤ n ∧ i = .int .i64 k ∧ t = .int .i64 tv ∧ Hid (sumN xs k = tv)) (fun _ i => n - (intOf i).toNat)
  case atStart => exact ⟨0, 0, Nat.zero_le _, rfl, rfl, Lib.hid rfl⟩
  case round =>
    obtain ⟨k, tv, hk, rfl, rfl, HT⟩ := hrel
    by_cases hlt : k < n
    · obtain ⟨bb, off, rfl, d0⟩ := HX.out.2.2.1 k hlt
      have hbd := HBd.out k (by have := HL.out; omega)
      have hsd := HSd.out k (by have := HL.out; omega)
      rw [HT.out] at hbd
      have HN : Hid (sumN xs (k + 1) = tv + xs.getD k 0) := Lib.hid (by rw [← HT.out]; rfl)
      obtain ⟨sd, hsde⟩ : ∃ sd, xs.getD k 0 = sd := ⟨_, rfl⟩
      rw [hsde] at d0 hsd HN
      clear hsde
      go_wp2
      go_round
      case rel => exact ⟨k + 1, tv + sd, by omega, by go_num, rfl, HN⟩
      case measure => (simp [intOf] <;> omega)
    · obtain rfl : k = n := by omega
      go_wp2
      go_ret
      exact RetV.mk (int_eq HT.out.symm)
theorem i_RoundHouse (ao : Option Addr) (n c : Nat) (xs : List Int) (s : ByteArray) (w : World) (hx : Ints w ao n xs) (hs : s.size ≤ 9223372036854775807) :
    Calls Try.prog 25 #[.agg #[.slice ao n c, .string s]] w (RetE (.tuple #[.int .i64 (sel (validH xs (bts s)) (sumN xs n) 0), .int .i64 (sel (validH xs (bts s)) 0 1)]) w) := by
  have e0 : Ext w (w.alloc (.cells #[.slice ao n c, .string s] 26)) := (Ext.refl w).alloc _
  have HX := Lib.hid hx
  have HL := Lib.hid hx.1
  clear hx
  obtain ⟨v, hv⟩ : ∃ v, validH xs (bts s) = v := ⟨_, rfl⟩
  rw [hv]
  have HBX : Hid (v = true → n ≤ 12 ∧ ∀ x ∈ xs, 8 ≤ x ∧ x ≤ 200) := Lib.hid (fun h => by have h1 := validH_bd (hv.trans h); have := HL.out; exact ⟨by omega, h1.2.2.1⟩)
  cases v
  all_goals
    go_enter Try.func25, Try.ntmps25
    go_wp2_with (first | (go_at_call 43; refine (i_ValidHouse _ _ _ _ _ _ (HX.out.ext e0) hs).mono ?_; rw [hv]; rintro e w1 ⟨rfl, e1⟩; obtain ⟨p0, p1, p2, p3, p4⟩ := two_cells (e1.block (heap_alloc_new w _)); have E1 := Lib.hid (e0.trans e1)) | (go_at_call 44; refine (i_sumOf _ _ _ _ _ (HX.out.ext E1.out) (HBX.out (by trivial)).1 (HBX.out (by trivial)).2).mono ?_; rintro e w2 ⟨rfl, rfl⟩))
    go_ret2
    exact RetE.mk rfl E1.out
set_option maxHeartbeats 1000000 in
theorem i_houseCode (ao : Option Addr) (n c : Nat) (xs : List Int) (s : ByteArray) (k r : Int) (w : World) (hx : Ints w ao n xs) (hs : s.size ≤ 9223372036854775807) :
    Calls Try.prog 32 #[.agg #[.slice ao n c, .string s], .int .i64 k, .int .i64 r] w (RetE (.int .i64 (codeH xs (bts s) k r)) w) := by
  have e0 : Ext w (w.alloc (.cells #[.slice ao n c, .string s] 26)) := (Ext.refl w).alloc _
  have HX := Lib.hid hx
  have HL := Lib.hid hx.1
  have hC : codeH xs (bts s) k r = sel (validH xs (bts s)) (sel (inB k 0 (n - 1) && inB r 0 1000) 0 2) 1 := by unfold codeH inRange; rw [hx.1]
  rw [hC]
  clear hx hC
  obtain ⟨v, hv⟩ : ∃ v, validH xs (bts s) = v := ⟨_, rfl⟩
  obtain ⟨b1, g1⟩ : ∃ b, inB k 0 (n - 1) = b := ⟨_, rfl⟩
  obtain ⟨b2, g2⟩ : ∃ b, inB r 0 1000 = b := ⟨_, rfl⟩
  rw [hv, g1, g2]
  have HBX : Hid (v = true → 4 ≤ n ∧ n ≤ 12) := Lib.hid (fun h => by have h1 := validH_bd (hv.trans h); have := HL.out; omega)
  cases v
  case false =>
    go_enter Try.func32, Try.ntmps32
    go_wp2_with (first | (go_at_call 43; refine (i_ValidHouse _ _ _ _ _ _ (HX.out.ext e0) hs).mono ?_; rw [hv]; rintro e w1 ⟨rfl, e1⟩; obtain ⟨p0, p1, p2, p3, p4⟩ := two_cells (e1.block (heap_alloc_new w _)); have E1 := Lib.hid (e0.trans e1)))
    go_ret
    exact RetE.mk rfl E1.out
  case true =>
    obtain ⟨n1, n2⟩ := HBX.out rfl
    cases b1
    case false =>
      go_enter Try.func32, Try.ntmps32
      go_wp2_with (first | (go_at_call 43; refine (i_ValidHouse _ _ _ _ _ _ (HX.out.ext e0) hs).mono ?_; rw [hv]; rintro e w1 ⟨rfl, e1⟩; obtain ⟨p0, p1, p2, p3, p4⟩ := two_cells (e1.block (heap_alloc_new w _)); have E1 := Lib.hid (e0.trans e1)) | (go_at_call 46; refine (i_within _ _ _ _).mono ?_; rw [g1]; rintro e w' ⟨rfl, rfl⟩))
      go_ret
      exact RetE.mk rfl E1.out
    case true =>
      cases b2
      all_goals
        go_enter Try.func32, Try.ntmps32
        go_wp2_with (first | (go_at_call 43; refine (i_ValidHouse _ _ _ _ _ _ (HX.out.ext e0) hs).mono ?_; rw [hv]; rintro e w1 ⟨rfl, e1⟩; obtain ⟨p0, p1, p2, p3, p4⟩ := two_cells (e1.block (heap_alloc_new w _)); have E1 := Lib.hid (e0.trans e1)) | (go_at_call 46; refine (i_within _ _ _ _).mono ?_; (first | rw [g1] | rw [g2]); rintro e w' ⟨rfl, rfl⟩))
        go_ret
        exact RetE.mk rfl E1.out
set_option maxHeartbeats 1000000 in
theorem s_l07Code (pb : Nat) (ao : Option Addr) (n c : Nat) (xs : List Int) (s : ByteArray) (k r : Int) (w : World) (hB : Two w pb (.slice ao n c) (.string s)) (hx : Ints w ao n xs) (hs : s.size ≤ 9223372036854775807) :
    Calls Try.prog 39 #[.pointer (some ⟨pb, 0, none⟩), .int .i64 k, .int .i64 r] w (RetE (.int .i64 (codeH xs (bts s) k r)) w) := by
  have HX := Lib.hid hx
  have HB := Lib.hid hB
  have HL := Lib.hid hx.1
  have hC : codeH xs (bts s) k r = sel (validH xs (bts s)) (sel (inB k 0 (n - 1) && inB r 0 1000) 0 2) 1 := by unfold codeH inRange; rw [hx.1]
  rw [hC]
  clear hx hC hB
  obtain ⟨v, hv⟩ : ∃ v, validH xs (bts s) = v := ⟨_, rfl⟩
  obtain ⟨b1, g1⟩ : ∃ b, inB k 0 (n - 1) = b := ⟨_, rfl⟩
  obtain ⟨b2, g2⟩ : ∃ b, inB r 0 1000 = b := ⟨_, rfl⟩
  rw [hv, g1, g2]
  have HBX : Hid (v = true → 4 ≤ n ∧ n ≤ 12) := Lib.hid (fun h => by have h1 := validH_bd (hv.trans h); have := HL.out; omega)
  cases v
  case false =>
    go_enter Try.func39, Try.ntmps39
    go_wp2_with (first | (go_at_call 28; refine (s_l07Ok _ _ _ _ _ _ _ HB.out HX.out hs).mono ?_; rw [hv]; rintro e w1 ⟨rfl, e1⟩; obtain ⟨p0, p1, p2⟩ := HB.out.ext e1; have E1 := Lib.hid e1))
    go_ret
    exact RetE.mk rfl E1.out
  case true =>
    obtain ⟨n1, n2⟩ := HBX.out rfl
    cases b1
    case false =>
      go_enter Try.func39, Try.ntmps39
      go_wp2_with (first | (go_at_call 28; refine (s_l07Ok _ _ _ _ _ _ _ HB.out HX.out hs).mono ?_; rw [hv]; rintro e w1 ⟨rfl, e1⟩; obtain ⟨p0, p1, p2⟩ := HB.out.ext e1; have E1 := Lib.hid e1) | (go_at_call 29; refine (s_l00In _ _ _ _).mono ?_; rw [g1]; rintro e w' ⟨rfl, rfl⟩))
      go_ret
      exact RetE.mk rfl E1.out
    case true =>
      cases b2
      all_goals
        go_enter Try.func39, Try.ntmps39
        go_wp2_with (first | (go_at_call 28; refine (s_l07Ok _ _ _ _ _ _ _ HB.out HX.out hs).mono ?_; rw [hv]; rintro e w1 ⟨rfl, e1⟩; obtain ⟨p0, p1, p2⟩ := HB.out.ext e1; have E1 := Lib.hid e1) | (go_at_call 29; refine (s_l00In _ _ _ _).mono ?_; (first | rw [g1] | rw [g2]); rintro e w' ⟨rfl, rfl⟩))
        go_ret
        exact RetE.mk rfl E1.out
end Go.Proofs.Ytlgdaddplibglaa

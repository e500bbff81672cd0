/- Contracts of the reference's small functions for the best course. -/
import Derived.Test.YtciamgnfbhijlaaBestTab
import Derived.Test.YtciamgnfbhijlaaRecs
import Derived.Test.YtciamgnfbhijlaaClashMath
namespace Go.Proofs.Ytciamgnfbhijlaa
open Go.RowKit
set_option linter.unusedSimpArgs false
set_option linter.unusedVariables false
set_option linter.unnecessarySimpa false

def cutV (b : Int) : Int := if cutI b then 1 else 0
theorem s_l08Cost (n : Int) (w : World) : Calls Try.prog 63 #[.int .u8 n] w (RetV (.int .i64 (cutV n)) w) := by
  cases h : cutI n
  all_goals
    have hv : Hid (cutV n = if cutI n then 1 else 0) := rfl
    have H := Lib.hid (fun W => s_l02Cut n W)
    rw [h] at H hv
    go_enter Try.func63, Try.ntmps63
    go_wp2_with (go_at_call 59; refine (H.out _).mono ?_; rintro e w' ⟨rfl, rfl⟩)
    go_ret
    exact RetV.mk (int_eq (by rw [hv.out]; rfl))
/-- better, as the reference tells it; a number of cut pieces below 0 tells that there is none -/
def lessG (a b : Int) (s : ByteArray) (a' b' : Int) (s' : ByteArray) : Bool :=
  if a < 0 ∨ a' < 0 then decide (0 ≤ a) && decide (a' < 0) else if a = a' then (if b = b' then Op.bytesLess s.toList s'.toList else decide (b < b')) else decide (a < a')
set_option maxHeartbeats 1600000 in
theorem s_l08Less (a b : Int) (s : ByteArray) (a' b' : Int) (s' : ByteArray) (w : World) : Calls Try.prog 64 #[.agg #[.int .i64 a, .int .i64 b, .string s], .agg #[.int .i64 a', .int .i64 b', .string s']] w (RetE (.bool (lessG a b s a' b' s')) w) := by
  have e2 : Ext w ((w.alloc (.cells #[.int .i64 a, .int .i64 b, .string s] 64)).alloc (.cells #[.int .i64 a', .int .i64 b', .string s'] 64)) := ((Ext.refl w).alloc _).alloc _
  have HE := Lib.hid e2
  clear e2
  by_cases h1 : a < 0
  · have HV : Hid (lessG a b s a' b' s' = false) := Lib.hid (by unfold lessG; rw [if_pos (Or.inl h1)]; simp; omega)
    go_enter Try.func64, Try.ntmps64
    go_wp2
    go_ret
    exact RetE.mk (bool_eq HV.out.symm) HE.out
  · by_cases h2 : a' < 0
    · have HV : Hid (lessG a b s a' b' s' = true) := Lib.hid (by unfold lessG; rw [if_pos (Or.inr h2)]; simp; omega)
      go_enter Try.func64, Try.ntmps64
      go_wp2
      go_ret
      exact RetE.mk (bool_eq HV.out.symm) HE.out
    · have HL : Hid (lessG a b s a' b' s' = if a = a' then (if b = b' then Op.bytesLess s.toList s'.toList else decide (b < b')) else decide (a < a')) := Lib.hid (by unfold lessG; rw [if_neg (by omega)])
      by_cases h3 : a = a'
      · subst h3
        by_cases h4 : b = b'
        · subst h4
          obtain ⟨u, hu⟩ : ∃ u, Op.bytesLess s.toList s'.toList = u := ⟨_, rfl⟩
          have HV : Hid (lessG a b s a b s' = u) := Lib.hid (by rw [HL.out, if_pos rfl, if_pos rfl, hu])
          clear HL
          go_enter Try.func64, Try.ntmps64
          go_wp2
          go_ret
          exact RetE.mk (bool_eq HV.out.symm) HE.out
        · have HV : Hid (lessG a b s a b' s' = decide (b < b')) := Lib.hid (by rw [HL.out, if_pos rfl, if_neg h4])
          have t : (b != b') = true := by simp [h4]
          clear HL
          go_enter Try.func64, Try.ntmps64
          go_wp2
          go_ret
          exact RetE.mk (bool_eq HV.out.symm) HE.out
      · have HV : Hid (lessG a b s a' b' s' = decide (a < a')) := Lib.hid (by rw [HL.out, if_neg h3])
        have t : (a != a') = true := by simp [h3]
        clear HL
        go_enter Try.func64, Try.ntmps64
        go_wp2
        go_ret
        exact RetE.mk (bool_eq HV.out.symm) HE.out
/-- a place is at least a lap from all places of a list -/
def farB (lap : Int) (xs : List Int) (y : Int) : Bool := xs.all fun x => decide (lap ≤ dist x y)
def Near (xs : List Int) : Prop := ∀ x ∈ xs, -1000000000000 ≤ x ∧ x ≤ 1000000000000
set_option maxHeartbeats 800000 in
theorem s_l08Far (ao : Option Addr) (n c : Nat) (xs : List Int) (y lap : Int) (w : World) (hx : Ints w ao n xs) (hb : Near xs) (y1 : -1000000000000 ≤ y) (y2 : y ≤ 1000000000000) :
    Calls Try.prog 62 #[.slice ao n c, .int .i64 y, .int .i64 lap] w (RetV (.bool (farB lap xs y)) w) := by
  obtain ⟨hxl, hxm, hxc, hxi⟩ := hx
  go_enter Try.func62, Try.ntmps62
  go_wp2
  go_loop [7] (fun i => ∃ k : Nat, k ≤ n ∧ i = .int .i64 k ∧ (xs.take k).all (fun x => decide (lap ≤ dist x y)) = true) (fun i => n - (intOf i).toNat)
  case atStart => exact ⟨0, Nat.zero_le _, rfl, by simp⟩
  case round =>
    obtain ⟨k, hk, rfl, hall⟩ := hrel
    have HA := Lib.hid hall
    clear hall
    by_cases hlt : k < n
    · obtain ⟨b, off, rfl, hc⟩ := hxc k hlt
      have hkx : k < xs.length := by omega
      obtain ⟨x, hxk⟩ : ∃ x, xs.getD k 0 = x := ⟨_, rfl⟩
      rw [hxk] at hc
      rw [List.getD_eq_getElem?_getD, List.getElem?_eq_getElem hkx, Option.getD_some] at hxk
      have hmem : x ∈ xs := by rw [← hxk]; exact List.getElem_mem _
      have ⟨b1, b2⟩ := hb x hmem
      have hs : (xs.take (k + 1)).all (fun x => decide (lap ≤ dist x y)) = decide (lap ≤ dist x y) := by
        rw [List.take_succ_eq_append_getElem hkx, List.all_append, HA.out, hxk]; simp
      have HS := Lib.hid (fun W => s_l02Size x y b1 b2 y1 y2 W)
      obtain ⟨d, hd⟩ : ∃ d, dist x y = d := ⟨_, rfl⟩
      rw [hd] at HS hs
      have HD := Lib.hid hd
      have HSS := Lib.hid hs
      clear hxk hs hd
      by_cases hdl : d < lap
      · have HV : Hid (farB lap xs y = false) := Lib.hid (by
          unfold farB
          rw [List.all_eq_false]
          exact ⟨x, hmem, by rw [HD.out]; simp; omega⟩)
        clear hmem
        go_wp2_with (go_at_call 61; refine (HS.out _).mono ?_; rintro e w' ⟨rfl, rfl⟩)
        go_ret
        exact RetV.mk (bool_eq HV.out.symm)
      · clear hmem
        go_wp2_with (go_at_call 61; refine (HS.out _).mono ?_; rintro e w' ⟨rfl, rfl⟩)
        go_round
        case rel => exact ⟨k + 1, by omega, by go_num, by rw [HSS.out]; simp; omega⟩
        case measure => simp [intOf]; omega
    · have h := HA.out
      rw [List.take_of_length_le (by omega)] at h
      have HV : Hid (farB lap xs y = true) := Lib.hid h
      clear h
      go_wp2
      go_ret
      exact RetV.mk (bool_eq HV.out.symm)
theorem s_l08Lengths (a b : Int) (w : World) : Calls Try.prog 29 #[.int .i64 a, .int .i64 b] w (RetV (.bool (inB a 1 80 && inB b 1 4)) w) := by
  cases h1 : inB a 1 80
  all_goals
    have H1 : Hid (∀ W, Calls Try.prog 48 #[.int .i64 a, .int .i64 1, .int .i64 80] W (RetV (.bool (inB a 1 80)) W)) := Lib.hid (fun W => s_l00In _ _ _ W)
    have H2 : Hid (∀ W, Calls Try.prog 48 #[.int .i64 b, .int .i64 1, .int .i64 4] W (RetV (.bool (inB b 1 4)) W)) := Lib.hid (fun W => s_l00In _ _ _ W)
    rw [h1] at H1
    clear h1
    obtain ⟨u, hu⟩ : ∃ u, inB b 1 4 = u := ⟨_, rfl⟩
    rw [hu] at H2 ⊢
    clear hu
    go_enter Try.func29, Try.ntmps29
    go_wp2_with (first | (go_at_call_of 48 (Value.int IntKind.i64 a); refine (H1.out _).mono ?_; rintro e w' ⟨rfl, rfl⟩) | (go_at_call_of 48 (Value.int IntKind.i64 b); refine (H2.out _).mono ?_; rintro e w' ⟨rfl, rfl⟩))
    go_ret
    exact RetV.mk (bool_eq (by simp))
end Go.Proofs.Ytciamgnfbhijlaa

/- Contracts of the functions of storey rods that only compute with integers. -/
import Derived.Test.YtfbcbknddmkfkaaRows
import Derived.Test.YtfbcbknddmkfkaaLib
import Derived.Test.YtfbcbknddmkfkaaGaugeMath
namespace Go.Proofs.Ytfbcbknddmkfkaa
open Go.RowKit
set_option linter.unusedSimpArgs false
set_option linter.unusedVariables false
set_option linter.unnecessarySimpa false

theorem i_within (n a b : Int) (w : World) : Calls Try.prog 54 #[.int .i64 n, .int .i64 a, .int .i64 b] w (RetV (.bool (inB n a b)) w) := by
  by_cases h1 : a ≤ n <;> by_cases h2 : n ≤ b
  all_goals
    go_enter Try.func54, Try.ntmps54
    go_wp2
    go_ret
    exact RetV.mk (by simp [inB, *])
theorem s_l00In (n a b : Int) (w : World) : Calls Try.prog 51 #[.int .i64 n, .int .i64 a, .int .i64 b] w (RetV (.bool (inB n a b)) w) := by
  by_cases h1 : a ≤ n <;> by_cases h2 : n ≤ b
  all_goals
    go_enter Try.func51, Try.ntmps51
    go_wp2
    go_ret
    exact RetV.mk (by simp [inB, *])
theorem i_apart (a b : Int) (h1 : -1000000000000 ≤ a) (h2 : a ≤ 1000000000000) (h3 : -1000000000000 ≤ b) (h4 : b ≤ 1000000000000) (w : World) :
    Calls Try.prog 84 #[.int .i64 a, .int .i64 b] w (RetV (.int .i64 (dist a b)) w) := by
  by_cases h : a < b
  all_goals
    go_enter Try.func84, Try.ntmps84
    go_wp2
    go_ret
    exact RetV.mk (int_eq (by unfold dist; split <;> omega))
theorem s_l02Size_abs (n : Int) (h1 : -4000000000000000000 ≤ n) (h2 : n ≤ 4000000000000000000) (w : World) :
    Calls Try.prog 83 #[.int .i64 n] w (RetV (.int .i64 (absI n)) w) := by
  by_cases h : n < 0
  all_goals
    go_enter Try.func83, Try.ntmps83
    go_wp2
    go_ret
    exact RetV.mk (int_eq (by unfold absI; split <;> omega))
theorem s_l02Size (a b : Int) (h1 : -1000000000000 ≤ a) (h2 : a ≤ 1000000000000) (h3 : -1000000000000 ≤ b) (h4 : b ≤ 1000000000000) (w : World) :
    Calls Try.prog 83 #[.int .i64 (a - b)] w (RetV (.int .i64 (dist a b)) w) := by
  rw [← dist_abs]
  exact s_l02Size_abs _ (by omega) (by omega) w

/-! ### marks -/
theorem mark_div (h c k : Int) : (2 * (k * h) + c) / (2 * c) = mark h c k := rfl

theorem i_rounded (a c : Int) (a1 : 0 ≤ a) (a2 : a ≤ 1000000000000) (c1 : 1 ≤ c) (c2 : c ≤ 1000000000) (w : World) :
    Calls Try.prog 95 #[.int .i64 a, .int .i64 c] w (RetV (.int .i64 ((2 * a + c) / (2 * c))) w) := by
  go_enter Try.func95, Try.ntmps95
  go_wp2
  go_ret
  exact RetV.mk rfl
theorem i_markOf (h c k : Int) (h1 : 0 ≤ h) (h2 : h ≤ 6000) (c1 : 1 ≤ c) (c2 : c ≤ 40) (k1 : 0 ≤ k) (k2 : k ≤ 40) (w : World) :
    Calls Try.prog 85 #[.int .i64 h, .int .i64 c, .int .i64 k] w (RetV (.int .i64 (mark h c k)) w) := by
  have ⟨b1, b2⟩ := mark_arg h k h1 h2 k1 k2
  go_enter Try.func85, Try.ntmps85
  go_wp2_with (go_at_call 95; refine (i_rounded _ _ (by omega) (by omega) (by omega) (by omega) _).mono ?_; rintro e w' ⟨rfl, rfl⟩)
  go_ret
  exact RetV.mk (int_eq (mark_div h c k))
theorem s_l10Mark (h c k : Int) (h1 : 0 ≤ h) (h2 : h ≤ 6000) (c1 : 1 ≤ c) (c2 : c ≤ 40) (k1 : 0 ≤ k) (k2 : k ≤ 40) (w : World) :
    Calls Try.prog 60 #[.int .i64 h, .int .i64 c, .int .i64 k] w (RetV (.int .i64 (mark h c k)) w) := by
  have ⟨b1, b2⟩ := mark_arg h k h1 h2 k1 k2
  have b3 : 2 * k * h = 2 * (k * h) := by rw [Int.mul_assoc]
  have b4 : 0 ≤ 2 * k * h := by omega
  have b5 : 2 * k * h ≤ 480000 := by omega
  have B3 := Lib.hid b3; clear b3
  go_enter Try.func60, Try.ntmps60
  go_wp2
  go_ret
  exact RetV.mk (int_eq (by unfold mark; rw [B3.out]))
set_option maxHeartbeats 400000 in
theorem i_nearestMark (h c l : Int) (h1 : 0 ≤ h) (h2 : h ≤ 6000) (c1 : 1 ≤ c) (c2 : c ≤ 40) (l1 : 0 ≤ l) (l2 : l ≤ 6000) (w : World) :
    Calls Try.prog 55 #[.int .i64 h, .int .i64 c, .int .i64 l] w (RetV (.int .i64 (near h c l c.toNat)) w) := by
  go_enter Try.func55, Try.ntmps55
  go_wp2
  go_loop [7, 8] (fun b i => ∃ k : Nat, (k : Int) ≤ c ∧ i = .int .i64 (k + 1) ∧ b = .int .i64 (near h c l k)) (fun _ i => (c + 1 - intOf i).toNat)
  case atStart => exact ⟨0, by omega, rfl, rfl⟩
  case round =>
    obtain ⟨k, hk, rfl, rfl⟩ := hrel
    have ⟨n1, n2⟩ := near_bd h c l k
    by_cases hlt : (k : Int) + 1 ≤ c
    · have ⟨m1, m2⟩ := mark_bd h c (k + 1) h1 h2 c1 c2 (by omega) (by omega)
      have ⟨m3, m4⟩ := mark_bd h c (near h c l k) h1 h2 c1 c2 (by omega) (by omega)
      have hs : Hid (near h c l (k + 1) = if dist (mark h c ((k : Int) + 1)) l < dist (mark h c (near h c l k)) l then (k : Int) + 1 else near h c l k) := rfl
      go_wp2_with (first | (go_at_call 85; refine (i_markOf _ _ _ (by omega) (by omega) (by omega) (by omega) (by omega) (by omega) _).mono ?_; rintro e w' ⟨rfl, rfl⟩) | (go_at_call 84; refine (i_apart _ _ (by omega) (by omega) (by omega) (by omega) _).mono ?_; rintro e w' ⟨rfl, rfl⟩))
      all_goals
        go_round
        case rel => exact ⟨k + 1, by omega, by go_num, by rw [hs.out]; first | rw [if_pos (by assumption)] | rw [if_neg (by omega)]⟩
        case measure => simp [intOf]; omega
    · go_wp2
      go_ret
      exact RetV.mk (int_eq (by rw [show c.toNat = k by omega]))

set_option maxHeartbeats 400000 in
theorem s_l10Nearest (h c l : Int) (h1 : 0 ≤ h) (h2 : h ≤ 6000) (c1 : 1 ≤ c) (c2 : c ≤ 40) (l1 : 0 ≤ l) (l2 : l ≤ 6000) (w : World) :
    Calls Try.prog 52 #[.int .i64 h, .int .i64 c, .int .i64 l] w (RetV (.int .i64 (near h c l c.toNat)) w) := by
  go_enter Try.func52, Try.ntmps52
  go_wp2
  go_loop [7, 8] (fun b i => ∃ k : Nat, (k : Int) ≤ c ∧ i = .int .i64 (k + 1) ∧ b = .int .i64 (near h c l k)) (fun _ i => (c + 1 - intOf i).toNat)
  case atStart => exact ⟨0, by omega, rfl, rfl⟩
  case round =>
    obtain ⟨k, hk, rfl, rfl⟩ := hrel
    have ⟨n1, n2⟩ := near_bd h c l k
    by_cases hlt : (k : Int) + 1 ≤ c
    · have ⟨m1, m2⟩ := mark_bd h c (k + 1) h1 h2 c1 c2 (by omega) (by omega)
      have ⟨m3, m4⟩ := mark_bd h c (near h c l k) h1 h2 c1 c2 (by omega) (by omega)
      have hs : Hid (near h c l (k + 1) = if dist (mark h c ((k : Int) + 1)) l < dist (mark h c (near h c l k)) l then (k : Int) + 1 else near h c l k) := rfl
      go_wp2_with (first | (go_at_call 60; refine (s_l10Mark _ _ _ (by omega) (by omega) (by omega) (by omega) (by omega) (by omega) _).mono ?_; rintro e w' ⟨rfl, rfl⟩) | (go_at_call 83; refine (s_l02Size _ _ (by omega) (by omega) (by omega) (by omega) _).mono ?_; rintro e w' ⟨rfl, rfl⟩))
      all_goals
        go_round
        case rel => exact ⟨k + 1, by omega, by go_num, by rw [hs.out]; first | rw [if_pos (by assumption)] | rw [if_neg (by omega)]⟩
        case measure => simp [intOf]; omega
    · go_wp2
      go_ret
      exact RetV.mk (int_eq (by rw [show c.toNat = k by omega]))
/-! ### codes of storeys -/
theorem i_isStorey (h c : Int) (w : World) : Calls Try.prog 53 #[.int .i64 h, .int .i64 c] w (RetV (.bool (gcode h c)) w) := by
  go_enter Try.func53, Try.ntmps53
  go_wp2_with (go_at_call 54; refine (i_within _ _ _ _).mono ?_; rintro e w' ⟨rfl, rfl⟩)
  all_goals
    go_ret
    exact RetV.mk (by simp [gcode, *])
theorem s_l10Height (h : Int) (w : World) : Calls Try.prog 82 #[.int .i64 h] w (RetV (.bool (inB h 100 6000)) w) := by
  go_enter Try.func82, Try.ntmps82
  go_wp2_with (go_at_call 51; refine (s_l00In _ _ _ _).mono ?_; rintro e w' ⟨rfl, rfl⟩)
  go_ret
  exact RetV.mk rfl
theorem s_l10Code (h c : Int) (w : World) : Calls Try.prog 50 #[.int .i64 h, .int .i64 c] w (RetV (.int .i64 (sel (gcode h c) 0 2)) w) := by
  by_cases g1 : inB h 100 6000 = true <;> by_cases g2 : inB c 1 40 = true
  all_goals
    go_enter Try.func50, Try.ntmps50
    go_wp2_with (first | (go_at_call 51; refine (s_l00In _ _ _ _).mono ?_; rintro e w' ⟨rfl, rfl⟩) | (go_at_call 82; refine (s_l10Height _ _).mono ?_; rintro e w' ⟨rfl, rfl⟩))
    all_goals
      go_ret
      exact RetV.mk (int_eq (by simp [sel, gcode, *]))

/-! ### the two functions -/
def nmOk (h c l : Int) : Bool := gcode h c && inB l 0 h
theorem nmOk_bd {h c l : Int} (g : nmOk h c l = true) : 100 ≤ h ∧ h ≤ 6000 ∧ 1 ≤ c ∧ c ≤ 40 ∧ 0 ≤ l ∧ l ≤ h := by simp [nmOk, gcode, inB] at g; omega
def Pair (a b : Int) (w : World) (e : Ending) (w' : World) : Prop := e = .returned (.tuple #[.int .i64 a, .int .i64 b]) ∧ w = w'
theorem Pair.mk {a b a' b' : Int} {w : World} (h : a' = a) (k : b' = b) : Pair a b w (.returned (.tuple #[.int .i64 a', .int .i64 b'])) w := ⟨by rw [h, k], rfl⟩
theorem i_NearestMark (h c l : Int) (w : World) :
    Calls Try.prog 16 #[.int .i64 h, .int .i64 c, .int .i64 l] w (Pair (sel (nmOk h c l) (near h c l c.toNat) 0) (sel (nmOk h c l) 0 2) w) := by
  by_cases g : nmOk h c l = true
  · obtain ⟨h1, h2, c1, c2, l1, l2⟩ := nmOk_bd g
    have g1 : gcode h c = true := by simp [nmOk] at g; exact g.1
    have g2 : inB l 0 h = true := by simp [nmOk] at g; exact g.2
    go_enter Try.func16, Try.ntmps16
    go_wp2_with (first | (go_at_call 53; refine (i_isStorey _ _ _).mono ?_; rintro e w' ⟨rfl, rfl⟩) | (go_at_call 54; refine (i_within _ _ _ _).mono ?_; rintro e w' ⟨rfl, rfl⟩) | (go_at_call 55; refine (i_nearestMark _ _ _ (by omega) (by omega) (by omega) (by omega) (by omega) (by omega) _).mono ?_; rintro e w' ⟨rfl, rfl⟩))
    go_ret2
    exact Pair.mk (by rw [sel_t g]) (by rw [sel_t g])
  · by_cases g1 : gcode h c = true
    · have g2 : inB l 0 h = false := by simpa [nmOk, g1] using g
      go_enter Try.func16, Try.ntmps16
      go_wp2_with (first | (go_at_call 53; refine (i_isStorey _ _ _).mono ?_; rintro e w' ⟨rfl, rfl⟩) | (go_at_call 54; refine (i_within _ _ _ _).mono ?_; rintro e w' ⟨rfl, rfl⟩))
      go_ret2
      exact Pair.mk (by rw [sel_f g]) (by rw [sel_f g])
    · simp only [Bool.not_eq_true] at g1
      go_enter Try.func16, Try.ntmps16
      go_wp2_with (first | (go_at_call 53; refine (i_isStorey _ _ _).mono ?_; rintro e w' ⟨rfl, rfl⟩) | (go_at_call 54; refine (i_within _ _ _ _).mono ?_; rintro e w' ⟨rfl, rfl⟩))
      go_ret2
      exact Pair.mk (by rw [sel_f g]) (by rw [sel_f g])
theorem s_NearestMark (h c l : Int) (w : World) :
    Calls Try.prog 15 #[.int .i64 h, .int .i64 c, .int .i64 l] w (Pair (sel (nmOk h c l) (near h c l c.toNat) 0) (sel (nmOk h c l) 0 2) w) := by
  by_cases g : nmOk h c l = true
  · obtain ⟨h1, h2, c1, c2, l1, l2⟩ := nmOk_bd g
    have g1 : gcode h c = true := by simp [nmOk] at g; exact g.1
    have g2 : inB l 0 h = true := by simp [nmOk] at g; exact g.2
    go_enter Try.func15, Try.ntmps15
    go_wp2_with (first | (go_at_call 50; refine (s_l10Code _ _ _).mono ?_; rw [sel_t g1]; rintro e w' ⟨rfl, rfl⟩) | (go_at_call 51; refine (s_l00In _ _ _ _).mono ?_; rintro e w' ⟨rfl, rfl⟩) | (go_at_call 52; refine (s_l10Nearest _ _ _ (by omega) (by omega) (by omega) (by omega) (by omega) (by omega) _).mono ?_; rintro e w' ⟨rfl, rfl⟩))
    go_ret2
    exact Pair.mk (by rw [sel_t g]) (by rw [sel_t g])
  · by_cases g1 : gcode h c = true
    · have g2 : inB l 0 h = false := by simpa [nmOk, g1] using g
      go_enter Try.func15, Try.ntmps15
      go_wp2_with (first | (go_at_call 50; refine (s_l10Code _ _ _).mono ?_; rw [sel_t g1]; rintro e w' ⟨rfl, rfl⟩) | (go_at_call 51; refine (s_l00In _ _ _ _).mono ?_; rintro e w' ⟨rfl, rfl⟩))
      go_ret2
      exact Pair.mk (by rw [sel_f g]) (by rw [sel_f g])
    · go_enter Try.func15, Try.ntmps15
      go_wp2_with (first | (go_at_call 50; refine (s_l10Code _ _ _).mono ?_; rw [sel_f g1]; rintro e w' ⟨rfl, rfl⟩) | (go_at_call 51; refine (s_l00In _ _ _ _).mono ?_; rintro e w' ⟨rfl, rfl⟩))
      go_ret2
      exact Pair.mk (by rw [sel_f g]) (by rw [sel_f g])
end Go.Proofs.Ytfbcbknddmkfkaa

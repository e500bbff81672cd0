/- Contracts of the functions that list the marks of a storey rod. -/
import Derived.Test.YtfbcbknddmkfkaaBasic
namespace Go.Proofs.Ytfbcbknddmkfkaa
open Go.RowKit
set_option linter.unusedSimpArgs false
set_option linter.unusedVariables false

def markL (h c : Int) : Nat → List Int
  | 0 => []
  | n + 1 => markL h c n ++ [mark h c ((n : Int) + 1)]
theorem markL_length (h c : Int) (n : Nat) : (markL h c n).length = n := by induction n with | zero => rfl | succ n ih => simp [markL, ih]
set_option maxHeartbeats 400000 in
theorem i_marksOf (h c : Int) (h1 : 0 ≤ h) (h2 : h ≤ 6000) (c1 : 1 ≤ c) (c2 : c ≤ 40) (w : World) :
    Calls Try.prog 61 #[.int .i64 h, .int .i64 c] w (RetInts (markL h c c.toNat) w) := by
  go_enter Try.func61, Try.ntmps61
  go_wp2
  go_loopw [5, 6] (fun v i wr => ∃ k : Nat, (k : Int) ≤ c ∧ i = .int .i64 (k + 1) ∧ OwnInts 2 wr w.heap.size v (markL h c k) ∧ Ext w wr) (fun _ i _ => (c + 1 - intOf i).toNat)
  case atStart => exact ⟨0, by omega, rfl, OwnInts.empty (Ext.refl w), (Ext.refl w).alloc _⟩
  case round =>
    obtain ⟨k, hk, rfl, ho, er⟩ := hrel
    have hml := markL_length h c k
    by_cases hlt : (k : Int) + 1 ≤ c
    · have ⟨m1, m2⟩ := mark_bd h c (k + 1) h1 h2 c1 c2 (by omega) (by omega)
      go_wp2_with (first
        | (go_at_call 85; refine (i_markOf _ _ _ (by omega) (by omega) (by omega) (by omega) (by omega) (by omega) _).mono ?_; rintro e w' ⟨rfl, rfl⟩)
        | (at_builtin; refine wpList_append_int rfl _ _ rfl _ _ _ rfl rfl rfl ho er (by unfold IsI64; omega) (by omega) ?_))
      intro v' w1 ho1 er1
      clear ho er
      go_wp2
      go_roundw
      case rel => exact ⟨k + 1, by omega, by go_num, ho1, er1⟩
      case measure => simp [intOf]; omega
    · go_wp2
      go_ret
      rw [show c.toNat = k by omega]
      exact RetInts.of_own ho er
def marksN (h c : Int) : List Int := if gcode h c then markL h c c.toNat else []
/-- a slice of integers and a code are handed back -/
def RetIntsC (xs : List Int) (c : Int) (w : World) (e : Ending) (w' : World) : Prop := ∃ ao cap, e = .returned (.tuple #[.slice ao xs.length cap, .int .i64 c]) ∧ OwnInts 2 w' w.heap.size (.slice ao xs.length cap) xs ∧ Ext w w'
theorem RetIntsC.of_own {xs : List Int} {c c' : Int} {w w' : World} {v : Value} (h : OwnInts 2 w' w.heap.size v xs) (e : Ext w w') (hc : c' = c) : RetIntsC xs c w (.returned (.tuple #[v, .int .i64 c'])) w' := by
  obtain ⟨ao, cap, rfl, _, _⟩ := h.shape
  exact ⟨ao, cap, by rw [hc], h, e⟩
theorem i_MarksOf (h c : Int) (w : World) :
    Calls Try.prog 25 #[.int .i64 h, .int .i64 c] w (RetIntsC (marksN h c) (sel (gcode h c) 0 2) w) := by
  by_cases g : gcode h c = true
  · have ⟨h1, h2, c1, c2⟩ : 100 ≤ h ∧ h ≤ 6000 ∧ 1 ≤ c ∧ c ≤ 40 := by simp [gcode, inB] at g; omega
    have eL : Hid (marksN h c = markL h c c.toNat) := if_pos g
    have eC : Hid (sel (gcode h c) 0 2 = 0) := sel_t g _ _
    go_enter Try.func25, Try.ntmps25
    go_wp2_with (go_at_call 53; refine (i_isStorey _ _ _).mono ?_; rw [g]; rintro e w1 ⟨rfl, rfl⟩)
    refine (i_marksOf _ _ (by omega) (by omega) (by omega) (by omega) _).mono ?_
    rintro e w1 ⟨ao, cap, rfl, ho, e1⟩
    go_wp2
    go_ret2
    rw [eL.out]
    exact RetIntsC.of_own ho e1 eC.out.symm
  · have eL : Hid (marksN h c = []) := if_neg g
    have eC : Hid (sel (gcode h c) 0 2 = 2) := sel_f g _ _
    rw [Bool.not_eq_true] at g
    go_enter Try.func25, Try.ntmps25
    go_wp2_with (go_at_call 53; refine (i_isStorey _ _ _).mono ?_; rw [g]; rintro e w1 ⟨rfl, rfl⟩)
    go_ret2
    rw [eL.out]
    exact RetIntsC.of_own (OwnInts.nilv _ _ _) (Ext.refl _) eC.out.symm
set_option maxHeartbeats 400000 in
theorem s_MarksOf (h c : Int) (w : World) :
    Calls Try.prog 24 #[.int .i64 h, .int .i64 c] w (RetIntsC (marksN h c) (sel (gcode h c) 0 2) w) := by
  by_cases g : gcode h c = true
  · have ⟨h1, h2, c1, c2⟩ : 100 ≤ h ∧ h ≤ 6000 ∧ 1 ≤ c ∧ c ≤ 40 := by simp [gcode, inB] at g; omega
    have eL : Hid (marksN h c = markL h c c.toNat) := if_pos g
    have eC : Hid (sel (gcode h c) 0 2 = 0) := sel_t g _ _
    clear g
    go_enter Try.func24, Try.ntmps24
    go_wp2_with (go_at_call 50; refine (s_l10Code _ _ _).mono ?_; rw [eC.out]; rintro e w1 ⟨rfl, rfl⟩)
    go_loopw [7, 8] (fun v i wr => ∃ k : Nat, (k : Int) ≤ c ∧ i = .int .i64 (k + 1) ∧ OwnInts 2 wr w.heap.size v (markL h c k) ∧ Ext w wr) (fun _ i _ => (c + 1 - intOf i).toNat)
    case atStart => exact ⟨0, by omega, rfl, OwnInts.empty (Ext.refl w), (Ext.refl w).alloc _⟩
    case round =>
      obtain ⟨k, hk, rfl, ho, er⟩ := hrel
      have hml := markL_length h c k
      by_cases hlt : (k : Int) + 1 ≤ c
      · have ⟨m1, m2⟩ := mark_bd h c (k + 1) (by omega) h2 c1 c2 (by omega) (by omega)
        go_wp2_with (first
          | (go_at_call 60; refine (s_l10Mark _ _ _ (by omega) (by omega) (by omega) (by omega) (by omega) (by omega) _).mono ?_; rintro e w' ⟨rfl, rfl⟩)
          | (at_builtin; refine wpList_append_int rfl _ _ rfl _ _ _ rfl rfl rfl ho er (by unfold IsI64; omega) (by omega) ?_))
        intro v' w1 ho1 er1
        clear ho er
        go_wp2
        go_roundw
        case rel => exact ⟨k + 1, by omega, by go_num, ho1, er1⟩
        case measure => simp [intOf]; omega
      · go_wp2
        go_ret2
        rw [eL.out, show c.toNat = k by omega]
        exact RetIntsC.of_own ho er eC.out.symm
  · have eL : Hid (marksN h c = []) := if_neg g
    have eC : Hid (sel (gcode h c) 0 2 = 2) := sel_f g _ _
    go_enter Try.func24, Try.ntmps24
    go_wp2_with (go_at_call 50; refine (s_l10Code _ _ _).mono ?_; rw [eC.out]; rintro e w1 ⟨rfl, rfl⟩)
    go_ret2
    rw [eL.out]
    exact RetIntsC.of_own (OwnInts.nilv _ _ _) (Ext.refl _) eC.out.symm
end Go.Proofs.Ytfbcbknddmkfkaa

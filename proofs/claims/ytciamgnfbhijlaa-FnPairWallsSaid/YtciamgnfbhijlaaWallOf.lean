/- WallOf: two courses laid by turns. -/
import Derived.Test.YtciamgnfbhijlaaWall
namespace Go.Proofs.Ytciamgnfbhijlaa
open Go.RowKit
set_option linter.unusedSimpArgs false
set_option linter.unusedVariables false
set_option linter.unnecessarySimpa false

def wofN (s t : ByteArray) : Nat → List ByteArray
  | 0 => []
  | j + 1 => wofN s t j ++ [if j % 2 = 0 then s else t]
theorem wofN_length (s t : ByteArray) (j : Nat) : (wofN s t j).length = j := by induction j with | zero => rfl | succ j ih => simp [wofN, ih]
def wofC (s t : ByteArray) (k : Int) : Int := if (validC (bts s) && validC (bts t)) = true then (if inB k 1 40 = true then (if lenS s = lenS t then 0 else 9) else 2) else 1
def wofL (s t : ByteArray) (k : Int) : List ByteArray := if wofC s t k = 0 then wofN s t k.toNat else []
theorem wofL_length (s t : ByteArray) (k : Int) : (wofL s t k).length ≤ 40 := by
  unfold wofL
  split
  · rename_i h
    rw [wofN_length]
    unfold wofC at h
    split at h <;> try omega
    split at h <;> try omega
    rename_i h2
    have := inB_iff.1 h2
    omega
  · simp
set_option maxHeartbeats 1600000 in
theorem i_WallOf (s t : ByteArray) (k : Int) (hs : s.size ≤ 9223372036854775807) (ht : t.size ≤ 9223372036854775807) (w : World) : Calls Try.prog 27 #[.string s, .string t, .int .i64 k] w (RetStrsC (wofL s t k) (wofC s t k) w) := by
  by_cases g1 : validC (bts s) = true
  · by_cases g2 : validC (bts t) = true
    · by_cases g3 : inB k 1 40 = true
      · have ⟨k1, k2⟩ := inB_iff.1 g3
        have ⟨_, u1, _, _⟩ := validC_bd g1
        have ⟨_, u2, _, _⟩ := validC_bd g2
        rw [bts_length] at u1 u2
        obtain ⟨p, hp⟩ : ∃ p, qSum (bts s) = p := ⟨_, rfl⟩
        obtain ⟨q, hq⟩ : ∃ q, qSum (bts t) = q := ⟨_, rfl⟩
        by_cases g4 : p = q
        · have eC : Hid (wofC s t k = 0) := Lib.hid (by unfold wofC lenS; simp [g1, g2, g3, hp, hq, g4])
          have eL : Hid (wofL s t k = wofN s t k.toNat) := Lib.hid (by unfold wofL; rw [if_pos eC.out])
          subst g4
          have H1 : Hid (∀ W, Calls Try.prog 43 #[.string s] W (RetV (.bool true) W)) := Lib.hid (fun W => by rw [← g1]; exact i_ValidCourse s hs W)
          have H2 : Hid (∀ W, Calls Try.prog 43 #[.string t] W (RetV (.bool true) W)) := Lib.hid (fun W => by rw [← g2]; exact i_ValidCourse t ht W)
          have H3 : Hid (∀ W, Calls Try.prog 44 #[.int .i64 k, .int .i64 1, .int .i64 40] W (RetV (.bool true) W)) := Lib.hid (fun W => by rw [← g3]; exact i_within _ _ _ W)
          have HL1 : Hid (∀ W, Calls Try.prog 45 #[.string s] W (RetV (.int .i64 p) W)) := Lib.hid (fun W => by rw [← hp]; exact i_lengthOf s (by omega) W)
          have HL2 : Hid (∀ W, Calls Try.prog 45 #[.string t] W (RetV (.int .i64 p) W)) := Lib.hid (fun W => by rw [← hq]; exact i_lengthOf t (by omega) W)
          clear g1 g2 g3 hp hq
          go_enter Try.func27, Try.ntmps27
          go_wp2_with (first | (go_at_call_of 43 (Value.string s); refine (H1.out _).mono ?_; rintro e w' ⟨rfl, rfl⟩) | (go_at_call_of 43 (Value.string t); refine (H2.out _).mono ?_; rintro e w' ⟨rfl, rfl⟩) | (go_at_call 44; refine (H3.out _).mono ?_; rintro e w' ⟨rfl, rfl⟩) | (go_at_call_of 45 (Value.string s); refine (HL1.out _).mono ?_; rintro e w' ⟨rfl, rfl⟩) | (go_at_call_of 45 (Value.string t); refine (HL2.out _).mono ?_; rintro e w' ⟨rfl, rfl⟩))
          go_loopw [8, 31] (fun v i wr => ∃ j : Nat, (j : Int) ≤ k ∧ i = .int .i64 j ∧ OwnStrs wr w.heap.size v (wofN s t j) ∧ Ext w wr) (fun _ i _ => (k - intOf i).toNat)
          case atStart => exact ⟨0, by omega, rfl, OwnStrs.empty (Ext.refl w), (Ext.refl w).alloc _⟩
          case round =>
            obtain ⟨j, hj, rfl, ho, er⟩ := hrel
            have hl := wofN_length s t j
            by_cases hlt : (j : Int) < k
            · by_cases he : (j : Int) % 2 = 0
              · have HN : Hid (wofN s t (j + 1) = wofN s t j ++ [s]) := Lib.hid (by rw [wofN, if_pos (by omega)])
                go_wp2_with (at_builtin; refine wpList_append_str rfl _ _ rfl _ _ s rfl rfl rfl ho er hs (by omega) ?_)
                intro v' w1 ho1 er1
                go_wp2
                go_roundw
                case rel => exact ⟨j + 1, by omega, by go_num, by rw [HN.out]; exact ho1, er1⟩
                case measure => simp [intOf]; omega
              · have HN : Hid (wofN s t (j + 1) = wofN s t j ++ [t]) := Lib.hid (by rw [wofN, if_neg (by omega)])
                go_wp2_with (at_builtin; refine wpList_append_str rfl _ _ rfl _ _ t rfl rfl rfl ho er ht (by omega) ?_)
                intro v' w1 ho1 er1
                go_wp2
                go_roundw
                case rel => exact ⟨j + 1, by omega, by go_num, by rw [HN.out]; exact ho1, er1⟩
                case measure => simp [intOf]; omega
            · go_wp2
              go_ret2
              obtain rfl : k = j := by omega
              exact RetStrsC.of_own (by rw [eL.out]; exact ho) er eC.out.symm
        · have n4 : (p != q) = true := by simp [g4]
          have eL : Hid (wofL s t k = []) := Lib.hid (by unfold wofL; rw [if_neg]; rw [show wofC s t k = 9 by unfold wofC; simp [lenS, g1, g2, g3, hp, hq, g4]]; decide)
          have eC : Hid (wofC s t k = 9) := Lib.hid (by unfold wofC; simp [lenS, g1, g2, g3, hp, hq, g4])
          have H1 : Hid (∀ W, Calls Try.prog 43 #[.string s] W (RetV (.bool true) W)) := Lib.hid (fun W => by rw [← g1]; exact i_ValidCourse s hs W)
          have H2 : Hid (∀ W, Calls Try.prog 43 #[.string t] W (RetV (.bool true) W)) := Lib.hid (fun W => by rw [← g2]; exact i_ValidCourse t ht W)
          have H3 : Hid (∀ W, Calls Try.prog 44 #[.int .i64 k, .int .i64 1, .int .i64 40] W (RetV (.bool true) W)) := Lib.hid (fun W => by rw [← g3]; exact i_within _ _ _ W)
          have HL1 : Hid (∀ W, Calls Try.prog 45 #[.string s] W (RetV (.int .i64 p) W)) := Lib.hid (fun W => by rw [← hp]; exact i_lengthOf s (by omega) W)
          have HL2 : Hid (∀ W, Calls Try.prog 45 #[.string t] W (RetV (.int .i64 q) W)) := Lib.hid (fun W => by rw [← hq]; exact i_lengthOf t (by omega) W)
          clear g1 g2 g3
          go_enter Try.func27, Try.ntmps27
          go_wp2_with (first | (go_at_call_of 43 (Value.string s); refine (H1.out _).mono ?_; rintro e w' ⟨rfl, rfl⟩) | (go_at_call_of 43 (Value.string t); refine (H2.out _).mono ?_; rintro e w' ⟨rfl, rfl⟩) | (go_at_call 44; refine (H3.out _).mono ?_; rintro e w' ⟨rfl, rfl⟩) | (go_at_call_of 45 (Value.string s); refine (HL1.out _).mono ?_; rintro e w' ⟨rfl, rfl⟩) | (go_at_call_of 45 (Value.string t); refine (HL2.out _).mono ?_; rintro e w' ⟨rfl, rfl⟩))
          go_ret2
          exact RetStrsC.of_own (by rw [eL.out]; exact OwnStrs.nilv _ _) (Ext.refl _) eC.out.symm
      · rw [Bool.not_eq_true] at g3
        have eL : Hid (wofL s t k = []) := Lib.hid (by unfold wofL; rw [if_neg]; rw [show wofC s t k = 2 by unfold wofC; simp [g1, g2, g3]]; decide)
        have eC : Hid (wofC s t k = 2) := Lib.hid (by unfold wofC; simp [g1, g2, g3])
        have H1 : Hid (∀ W, Calls Try.prog 43 #[.string s] W (RetV (.bool true) W)) := Lib.hid (fun W => by rw [← g1]; exact i_ValidCourse s hs W)
        have H2 : Hid (∀ W, Calls Try.prog 43 #[.string t] W (RetV (.bool true) W)) := Lib.hid (fun W => by rw [← g2]; exact i_ValidCourse t ht W)
        have H3 : Hid (∀ W, Calls Try.prog 44 #[.int .i64 k, .int .i64 1, .int .i64 40] W (RetV (.bool false) W)) := Lib.hid (fun W => by rw [← g3]; exact i_within _ _ _ W)
        clear g1 g2 g3
        go_enter Try.func27, Try.ntmps27
        go_wp2_with (first | (go_at_call_of 43 (Value.string s); refine (H1.out _).mono ?_; rintro e w' ⟨rfl, rfl⟩) | (go_at_call_of 43 (Value.string t); refine (H2.out _).mono ?_; rintro e w' ⟨rfl, rfl⟩) | (go_at_call 44; refine (H3.out _).mono ?_; rintro e w' ⟨rfl, rfl⟩))
        go_ret2
        exact RetStrsC.of_own (by rw [eL.out]; exact OwnStrs.nilv _ _) (Ext.refl _) eC.out.symm
    · rw [Bool.not_eq_true] at g2
      have eL : Hid (wofL s t k = []) := Lib.hid (by unfold wofL; rw [if_neg]; rw [show wofC s t k = 1 by unfold wofC; simp [g1, g2]]; decide)
      have eC : Hid (wofC s t k = 1) := Lib.hid (by unfold wofC; simp [g1, g2])
      have H1 : Hid (∀ W, Calls Try.prog 43 #[.string s] W (RetV (.bool true) W)) := Lib.hid (fun W => by rw [← g1]; exact i_ValidCourse s hs W)
      have H2 : Hid (∀ W, Calls Try.prog 43 #[.string t] W (RetV (.bool false) W)) := Lib.hid (fun W => by rw [← g2]; exact i_ValidCourse t ht W)
      clear g1 g2
      go_enter Try.func27, Try.ntmps27
      go_wp2_with (first | (go_at_call_of 43 (Value.string s); refine (H1.out _).mono ?_; rintro e w' ⟨rfl, rfl⟩) | (go_at_call_of 43 (Value.string t); refine (H2.out _).mono ?_; rintro e w' ⟨rfl, rfl⟩))
      go_ret2
      exact RetStrsC.of_own (by rw [eL.out]; exact OwnStrs.nilv _ _) (Ext.refl _) eC.out.symm
  · rw [Bool.not_eq_true] at g1
    have eL : Hid (wofL s t k = []) := Lib.hid (by unfold wofL; rw [if_neg]; rw [show wofC s t k = 1 by unfold wofC; simp [g1]]; decide)
    have eC : Hid (wofC s t k = 1) := Lib.hid (by unfold wofC; simp [g1])
    have H1 : Hid (∀ W, Calls Try.prog 43 #[.string s] W (RetV (.bool false) W)) := Lib.hid (fun W => by rw [← g1]; exact i_ValidCourse s hs W)
    clear g1
    go_enter Try.func27, Try.ntmps27
    go_wp2_with (first | (go_at_call_of 43 (Value.string s); refine (H1.out _).mono ?_; rintro e w' ⟨rfl, rfl⟩))
    go_ret2
    exact RetStrsC.of_own (by rw [eL.out]; exact OwnStrs.nilv _ _) (Ext.refl _) eC.out.symm
end Go.Proofs.Ytciamgnfbhijlaa

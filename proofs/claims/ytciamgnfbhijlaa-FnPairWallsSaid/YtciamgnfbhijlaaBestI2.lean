/- The best course: the program's side, its callers. -/
import Derived.Test.YtciamgnfbhijlaaBestI
import Derived.Test.YtciamgnfbhijlaaBestS2
namespace Go.Proofs.Ytciamgnfbhijlaa
open Go.RowKit
set_option linter.unusedSimpArgs false
set_option linter.unusedVariables false
set_option linter.unnecessarySimpa false


theorem i_isPair (L : Int) (w : World) : Calls Try.prog 50 #[.int .i64 L] w (RetV (.bool (inB L 1 80)) w) := by
  go_enter Try.func50, Try.ntmps50
  go_wp2_with (go_at_call 44; refine (i_within _ _ _ _).mono ?_; rintro e w' ⟨rfl, rfl⟩)
  go_ret
  exact RetV.mk rfl
theorem far_nil : farB 1 [] = fun _ => true := by funext y; rfl
theorem best_true (L : Int) (d : Nat) : (best (fun _ => true) L d).isSome = true := by
  induction d with
  | zero => rfl
  | succ d ih =>
    obtain ⟨r, hr⟩ := Option.isSome_iff_exists.1 ih
    rw [← nowI_four, nowI_succ _ _ _ _ (by omega), nowI_succ _ _ _ _ (by omega), nowI_succ _ _ _ _ (by omega), nowI_succ _ _ _ _ (by omega), nowI_zero]
    have h : cand (fun _ => true) L (d + 1) (rowsT (fun _ => true) L d) (order4.getD 0 0) = some (ahead 67 r) := by
      show cand (fun _ => true) L (d + 1) (rowsT (fun _ => true) L d) 67 = _
      rw [cand_eq _ L d 1 67 qB_C (by decide), if_neg (by omega), show d + 1 - 1 = d by omega, hr]
      simp
    rw [h]
    have hs : ∀ (a : Option Rw) (x : Option Rw), a.isSome = true → (pickBy ltI a x).isSome = true := by
      intro a x ha
      obtain ⟨v, rfl⟩ := Option.isSome_iff_exists.1 ha
      cases x with
      | none => rfl
      | some u => simp only [pickBy]; split <;> rfl
    exact hs _ _ (hs _ _ (hs _ _ rfl))
theorem bestT_len (L : Int) : (bestT L).size ≤ 400 := by
  unfold bestT
  split
  · rename_i g
    have ⟨g1, g2⟩ := inB_iff.1 g
    cases h : best (farB 1 []) L L.toNat with
    | none => decide
    | some r => have := (best_good _ _ _ r h).le; simp only [tS]; rw [mkS_size]; omega
  · decide
theorem bestC_cut (L : Int) : bestC L = cutN (bts (bestT L)) := by
  unfold bestC bestT
  split
  · obtain ⟨r, h⟩ := Option.isSome_iff_exists.1 (best_true L L.toNat)
    rw [far_nil, h]
    simp only [cS, tS]
    rw [bts_mkS]
    exact (best_good _ _ _ r h).cuts
  · rfl
theorem askO_len (s : ByteArray) (lap : Int) : (mkS (askO s lap).t).size ≤ 400 ∧ (askO s lap).c = cutN (bts (mkS (askO s lap).t)) := by
  rw [bts_mkS, mkS_size]
  unfold askO
  split
  · rename_i g
    have hN : lenS s ≤ 80 := by
      unfold askC at g
      split at g
      · split at g
        · split at g
          · omega
          · omega
        · omega
      · omega
    cases h : best (farB lap (perps (bts s))) (lenS s) (lenS s).toNat with
    | none => exact ⟨by simp, rfl⟩
    | some r => have := best_good _ _ _ r h; have := this.le; exact ⟨by simp; omega, (best_good _ _ _ r h).cuts⟩
  · exact ⟨by simp, rfl⟩
end Go.Proofs.Ytciamgnfbhijlaa

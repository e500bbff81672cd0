/- What the law on best courses says of the least course. No program in sight. -/
import Derived.Test.YtciamgnfbhijlaaBestOpt
import Derived.Test.YtciamgnfbhijlaaBestI2
namespace Go.Proofs.Ytciamgnfbhijlaa
open Go.RowKit
set_option linter.unusedSimpArgs false
set_option linter.unusedVariables false
set_option linter.unnecessarySimpa false

theorem cut_odd {b : UInt8} (h : isPc b = true) : qB b % 2 ≤ (if cutB b then 1 else 0) := by
  rcases isPc_five h with rfl | rfl | rfl | rfl | rfl
  · rw [qB_S, cut_S]; decide
  · rw [qB_H, cut_H]; decide
  · rw [qB_T, cut_T]; decide
  · rw [qB_B, cut_B]; decide
  · rw [qB_C, cut_C]; decide
theorem cutN_consB (b : UInt8) (l : List UInt8) : cutN (b :: l) = cutN l + (if cutB b then 1 else 0) := by
  unfold cutN; rw [List.countP_cons]; split <;> simp
theorem cutN_odd : ∀ (l : List UInt8), l.all isPc = true → qSum l % 2 ≤ cutN l
  | [], _ => by rw [qSum_nil]; simp [cutN]
  | b :: l, h => by
    rw [List.all_cons, Bool.and_eq_true] at h
    have h1 := cut_odd h.1
    have h2 := cutN_odd l h.2
    rw [qSum_cons, cutN_consB]
    omega
/-- headers, and a closer -/
def evenC (L : Nat) : List UInt8 := List.replicate (L / 2) 72 ++ (if L % 2 = 1 then [67] else [])
theorem rep_q (k : Nat) : qSum (List.replicate k 72) = 2 * k ∧ cutN (List.replicate k 72) = 0 ∧ (List.replicate k (72 : UInt8)).all isPc = true := by
  induction k with
  | zero => exact ⟨by simp [qSum_nil], by simp [cutN], rfl⟩
  | succ k ih =>
    rw [List.replicate_succ, qSum_cons, cutN_consB, ih.1, ih.2.1, qB_H, cut_H, List.all_cons, ih.2.2]
    exact ⟨by omega, by simp, by decide⟩
theorem evenC_ok (L : Nat) : (evenC L).all isPc = true ∧ qSum (evenC L) = L ∧ cutN (evenC L) = (L % 2 : Nat) := by
  obtain ⟨h1, h2, h3⟩ := rep_q (L / 2)
  unfold evenC
  have hc : ∀ l m : List UInt8, cutN (l ++ m) = cutN l + cutN m := fun l m => by unfold cutN; rw [List.countP_append]; omega
  by_cases h : L % 2 = 1
  · rw [if_pos h, List.all_append, h3, qSum_append, h1, hc, h2]
    refine ⟨by decide, ?_, ?_⟩
    · rw [show qSum [67] = 1 by decide]; omega
    · rw [show cutN [67] = 1 by decide, h]; decide
  · rw [if_neg h, List.append_nil]
    refine ⟨h3, by rw [h1]; omega, by rw [h2]; omega⟩
theorem was_bd {b : UInt8} (h : cutB b = true) (hp : isPc b = true) : 1 ≤ 4 - qB b ∧ 4 - qB b ≤ 3 := by
  rcases isPc_five hp with rfl | rfl | rfl | rfl | rfl
  · rw [cut_S] at h; cases h
  · rw [cut_H] at h; cases h
  · rw [qB_T]; decide
  · rw [qB_B]; decide
  · rw [qB_C]; decide
theorem bl_total : ∀ (x y : List UInt8), Op.bytesLess x y = false → Op.bytesLess y x = false → x = y
  | [], [], _, _ => rfl
  | [], _ :: _, h, _ => by simp [Op.bytesLess] at h
  | _ :: _, [], _, h => by simp [Op.bytesLess] at h
  | a :: x, b :: y, h1, h2 => by
    simp only [Op.bytesLess, Bool.or_eq_false_iff, decide_eq_false_iff_not, Bool.and_eq_false_iff, beq_eq_false_iff_ne] at h1 h2
    have e : a = b := UInt8.toNat_inj.1 (by
      have e1 : ¬ a.toNat < b.toNat := fun h => h1.1 (UInt8.lt_iff_toNat_lt.2 h)
      have e2 : ¬ b.toNat < a.toNat := fun h => h2.1 (UInt8.lt_iff_toNat_lt.2 h)
      omega)
    subst e
    rw [bl_total x y (by rcases h1.2 with h | h; exact absurd rfl h; exact h) (by rcases h2.2 with h | h; exact absurd rfl h; exact h)]
/-- the least course of a length -/
theorem best_is (L : Nat) (h1 : 1 ≤ L) (h2 : L ≤ 40) : ∃ t : List UInt8, bestT L = mkS t ∧ t.all isPc = true ∧ qSum t = L ∧ cutN t = (L % 2 : Nat) ∧ t.length ≤ L ∧ bestC L = (L % 2 : Nat) ∧
    ∀ l : List UInt8, l.all isPc = true → qSum l = L → ((L % 2 : Nat) : Int) < cutN l ∨ t.length < l.length ∨ (t.length = l.length ∧ (Op.bytesLess t l = true ∨ t = l)) := by
  have hin : inB (L : Int) 1 80 = true := by simp [inB]; omega
  obtain ⟨r, hr⟩ := Option.isSome_iff_exists.1 (best_true L L)
  have hg := best_good _ _ _ r hr
  have hT : bestT L = mkS r.t := by
    unfold bestT; rw [hin, if_pos rfl, Int.toNat_natCast, far_nil, hr]; rfl
  have hC : bestC L = r.c := by
    unfold bestC; rw [hin, if_pos rfl, Int.toNat_natCast, far_nil, hr]; rfl
  obtain ⟨e1, e2, e3⟩ := evenC_ok L
  have hle : ∀ l : List UInt8, l.all isPc = true → qSum l = L → leR r (rowOf l) := fun l p q => by
    obtain ⟨r2, hr2, hl⟩ := best_le (fun _ => true) L l L p q (fun _ _ => rfl)
    rw [hr] at hr2
    obtain rfl := Option.some.inj hr2
    exact hl
  have hcut : cutN r.t = (L % 2 : Nat) := by
    have a1 := cutN_odd r.t hg.pc
    rw [hg.sum] at a1
    have a2 := hle (evenC L) e1 e2
    have a3 : r.c ≤ cutN (evenC L) := by
      rcases a2 with h | h
      · exact Int.le_of_lt h
      · exact Int.le_of_eq h.1
    rw [hg.cuts, e3] at a3
    omega
  refine ⟨r.t, hT, hg.pc, hg.sum, hcut, hg.le, by rw [hC, hg.cuts, hcut], fun l p q => ?_⟩
  have a := hle l p q
  have hn := hg.num
  have hc2 := hg.cuts
  unfold leR rowOf at a
  dsimp only at a
  rcases a with a | ⟨a1, a | ⟨a2, a3⟩⟩
  · left; omega
  · right; left; omega
  · right; right
    refine ⟨by omega, ?_⟩
    cases h : Op.bytesLess r.t l with
    | true => exact .inl rfl
    | false => exact .inr (bl_total _ _ h a3)
end Go.Proofs.Ytciamgnfbhijlaa

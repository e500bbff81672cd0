/- What the laws on pairs of courses say of the best pair. No program in sight. -/
import Derived.Test.YtciamgnfbhijlaaPairV
import Derived.Test.YtciamgnfbhijlaaAboveLaw
namespace Go.Proofs.Ytciamgnfbhijlaa
open Go.RowKit
set_option linter.unusedSimpArgs false
set_option linter.unusedVariables false
set_option linter.unnecessarySimpa false

theorem posL_perpF : ∀ (l : List UInt8) (a p : Int), p ∈ posL a l ↔ p = a ∨ p = a + qSum l ∨ p ∈ perpF a l
  | [], a, p => by simp [posL, perpF, qSum_nil]
  | [x], a, p => by simp [posL, perpF, qSum_cons, qSum_nil]
  | x :: y :: r, a, p => by
    have ih := posL_perpF (y :: r) (a + qB x) p
    rw [posL, List.mem_cons, ih, perpF, List.mem_cons, qSum_cons x (y :: r)]
    constructor
    · rintro (h | h | h | h)
      · exact .inl h
      · exact .inr (.inr (.inl h))
      · exact .inr (.inl (by omega))
      · exact .inr (.inr (.inr h))
    · rintro (h | h | h | h)
      · exact .inl h
      · exact .inr (.inr (.inl (by omega)))
      · exact .inr (.inl h)
      · exact .inr (.inr (.inr h))
theorem perpF_in : ∀ (l : List UInt8) (a p : Int), l.all isPc = true → p ∈ perpF a l → a + 1 ≤ p ∧ p + 1 ≤ a + qSum l
  | [], a, p, _, h => by simp [perpF] at h
  | [_], a, p, _, h => by simp [perpF] at h
  | x :: y :: r, a, p, hp, h => by
    rw [List.all_cons, Bool.and_eq_true] at hp
    have hx := pc_pos hp.1
    rw [perpF] at h
    have h3 := len_le hp.2
    rw [List.length_cons] at h3
    rw [qSum_cons]
    rcases List.mem_cons.1 h with rfl | h
    · omega
    · have := perpF_in (y :: r) _ p hp.2 h
      omega
theorem setR_far {L lap : Int} {u v : List UInt8} (hu : u.all isPc = true) (hv : v.all isPc = true) (hsu : qSum u = L) (hsv : qSum v = L) : SetR L lap 0 0 (u, v) ↔ ∀ y ∈ perps v, farB lap (perps u) y = true := by
  rw [← perpF_perps, ← perpF_perps]
  constructor
  · rintro ⟨_, _, _, _, h⟩ y hy
    unfold farB
    rw [List.all_eq_true]
    intro x hx
    have h1 := perpF_in u 0 x hu hx
    have h2 := perpF_in v 0 y hv hy
    have h3 := h x ((posL_perpF u 0 x).2 (.inr (.inr hx))) y ((posL_perpF v 0 y).2 (.inr (.inr hy)))
    unfold freeP at h3
    rw [decide_eq_true_eq]
    unfold dist
    split <;> omega
  · intro h
    refine ⟨hu, hv, by dsimp only; omega, by dsimp only; omega, fun p hp q hq => ?_⟩
    rcases (posL_perpF u 0 p).1 hp with rfl | rfl | hp
    · exact .inl rfl
    · exact .inr (.inr (.inl (by omega)))
    · rcases (posL_perpF v 0 q).1 hq with rfl | rfl | hq
      · exact .inr (.inl rfl)
      · exact .inr (.inr (.inr (.inl (by omega))))
      · have h1 := h q hq
        unfold farB at h1
        have h2 := List.all_eq_true.1 h1 p hp
        rw [decide_eq_true_eq] at h2
        unfold dist at h2
        unfold freeP
        split at h2 <;> omega
/-- no pair at all, or one with the least cuts, which is bonded -/
theorem pair_is {L : Nat} {lap : Int} (h1 : 1 ≤ L) (hl : 1 ≤ lap) :
    (pairO L lap = none ∧ ∀ u v : List UInt8, u.all isPc = true → v.all isPc = true → qSum u = L → qSum v = L → (findK lap 0 [mkS u, mkS v]).isNone = false) ∨
    (∃ u v, pairO L lap = some (u, v) ∧ u.all isPc = true ∧ v.all isPc = true ∧ qSum u = L ∧ qSum v = L ∧ (findK lap 0 [mkS u, mkS v]).isNone = true ∧
      ∀ x y : List UInt8, x.all isPc = true → y.all isPc = true → qSum x = L → qSum y = L → (findK lap 0 [mkS x, mkS y]).isNone = true → cutN u + cutN v ≤ cutN x + cutN y) := by
  have hb := pairO_best (L := (L : Int)) (lap := lap) (by omega) hl
  have hset : ∀ x y : List UInt8, x.all isPc = true → y.all isPc = true → qSum x = L → qSum y = L → (findK lap 0 [mkS x, mkS y]).isNone = true → SetR (L : Int) lap 0 0 (x, y) := fun x y a b c d h => by
    rw [pair_none, bts_mkS, bts_mkS] at h
    exact (setR_far a b c d).2 h
  cases ho : pairO (L : Int) lap with
  | none =>
    left
    rw [ho] at hb
    refine ⟨rfl, fun u v a b c d => ?_⟩
    cases h : (findK lap 0 [mkS u, mkS v]).isNone with
    | false => rfl
    | true => exact absurd (hset u v a b c d h) (hb.2 rfl _)
  | some x =>
    right
    rw [ho] at hb
    obtain ⟨⟨a, b, c, d, e⟩, hm⟩ := hb.1 x rfl
    obtain ⟨u, v⟩ := x
    dsimp only at a b c d e
    refine ⟨u, v, rfl, a, b, by omega, by omega, ?_, fun x y p q r s h => ?_⟩
    · rw [pair_none, bts_mkS, bts_mkS]
      exact (setR_far a b (by omega) (by omega)).1 ⟨a, b, c, d, e⟩
    · have h2 := hm _ (hset x y p q r s h)
      have h3 : ¬ ltP (x, y) (u, v) = true := by rw [h2]; simp
      rw [ltP_iff] at h3
      unfold pcN at h3
      dsimp only at h3
      omega
theorem pair_more {L : Nat} {lap : Int} (h1 : 1 ≤ L) (hl : 1 ≤ lap) : ∀ x, pairO L (lap + 1) = some x → ∃ y, pairO L lap = some y ∧ pcN y ≤ pcN x := by
  intro x hx
  have hb := pairO_best (L := (L : Int)) (lap := lap) (by omega) hl
  have hb2 := pairO_best (L := (L : Int)) (lap := lap + 1) (by omega) (by omega)
  rw [hx] at hb2
  obtain ⟨⟨a, b, c, d, e⟩, _⟩ := hb2.1 x rfl
  have hs : SetR (L : Int) lap 0 0 x := ⟨a, b, c, d, fun p hp q hq => by have := e p hp q hq; unfold freeP at this ⊢; omega⟩
  cases ho : pairO (L : Int) lap with
  | none => rw [ho] at hb; exact absurd hs (hb.2 rfl x)
  | some y =>
    rw [ho] at hb
    have h2 := (hb.1 y rfl).2 x hs
    have h3 : ¬ ltP x y = true := by rw [h2]; simp
    rw [ltP_iff] at h3
    exact ⟨y, rfl, by omega⟩
end Go.Proofs.Ytciamgnfbhijlaa

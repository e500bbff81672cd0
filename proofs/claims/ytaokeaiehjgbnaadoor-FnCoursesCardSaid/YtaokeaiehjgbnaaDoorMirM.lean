/- A course from its other end: plain laws. Nothing here speaks of the program. -/
import Derived.Test.YtaokeaiehjgbnaaDoorGaMath
namespace Go.Proofs.YtaokeaiehjgbnaaDoor
set_option linter.unusedSimpArgs false
set_option linter.unusedVariables false
set_option linter.unnecessarySimpa false

theorem qSum_rev (l : List UInt8) : qSum l.reverse = qSum l := by
  induction l with
  | nil => rfl
  | cons b l ih => rw [List.reverse_cons, qSum_snoc, ih, qSum_cons, Int.add_comm]
theorem validC_rev (l : List UInt8) : validC l.reverse = validC l := by
  unfold validC
  rw [List.length_reverse, List.all_reverse, qSum_rev]
theorem cutN_rev (l : List UInt8) : cutN l.reverse = cutN l := by
  unfold cutN
  rw [List.countP_reverse]
theorem perpTo_at (l : List UInt8) : ∀ k i, i < k → (perpTo l k).getD i 0 = qSum (l.take (i + 1))
  | 0, i, h => absurd h (Nat.not_lt_zero _)
  | k + 1, i, h => by
    unfold perpTo
    by_cases hi : i < k
    · rw [List.getD_eq_getElem?_getD, List.getElem?_append_left (by rw [perpTo_length]; exact hi), ← List.getD_eq_getElem?_getD, perpTo_at l k i hi]
    · have e : i = k := by omega
      subst e
      rw [List.getD_eq_getElem?_getD, List.getElem?_append_right (by rw [perpTo_length]; exact Nat.le_refl _), perpTo_length, Nat.sub_self]; rfl
theorem perps_mirror {l : List UInt8} {i : Nat} (h : i < l.length - 1) : (perps l).getD i 0 = qSum l - (perps l.reverse).getD (l.length - 1 - 1 - i) 0 := by
  unfold perps
  rw [List.length_reverse, perpTo_at _ _ _ h, perpTo_at _ _ _ (by omega), List.take_reverse, qSum_rev]
  have e : l.length - (l.length - 1 - 1 - i + 1) = i + 1 := by omega
  rw [e]
  have := congrArg qSum (List.take_append_drop (i + 1) l)
  rw [qSum_append] at this
  omega
theorem isPc_pos {b : UInt8} (h : isPc b = true) : 1 ≤ qB b := by
  have := qB_bd b
  unfold isPc at h
  have := of_decide_eq_true h
  omega
theorem qSum_len {l : List UInt8} (h : l.all isPc = true) : (l.length : Int) ≤ qSum l := by
  induction l with
  | nil => exact Int.le_refl _
  | cons b l ih =>
    simp only [List.all_cons, Bool.and_eq_true] at h
    have := isPc_pos h.1
    have := ih h.2
    rw [qSum_cons, List.length_cons]; omega
theorem validC_of {l : List UInt8} {L : Nat} (h : l.all isPc = true) (hq : qSum l = (L : Int)) (h1 : 1 ≤ L) (h2 : L ≤ 40) : validC l = true ∧ 1 ≤ l.length ∧ l.length ≤ 40 ∧ ∀ x ∈ l, x ≠ 32 := by
  have hl := qSum_len h
  have h0 : 1 ≤ l.length := by
    cases l with
    | nil => rw [qSum_nil] at hq; omega
    | cons b l => simp
  refine ⟨?_, h0, by omega, fun x hx => ?_⟩
  · simp only [validC, Bool.and_eq_true, decide_eq_true_eq]
    exact ⟨⟨inB_iff.2 (by omega), h⟩, by omega⟩
  · rintro rfl
    exact absurd (List.all_eq_true.1 h 32 hx) (by decide)
end Go.Proofs.YtaokeaiehjgbnaaDoor

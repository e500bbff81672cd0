/- Plans of houses: the places of the corners, and what makes a plan valid. Nothing here speaks of the program. -/
import Derived.Test.YtaokeaiehjgbnaaGreatDoorGaMath
import Derived.Test.YtaokeaiehjgbnaaGreatDoorLawInts
namespace Go.Proofs.YtaokeaiehjgbnaaGreatDoor
open Go.RowKit
set_option linter.unusedSimpArgs false
set_option linter.unusedVariables false
set_option linter.unnecessarySimpa false

def dX (w : Int) : Int := if w = 0 then 1 else if w = 2 then -1 else 0
def dY (w : Int) : Int := if w = 1 then 1 else if w = 3 then -1 else 0
/-- behind a side: the place, and the way one goes -/
def stepH (st : Int × Int × Int) (s : Int) (b : UInt8) : Int × Int × Int :=
  (st.1 + s * dX st.2.2, st.2.1 + s * dY st.2.2, if b = 76 then (st.2.2 + 1) % 4 else (st.2.2 + 3) % 4)
def stH (xs : List Int) (t : List UInt8) : Nat → Int × Int × Int
  | 0 => (0, 0, 0)
  | k + 1 => stepH (stH xs t k) (xs.getD k 0) (t.getD k 0)
def ptH (xs : List Int) (t : List UInt8) (k : Nat) : Int × Int := ((stH xs t k).1, (stH xs t k).2.1)
def ptsH (xs : List Int) (t : List UInt8) (k : Nat) : List (Int × Int) := (List.range (k + 1)).map (ptH xs t)
theorem ptsH_len (xs : List Int) (t : List UInt8) (k : Nat) : (ptsH xs t k).length = k + 1 := by simp [ptsH]
theorem ptsH_succ (xs : List Int) (t : List UInt8) (k : Nat) : ptsH xs t (k + 1) = ptsH xs t k ++ [ptH xs t (k + 1)] := by
  unfold ptsH
  rw [List.range_succ, List.map_append]
  rfl
theorem ptsH_at (xs : List Int) (t : List UInt8) (k i : Nat) (h : i ≤ k) : (ptsH xs t k).getD i (0, 0) = ptH xs t i := by
  rw [List.getD_eq_getElem?_getD, ptsH, List.getElem?_map, List.getElem?_range (by omega)]; rfl
theorem way_bd (xs : List Int) (t : List UInt8) (k : Nat) : (stH xs t k).2.2 = 0 ∨ (stH xs t k).2.2 = 1 ∨ (stH xs t k).2.2 = 2 ∨ (stH xs t k).2.2 = 3 := by
  cases k with
  | zero => exact .inl rfl
  | succ k =>
    show (stepH _ _ _).2.2 = 0 ∨ (stepH _ _ _).2.2 = 1 ∨ (stepH _ _ _).2.2 = 2 ∨ (stepH _ _ _).2.2 = 3
    unfold stepH
    simp only []
    split <;> omega
theorem stH_bd (xs : List Int) (t : List UInt8) (h : ∀ i, i < xs.length → 0 ≤ xs.getD i 0 ∧ xs.getD i 0 ≤ 200) (k : Nat) (hk : k ≤ xs.length) : -(200 * (k : Int)) ≤ (stH xs t k).1 ∧ (stH xs t k).1 ≤ 200 * k ∧ -(200 * (k : Int)) ≤ (stH xs t k).2.1 ∧ (stH xs t k).2.1 ≤ 200 * k := by
  induction k with
  | zero => unfold stH; simp only []; omega
  | succ k ih =>
    have h1 := ih (by omega)
    have h2 := h k (by omega)
    have h3 := way_bd xs t k
    show _ ≤ (stepH _ _ _).1 ∧ (stepH _ _ _).1 ≤ _ ∧ _ ≤ (stepH _ _ _).2.1 ∧ (stepH _ _ _).2.1 ≤ _
    unfold stepH dX dY
    simp only []
    rcases h3 with h3 | h3 | h3 | h3 <;> rw [h3] <;> simp only [Int.reduceEq, if_true, if_false, Int.mul_one, Int.mul_zero, Int.mul_neg, Int.add_zero] <;> omega
def lrB (b : UInt8) : Bool := decide (b = 76) || decide (b = 82)
theorem inL_LR (b : UInt8) : inL [76, 82] b = lrB b := by
  have h := forall_u8 (p := fun b => inL [76, 82] b == lrB b) (by decide +kernel) b
  exact eq_of_beq h
def cntL (t : List UInt8) : Nat := t.count 76
/-- a plan is valid -/
def validH (xs : List Int) (t : List UInt8) : Bool :=
  inB xs.length 4 12 && ((xs.all fun x => inB x 8 200) && (decide (t.length = xs.length) && (t.all lrB && (decide (2 * (cntL t : Int) = xs.length + 4) && (decide ((stH xs t xs.length).1 = 0) && decide ((stH xs t xs.length).2.1 = 0))))))
theorem validH_bd {xs : List Int} {t : List UInt8} (h : validH xs t = true) : 4 ≤ xs.length ∧ xs.length ≤ 12 ∧ (∀ x ∈ xs, 8 ≤ x ∧ x ≤ 200) ∧ t.length = xs.length ∧ t.all lrB = true := by
  unfold validH at h
  simp only [Bool.and_eq_true, decide_eq_true_eq, inB_iff, List.all_eq_true] at h
  refine ⟨by omega, by omega, fun x hx => h.2.1 x hx, h.2.2.1, ?_⟩
  rw [List.all_eq_true]
  exact h.2.2.2.1
theorem sides_at {xs : List Int} (h : ∀ x ∈ xs, 8 ≤ x ∧ x ≤ 200) (i : Nat) (hi : i < xs.length) : 8 ≤ xs.getD i 0 ∧ xs.getD i 0 ≤ 200 := by
  rw [List.getD_eq_getElem?_getD, List.getElem?_eq_getElem hi]
  exact h _ (List.getElem_mem _)
theorem pt_bd {xs : List Int} (t : List UInt8) (h : ∀ x ∈ xs, 8 ≤ x ∧ x ≤ 200) (hn : xs.length ≤ 12) (k : Nat) (hk : k ≤ xs.length) : -2400 ≤ (stH xs t k).1 ∧ (stH xs t k).1 ≤ 2400 ∧ -2400 ≤ (stH xs t k).2.1 ∧ (stH xs t k).2.1 ≤ 2400 := by
  have := stH_bd xs t (fun i hi => by have := sides_at h i hi; omega) k hk
  omega
/-- the turns to the left less those to the right, of the first k -/
def turnN (t : List UInt8) (k : Nat) : Int := 2 * (cntL (t.take k) : Int) - k
theorem turnN_succ (t : List UInt8) (k : Nat) (hk : k < t.length) : turnN t (k + 1) = turnN t k + if t.getD k 0 = 76 then 1 else -1 := by
  unfold turnN cntL
  rw [List.take_succ_eq_append_getElem hk, List.count_append, List.getD_eq_getElem?_getD, List.getElem?_eq_getElem hk, Option.getD_some]
  by_cases h : t[k] = 76
  · rw [h, if_pos rfl]; simp; omega
  · rw [if_neg h, List.count_singleton, beq_eq_false_iff_ne.2 h]; simp; omega
end Go.Proofs.YtaokeaiehjgbnaaGreatDoor

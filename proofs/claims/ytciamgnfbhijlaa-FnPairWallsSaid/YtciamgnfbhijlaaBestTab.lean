/- The best course of a length: the table, and what its rows are. Nothing here speaks of the program. -/
import Derived.Test.YtciamgnfbhijlaaBestMath
namespace Go.Proofs.Ytciamgnfbhijlaa
open Go.RowKit
set_option linter.unusedSimpArgs false
set_option linter.unusedVariables false
set_option linter.unnecessarySimpa false

/-- the best of d, d - 1, .., 0 quarters -/
def rowsT (ok : Int → Bool) (L : Int) : Nat → List (Option Rw)
  | 0 => [some ⟨0, 0, []⟩]
  | d + 1 => stepS ok L (d + 1) (rowsT ok L d) :: rowsT ok L d
/-- the best course of the last d quarters -/
def best (ok : Int → Bool) (L : Int) (d : Nat) : Option Rw := (rowsT ok L d).getD 0 none
theorem rowsT_length (ok : Int → Bool) (L : Int) (d : Nat) : (rowsT ok L d).length = d + 1 := by induction d with | zero => rfl | succ d ih => simp [rowsT, ih]
theorem rowsT_get (ok : Int → Bool) (L : Int) (d : Nat) : ∀ i, i ≤ d → (rowsT ok L d).getD i none = best ok L (d - i) := by
  induction d with
  | zero => intro i hi; obtain rfl : i = 0 := by omega
            rfl
  | succ d ih =>
    intro i hi
    cases i with
    | zero => rfl
    | succ i =>
      have := ih i (by omega)
      rw [show d + 1 - (i + 1) = d - i by omega, ← this]
      simp [rowsT]
theorem best_zero (ok : Int → Bool) (L : Int) : best ok L 0 = some ⟨0, 0, []⟩ := rfl
theorem best_succ (ok : Int → Bool) (L : Int) (d : Nat) : best ok L (d + 1) = stepS ok L (d + 1) (rowsT ok L d) := rfl
theorem best_succI (ok : Int → Bool) (L : Int) (d : Nat) : best ok L (d + 1) = stepI ok L (d + 1) (rowsT ok L d) := by rw [best_succ, steps_agree]
theorem qB_cases (b : UInt8) : qB b = 0 ∨ qB b = 1 ∨ qB b = 2 ∨ qB b = 3 ∨ qB b = 4 := by
  have h := forall_u8 (p := fun b => decide (qB b = 0 ∨ qB b = 1 ∨ qB b = 2 ∨ qB b = 3 ∨ qB b = 4)) (by decide +kernel) b
  exact of_decide_eq_true h
theorem cand_eq (ok : Int → Bool) (L : Int) (d q : Nat) (b : UInt8) (hq : qB b = q) (h1 : 1 ≤ q) : cand ok L (d + 1) (rowsT ok L d) b =
    if d + 1 < q then none else match best ok L (d + 1 - q) with
      | none => none
      | some r => if q < d + 1 ∧ ok (L - (d + 1 : Nat) + q) = false then none else some (ahead b r) := by
  unfold cand
  rw [hq]
  by_cases h : d + 1 < q
  · rw [if_pos (by omega), if_pos h]
  · rw [if_neg (by omega), if_neg h]
    rw [rowsT_get ok L d _ (by omega), show d - ((q : Int).toNat - 1) = d + 1 - q by omega]
    cases best ok L (d + 1 - q) with
    | none => rfl
    | some r =>
      have e : ((q : Int) < ((d + 1 : Nat) : Int) ∧ ok (L - ((d + 1 : Nat) : Int) + q) = false) ↔ (q < d + 1 ∧ ok (L - ((d + 1 : Nat) : Int) + q) = false) := and_congr (by omega) Iff.rfl
      by_cases h2 : q < d + 1 ∧ ok (L - ((d + 1 : Nat) : Int) + q) = false
      · exact (if_pos (e.2 h2)).trans (if_pos h2).symm
      · exact (if_neg (fun h3 => h2 (e.1 h3))).trans (if_neg h2).symm
/-- what is known of a row: its text is a course of its length -/
structure Good (d : Nat) (r : Rw) : Prop where
  pc : r.t.all isPc = true
  sum : qSum r.t = d
  cuts : r.c = cutN r.t
  num : r.p = r.t.length
  le : r.t.length ≤ d
theorem Good.bd {d : Nat} {r : Rw} (h : Good d r) : 0 ≤ r.c ∧ r.c ≤ d ∧ 0 ≤ r.p ∧ r.p ≤ d := by
  have h1 := h.le
  have h2 : r.t.countP cutB ≤ r.t.length := List.countP_le_length
  have h3 := h.cuts
  have h4 := h.num
  unfold cutN at h3
  omega
theorem ahead_good {d q : Nat} {b : UInt8} {r : Rw} (h : Good d r) (hq : qB b = q) (h1 : 1 ≤ q) : Good (d + q) (ahead b r) := by
  have hpc : isPc b = true := by unfold isPc; rw [hq]; simp; omega
  refine ⟨?_, ?_, ?_, ?_, ?_⟩
  · simp only [ahead, List.all_cons, hpc, h.pc, Bool.and_self]
  · have := h.sum; simp only [ahead, qSum, List.map_cons, List.sum_cons] at *; omega
  · simp only [ahead, cutN, List.countP_cons]; rw [h.cuts]; unfold cutN; split <;> simp
  · simp only [ahead, List.length_cons]; have := h.num; omega
  · simp only [ahead, List.length_cons]; have := h.le; omega
theorem pickBy_from {lt : Rw → Rw → Bool} {now x : Option Rw} {r : Rw} (h : pickBy lt now x = some r) : now = some r ∨ x = some r := by
  unfold pickBy at h
  split at h
  · exact .inl h
  · split at h
    · exact .inr h
    · split at h
      · exact .inr h
      · exact .inl h
theorem cand_good {ok : Int → Bool} {L : Int} {d q : Nat} {b : UInt8} {r : Rw} (hb : ∀ d', d' ≤ d → ∀ r, best ok L d' = some r → Good d' r) (hq : qB b = q) (h1 : 1 ≤ q) (h : cand ok L (d + 1) (rowsT ok L d) b = some r) : Good (d + 1) r := by
  rw [cand_eq ok L d q b hq h1] at h
  split at h
  · cases h
  · split at h
    · cases h
    · rename_i h2 r0 h3
      split at h
      · cases h
      · obtain rfl := Option.some.inj h
        have := ahead_good (hb _ (by omega) _ h3) hq h1
        rwa [show d + 1 - q + q = d + 1 by omega] at this
theorem best_good (ok : Int → Bool) (L : Int) (d : Nat) : ∀ r, best ok L d = some r → Good d r := by
  induction d using Nat.strongRecOn with
  | ind d ih =>
    intro r hr
    cases d with
    | zero =>
      rw [best_zero] at hr
      obtain rfl := Option.some.inj hr
      exact ⟨rfl, rfl, rfl, rfl, Nat.le_refl _⟩
    | succ d =>
      rw [best_succ] at hr
      have hb : ∀ d', d' ≤ d → ∀ r, best ok L d' = some r → Good d' r := fun d' hd' => ih d' (by omega)
      unfold stepS stepS.order5L at hr
      simp only [List.foldl] at hr
      rcases pickBy_from hr with hr | hr
      · rcases pickBy_from hr with hr | hr
        · rcases pickBy_from hr with hr | hr
          · rcases pickBy_from hr with hr | hr
            · rcases pickBy_from hr with hr | hr
              · cases hr
              · exact cand_good hb qB_S (by decide) hr
            · exact cand_good hb qB_H (by decide) hr
          · exact cand_good hb qB_T (by decide) hr
        · exact cand_good hb qB_B (by decide) hr
      · exact cand_good hb qB_C (by decide) hr

/-- a table over the places 0 .. L: those from L - d on are known -/
def tab {α : Type} (B : Nat → Option Rw) (f : Option Rw → α) (z : α) (L d : Nat) : List α := (List.range (L + 1)).map fun j => if L ≤ j + d then f (B (L - j)) else z
theorem tab_length {α : Type} (B : Nat → Option Rw) (f : Option Rw → α) (z : α) (L d : Nat) : (tab B f z L d).length = L + 1 := by simp [tab]
theorem tab_get {α : Type} (B : Nat → Option Rw) (f : Option Rw → α) (z e : α) (L d j : Nat) (h1 : j ≤ L) (h2 : L ≤ j + d) : (tab B f z L d).getD j e = f (B (L - j)) := by
  rw [List.getD_eq_getElem?_getD, tab, List.getElem?_map, List.getElem?_range (by omega)]
  simp [h2]
theorem tab_unset {α : Type} (B : Nat → Option Rw) (f : Option Rw → α) (z e : α) (L d j : Nat) (h1 : j ≤ L) (h2 : ¬ L ≤ j + d) : (tab B f z L d).getD j e = z := by
  rw [List.getD_eq_getElem?_getD, tab, List.getElem?_map, List.getElem?_range (by omega)]
  simp only [Option.map_some, Option.getD_some, if_neg h2]
theorem tab_succ {α : Type} (B : Nat → Option Rw) (f : Option Rw → α) (z : α) (L d : Nat) (h : d < L) : (tab B f z L d).set (L - (d + 1)) (f (B (d + 1))) = tab B f z L (d + 1) := by
  apply List.ext_getElem?
  intro j
  by_cases hj : j < L + 1
  · by_cases e : j = L - (d + 1)
    · subst e
      rw [List.getElem?_set_self (by rw [tab_length]; exact hj), tab, List.getElem?_map, List.getElem?_range hj]
      simp only [Option.map_some]
      rw [if_pos (by omega), show L - (L - (d + 1)) = d + 1 by omega]
    · rw [List.getElem?_set_ne (by omega), tab, tab, List.getElem?_map, List.getElem?_map, List.getElem?_range hj]
      simp only [Option.map_some]
      congr 1
      by_cases h2 : L ≤ j + d
      · rw [if_pos h2, if_pos (by omega)]
      · rw [if_neg h2, if_neg (by omega)]
  · rw [List.getElem?_eq_none (by rw [List.length_set, tab_length]; omega), List.getElem?_eq_none (by rw [tab_length]; omega)]
theorem set_get_self {α : Type} (l : List α) (j : Nat) (e v : α) (h : l.getD j e = v) (hj : j < l.length) : l.set j v = l := by
  rw [List.getD_eq_getElem?_getD, List.getElem?_eq_getElem hj] at h
  apply List.ext_getElem?
  intro i
  by_cases e2 : i = j
  · subst e2; rw [List.getElem?_set_self hj, List.getElem?_eq_getElem hj, ← h]; rfl
  · rw [List.getElem?_set_ne (by omega)]
theorem tab_zero {α : Type} (B : Nat → Option Rw) (f : Option Rw → α) (z : α) (L : Nat) : (List.replicate (L + 1) z).set L (f (B 0)) = tab B f z L 0 := by
  apply List.ext_getElem?
  intro j
  by_cases hj : j < L + 1
  · by_cases e : j = L
    · subst e
      rw [List.getElem?_set_self (by simp), tab, List.getElem?_map, List.getElem?_range hj]
      simp
    · rw [List.getElem?_set_ne (by omega), tab, List.getElem?_map, List.getElem?_range hj, List.getElem?_replicate, if_pos hj]
      simp only [Option.map_some]
      rw [if_neg (by omega)]
  · rw [List.getElem?_eq_none (by simp; omega), List.getElem?_eq_none (by rw [tab_length]; omega)]
end Go.Proofs.Ytciamgnfbhijlaa

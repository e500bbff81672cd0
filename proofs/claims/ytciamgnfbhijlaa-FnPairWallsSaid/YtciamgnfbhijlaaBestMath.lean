/- The best course of a length, as a table over what is left: two ways to fill a row of it agree. Nothing here speaks of the program. -/
import Derived.Test.YtciamgnfbhijlaaBytes
namespace Go.Proofs.Ytciamgnfbhijlaa
open Go.RowKit
set_option linter.unusedSimpArgs false
set_option linter.unusedVariables false
set_option linter.unnecessarySimpa false

/-- a course from a place on: its cut pieces, its pieces, its text -/
structure Rw where
  c : Int
  p : Int
  t : List UInt8
  deriving DecidableEq
/-- better by its cuts, or by its pieces -/
def ltI (a b : Rw) : Bool := decide (a.c < b.c) || (decide (a.c = b.c) && decide (a.p < b.p))
/-- better by its cuts, its pieces, or its text -/
def ltS (a b : Rw) : Bool := if a.c = b.c then (if a.p = b.p then Op.bytesLess a.t b.t else decide (a.p < b.p)) else decide (a.c < b.c)
/-- the better one of what there was and of what comes -/
def pickBy (lt : Rw → Rw → Bool) (now x : Option Rw) : Option Rw :=
  match x with
  | none => now
  | some a => match now with
    | none => some a
    | some b => if lt a b then some a else some b
/-- a piece laid ahead of the best rest -/
def ahead (b : UInt8) (r : Rw) : Rw := ⟨r.c + (if cutB b then 1 else 0), r.p + 1, b :: r.t⟩
/-- what a piece makes of the rows that are known: rows holds the best of d - 1, d - 2, .. quarters -/
def cand (ok : Int → Bool) (L : Int) (d : Nat) (rows : List (Option Rw)) (b : UInt8) : Option Rw :=
  if (d : Int) < qB b then none else
  match rows.getD ((qB b).toNat - 1) none with
  | none => none
  | some r => if qB b < d ∧ ok (L - d + qB b) = false then none else some (ahead b r)
def stepS (ok : Int → Bool) (L : Int) (d : Nat) (rows : List (Option Rw)) : Option Rw := order5L.foldl (fun now b => pickBy ltS now (cand ok L d rows b)) none
  where order5L : List UInt8 := [83, 72, 84, 66, 67]
def stepI (ok : Int → Bool) (L : Int) (d : Nat) (rows : List (Option Rw)) : Option Rw := order4L.foldl (fun now b => pickBy ltI now (cand ok L d rows b)) none
  where order4L : List UInt8 := [67, 72, 83, 84]
theorem qB_S : qB 83 = 4 := by decide +kernel
theorem qB_H : qB 72 = 2 := by decide +kernel
theorem qB_T : qB 84 = 3 := by decide +kernel
theorem qB_B : qB 66 = 2 := by decide +kernel
theorem qB_C : qB 67 = 1 := by decide +kernel
theorem cut_S : cutB 83 = false := by decide +kernel
theorem cut_H : cutB 72 = false := by decide +kernel
theorem cut_T : cutB 84 = true := by decide +kernel
theorem cut_B : cutB 66 = true := by decide +kernel
theorem cut_C : cutB 67 = true := by decide +kernel
/-- a half bat makes a worse course than a header -/
theorem cand_B (ok : Int → Bool) (L : Int) (d : Nat) (rows : List (Option Rw)) : cand ok L d rows 66 = (cand ok L d rows 72).map fun r => ⟨r.c + 1, r.p, 66 :: r.t.drop 1⟩ := by
  unfold cand
  rw [qB_B, qB_H]
  split
  · rfl
  · split
    · rfl
    · split
      · rfl
      · simp [ahead, cut_B, cut_H]
theorem cand_head (ok : Int → Bool) (L : Int) (d : Nat) (rows : List (Option Rw)) (b : UInt8) {r : Rw} (h : cand ok L d rows b = some r) : ∃ t, r.t = b :: t := by
  unfold cand at h
  split at h
  · cases h
  · split at h
    · cases h
    · split at h
      · cases h
      · obtain rfl := Option.some.inj h; exact ⟨_, rfl⟩
theorem bl_head (a b : UInt8) (x y : List UInt8) (h : a ≠ b) : Op.bytesLess (a :: x) (b :: y) = decide (a < b) := by
  simp [Op.bytesLess, h]
theorem pk_none (lt : Rw → Rw → Bool) (now : Option Rw) : pickBy lt now none = now := rfl
theorem pk_one (lt : Rw → Rw → Bool) (a : Rw) : pickBy lt none (some a) = some a := rfl
theorem pkS (a b : Rw) : pickBy ltS (some b) (some a) = if a.c < b.c ∨ (a.c = b.c ∧ (a.p < b.p ∨ (a.p = b.p ∧ Op.bytesLess a.t b.t = true))) then some a else some b := by
  unfold pickBy ltS
  by_cases h1 : a.c = b.c
  · by_cases h2 : a.p = b.p
    · simp [h1, h2]
    · simp [h1, h2]
  · simp [h1]
theorem pkI (a b : Rw) : pickBy ltI (some b) (some a) = if a.c < b.c ∨ (a.c = b.c ∧ a.p < b.p) then some a else some b := by
  unfold pickBy ltI
  simp
theorem pk_if (P : Prop) [Decidable P] (lt : Rw → Rw → Bool) (x y z : Option Rw) : pickBy lt (if P then x else y) z = if P then pickBy lt x z else pickBy lt y z := by split <;> rfl
set_option maxHeartbeats 2000000 in
theorem steps_agree (ok : Int → Bool) (L : Int) (d : Nat) (rows : List (Option Rw)) : stepS ok L d rows = stepI ok L d rows := by
  unfold stepS stepI stepS.order5L stepI.order4L
  simp only [List.foldl]
  rw [cand_B]
  have hS := fun r => cand_head ok L d rows 83 (r := r)
  have hH := fun r => cand_head ok L d rows 72 (r := r)
  have hT := fun r => cand_head ok L d rows 84 (r := r)
  have hC := fun r => cand_head ok L d rows 67 (r := r)
  revert hS hH hT hC
  generalize cand ok L d rows 83 = s
  generalize cand ok L d rows 72 = h
  generalize cand ok L d rows 84 = t
  generalize cand ok L d rows 67 = c
  intro hS hH hT hC
  have e1 : ∀ (x y : List UInt8), Op.bytesLess (72 :: x) (83 :: y) = true := fun x y => by rw [bl_head _ _ _ _ (by decide)]; decide
  have e2 : ∀ (x y : List UInt8), Op.bytesLess (84 :: x) (83 :: y) = false := fun x y => by rw [bl_head _ _ _ _ (by decide)]; decide
  have e3 : ∀ (x y : List UInt8), Op.bytesLess (66 :: x) (83 :: y) = true := fun x y => by rw [bl_head _ _ _ _ (by decide)]; decide
  have e4 : ∀ (x y : List UInt8), Op.bytesLess (67 :: x) (83 :: y) = true := fun x y => by rw [bl_head _ _ _ _ (by decide)]; decide
  have e5 : ∀ (x y : List UInt8), Op.bytesLess (84 :: x) (72 :: y) = false := fun x y => by rw [bl_head _ _ _ _ (by decide)]; decide
  have e6 : ∀ (x y : List UInt8), Op.bytesLess (66 :: x) (72 :: y) = true := fun x y => by rw [bl_head _ _ _ _ (by decide)]; decide
  have e7 : ∀ (x y : List UInt8), Op.bytesLess (67 :: x) (72 :: y) = true := fun x y => by rw [bl_head _ _ _ _ (by decide)]; decide
  have e8 : ∀ (x y : List UInt8), Op.bytesLess (66 :: x) (84 :: y) = true := fun x y => by rw [bl_head _ _ _ _ (by decide)]; decide
  have e9 : ∀ (x y : List UInt8), Op.bytesLess (67 :: x) (84 :: y) = true := fun x y => by rw [bl_head _ _ _ _ (by decide)]; decide
  have e10 : ∀ (x y : List UInt8), Op.bytesLess (67 :: x) (66 :: y) = false := fun x y => by rw [bl_head _ _ _ _ (by decide)]; decide
  cases s <;> cases h <;> cases t <;> cases c
  all_goals (try (obtain ⟨ts, hs⟩ := hS _ rfl)) <;> (try (obtain ⟨th, hh⟩ := hH _ rfl)) <;> (try (obtain ⟨tt, ht⟩ := hT _ rfl)) <;> (try (obtain ⟨tc, hc⟩ := hC _ rfl))
  all_goals clear hS hH hT hC
  all_goals simp only [Option.map_some, Option.map_none, pk_none, pk_one, pkS, pkI, pk_if, *]
  all_goals (try simp only [and_true, and_false, or_false, or_true, Bool.false_eq_true])
  all_goals (repeat' split)
  all_goals first | rfl | (exfalso; omega)
end Go.Proofs.Ytciamgnfbhijlaa

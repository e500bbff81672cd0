/- Plans whose sides do not meet: both sides. -/
import Derived.Test.YtlgdaddplibglaaHouse9
import Derived.Deep.RegionHeld3
namespace Go.Proofs.Ytlgdaddplibglaa
open Go.RowKit
set_option linter.unusedSimpArgs false
set_option linter.unusedVariables false
set_option linter.unnecessarySimpa false

def mnI (a b : Int) : Int := if a < b then a else b
def mxI (a b : Int) : Int := if a > b then a else b
theorem apB_eq (a b c d : Int) : apB a b c d = !(decide (mnI a b ≤ mxI c d) && decide (mnI c d ≤ mxI a b)) := by
  unfold apB mnI mxI
  have h1 : max a b = if a > b then a else b := by split <;> omega
  have h2 : min c d = if c < d then c else d := by split <;> omega
  have h3 : max c d = if c > d then c else d := by split <;> omega
  have h4 : min a b = if a < b then a else b := by split <;> omega
  rw [h1, h2, h3, h4, Bool.eq_iff_iff]
  simp only [Bool.or_eq_true, decide_eq_true_eq, Bool.not_eq_true', Bool.and_eq_false_iff, decide_eq_false_iff_not]
  omega
/-- the sides i and k of n meet, and do not follow one another -/
def hitP (p : Nat → Int × Int) (n i k : Nat) : Bool := decide (i + 2 ≤ k) && (decide (¬ (i = 0 ∧ k + 1 = n)) && meetB (p i) (p (i + 1)) (p k) (p (k + 1)))
def simpleP (p : Nat → Int × Int) (n : Nat) : Bool := !((List.range n).any fun i => (List.range n).any fun k => hitP p n i k)
theorem simple_hit {p : Nat → Int × Int} {n i k : Nat} (hi : i < n) (hk : k < n) (h : hitP p n i k = true) : simpleP p n = false := by
  unfold simpleP
  rw [Bool.not_eq_false', List.any_eq_true]
  exact ⟨i, List.mem_range.2 hi, List.any_eq_true.2 ⟨k, List.mem_range.2 hk, h⟩⟩
theorem simple_none {p : Nat → Int × Int} {n : Nat} (h : ∀ i, i < n → ∀ k, k < n → hitP p n i k = false) : simpleP p n = true := by
  unfold simpleP
  rw [Bool.not_eq_true', List.any_eq_false]
  intro i hi
  rw [Bool.not_eq_true, List.any_eq_false]
  intro k hk
  rw [h i (List.mem_range.1 hi) k (List.mem_range.1 hk)]
  decide
theorem hit_low {p : Nat → Int × Int} {n i k : Nat} (h : ¬ i + 2 ≤ k) : hitP p n i k = false := by unfold hitP; rw [decide_eq_false h]; rfl
theorem hit_last {p : Nat → Int × Int} {n i k : Nat} (h : i = 0 ∧ k + 1 = n) : hitP p n i k = false := by
  unfold hitP
  rw [decide_eq_false (p := ¬ (i = 0 ∧ k + 1 = n)) (fun h2 => h2 h)]; simp
theorem hit_meet {p : Nat → Int × Int} {n i k : Nat} (h1 : i + 2 ≤ k) (h : ¬ (i = 0 ∧ k + 1 = n)) : hitP p n i k = meetB (p i) (p (i + 1)) (p k) (p (k + 1)) := by
  unfold hitP
  rw [decide_eq_true h1, decide_eq_true h]; rfl
def simpH (xs : List Int) (t : List UInt8) (n : Nat) : Bool := validH xs t && simpleP (ptH xs t) n
theorem PtC.drewN {w : World} {g : Nat} {p : Int × Int} (h : PtC w g p) (m : Nat) : PtC (w.drewN m) g p := h
theorem keepT1 {w2 W W' : World} {b1 : Nat} {x1 y1 : Value} (h : Two W b1 x1 y1 ∧ Ext w2 W) (e : Ext W W') : Two W' b1 x1 y1 ∧ Ext w2 W' := ⟨h.1.ext e, h.2.trans e⟩
theorem heldT1 {w2 W : World} {b1 : Nat} {x1 y1 : Value} (h : Two W b1 x1 y1 ∧ Ext w2 W) : Ext w2 W := h.2
end Go.Proofs.Ytlgdaddplibglaa

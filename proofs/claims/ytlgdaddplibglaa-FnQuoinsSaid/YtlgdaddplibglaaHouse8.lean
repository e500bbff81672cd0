/- Plans of houses: the area inside: both sides. -/
import Derived.Test.YtlgdaddplibglaaHouse7
import Derived.Shelf.Abstract
import Derived.RegionTactic
import Derived.BigRegion
import Derived.Deep.DeepCutAuto
namespace Go.Proofs.Ytlgdaddplibglaa
open Go.RowKit
set_option linter.unusedSimpArgs false
set_option linter.unusedVariables false
set_option linter.unnecessarySimpa false

def areaN (xs : List Int) (t : List UInt8) : Nat → Int
  | 0 => 0
  | k + 1 => areaN xs t k + ((ptH xs t k).1 * (ptH xs t (k + 1)).2 - (ptH xs t (k + 1)).1 * (ptH xs t k).2)
theorem mul_bd {a b : Int} (h : -2400 ≤ a ∧ a ≤ 2400) (h2 : -2400 ≤ b ∧ b ≤ 2400) : -5760000 ≤ a * b ∧ a * b ≤ 5760000 := by
  have h3 : a.natAbs ≤ 2400 := by omega
  have h4 : b.natAbs ≤ 2400 := by omega
  have h5 : (a * b).natAbs ≤ 2400 * 2400 := by rw [Int.natAbs_mul]; exact Nat.mul_le_mul h3 h4
  omega
theorem ptH_bd {xs : List Int} (t : List UInt8) (h : ∀ x ∈ xs, 8 ≤ x ∧ x ≤ 200) (hn : xs.length ≤ 12) (k : Nat) (hk : k ≤ xs.length) : (-2400 ≤ (ptH xs t k).1 ∧ (ptH xs t k).1 ≤ 2400) ∧ (-2400 ≤ (ptH xs t k).2 ∧ (ptH xs t k).2 ≤ 2400) := by
  have := pt_bd t h hn k hk
  unfold ptH
  exact ⟨⟨this.1, this.2.1⟩, this.2.2⟩
theorem areaN_bd {xs : List Int} (t : List UInt8) (h : ∀ x ∈ xs, 8 ≤ x ∧ x ≤ 200) (hn : xs.length ≤ 12) (k : Nat) (hk : k ≤ xs.length) : -(11520000 * (k : Int)) ≤ areaN xs t k ∧ areaN xs t k ≤ 11520000 * k := by
  induction k with
  | zero => simp [areaN]
  | succ k ih =>
    have h1 := ih (by omega)
    have h2 := ptH_bd t h hn k (by omega)
    have h3 := ptH_bd t h hn (k + 1) (by omega)
    have h4 := mul_bd h2.1 h3.2
    have h5 := mul_bd h3.1 h2.2
    show _ ≤ areaN xs t k + _ ∧ areaN xs t k + _ ≤ _
    omega
def areaH (xs : List Int) (t : List UInt8) (n : Nat) : Int := sel (validH xs t) (absI (areaN xs t n) / 2) 0
theorem PtsAt.uni {w : World} {ao : Option Addr} {n : Nat} {ps : List (Int × Int)} (h : PtsAt w ao n ps) (hn : 0 < n) :
    ∃ g, ao = some ⟨g, 0, none⟩ ∧ ∀ i, i < n → ∃ gi, w.cell? ⟨g, i, none⟩ = some (.slice (some ⟨gi, 0, none⟩) 2 2) ∧ w.cell? ⟨gi, 0, none⟩ = some (.int .i64 (ps.getD i (0, 0)).1) ∧ w.cell? ⟨gi, 1, none⟩ = some (.int .i64 (ps.getD i (0, 0)).2) := by
  obtain ⟨g, _, rfl, _⟩ := h.2 0 hn
  refine ⟨g, rfl, fun i hi => ?_⟩
  obtain ⟨g', gi, h1, h2, h3, h4⟩ := h.2 i hi
  simp only [Option.some.injEq, Addr.mk.injEq, and_true] at h1
  subst h1
  exact ⟨gi, h2, h3, h4⟩
end Go.Proofs.Ytlgdaddplibglaa

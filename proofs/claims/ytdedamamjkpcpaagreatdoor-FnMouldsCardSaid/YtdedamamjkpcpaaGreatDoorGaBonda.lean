/- A group of texts, one behind the other: Bond1, Bond2. -/
import Derived.Test.YtdedamamjkpcpaaGreatDoorBond0
import Derived.Test.YtdedamamjkpcpaaGreatDoorBasic
/- Contracts: names, what a bond is: both sides. -/
namespace Go.Proofs.YtdedamamjkpcpaaGreatDoor
open Go.RowKit
set_option linter.unusedSimpArgs false
set_option linter.unusedVariables false
set_option linter.unnecessarySimpa false

theorem bts_getD (s : ByteArray) (k : Nat) (h : k < s.size) : (bts s).getD k 0 = s[k] := by
  obtain ⟨h1, h2⟩ := byte_at s k h
  rw [List.getD_eq_getElem?_getD, List.getElem?_eq_getElem h1, Option.getD_some]
  exact h2
theorem nmB_iff (b : UInt8) : nmB b = true ↔ ((97 ≤ (b.toNat : Int) ∧ (b.toNat : Int) ≤ 122) ∨ (48 ≤ (b.toNat : Int) ∧ (b.toNat : Int) ≤ 57) ∨ (b.toNat : Int) = 45) := by
  unfold nmB nmI; rw [decide_eq_true_eq]
theorem nmB_no (b : UInt8) : nmB b = false ↔ (((b.toNat : Int) < 97 ∨ 122 < (b.toNat : Int)) ∧ ((b.toNat : Int) < 48 ∨ 57 < (b.toNat : Int)) ∧ ¬ (b.toNat : Int) = 45) := by
  unfold nmB nmI; rw [decide_eq_false_iff_not]; omega
theorem nameB_eq (s : ByteArray) : nameB (bts s) = (inB s.size 1 12 && (smI ((bts s).getD 0 0).toNat && (bts s).all nmB)) := by unfold nameB; rw [bts_length]
end Go.Proofs.YtdedamamjkpcpaaGreatDoor

/- Contracts: what a bond is: both sides. -/
namespace Go.Proofs.YtdedamamjkpcpaaGreatDoor
open Go.RowKit
set_option linter.unusedSimpArgs false
set_option linter.unusedVariables false
set_option linter.unnecessarySimpa false

theorem inL_whole (b : UInt8) : inL [83, 72] b = isWh b := by
  have h := forall_u8 (p := fun b => inL [83, 72] b == isWh b) (by decide +kernel) b
  exact eq_of_beq h
theorem crsB_eq (a b : ByteArray) : crsB (bts a) (bts b) = (decide (a.size ≤ 6) && ((bts a).all isPc && (inB b.size 1 8 && (bts b).all isWh))) := by unfold crsB; rw [bts_length, bts_length]
def crsV (c : Crs) : Value := .agg #[.string c.lead, .string c.cyc]
theorem bondB_eq (nm : ByteArray) (cs : List Crs) (n : Nat) (h : cs.length = n) : bondB (bts nm) cs = (nameB (bts nm) && (inB n 1 8 && !(cs.any fun c => !crsOk c))) := by
  unfold bondB
  rw [h]
  congr 2
  rw [List.all_eq_not_any_not]
/-- the code of a bond, a course and a length -/
def codeB (nm : List UInt8) (cs : List Crs) (k n : Int) : Int := if bondB nm cs = true then (if inB k 0 1000 = true ∧ inB n 1 200 = true then 0 else 2) else 1
end Go.Proofs.YtdedamamjkpcpaaGreatDoor

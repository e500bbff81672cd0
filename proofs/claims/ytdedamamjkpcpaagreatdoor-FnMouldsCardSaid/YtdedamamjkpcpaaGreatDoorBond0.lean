/- Contracts of the laws' helpers over bonds and their courses. -/
import Derived.Test.YtdedamamjkpcpaaGreatDoorGaMath
import Derived.Test.YtdedamamjkpcpaaGreatDoorHouse0
import Derived.Test.YtdedamamjkpcpaaGreatDoorGaStrs
import Derived.Test.YtdedamamjkpcpaaGreatDoorRecs
import Derived.Deep.RegionHeld3
import Derived.Deep.DeepCutAuto
namespace Go.Proofs.YtdedamamjkpcpaaGreatDoor
open Go.RowKit
set_option linter.unusedSimpArgs false
set_option linter.unusedVariables false
set_option linter.unnecessarySimpa false

def crsC (c : Crs) : List Value := [.string c.lead, .string c.cyc]
def Crs.ok (c : Crs) : Prop := c.lead.size ≤ 9223372036854775807 ∧ c.cyc.size ≤ 9223372036854775807
/-- The slice of n courses at ao reads, in w, as cs. -/
def Crss (w : World) (ao : Option Addr) (n : Nat) (cs : List Crs) : Prop :=
  cs.length = n ∧ n ≤ 9223372036854775807 ∧ (∀ i, i < n → ∃ b off, ao = some ⟨b, off, none⟩ ∧ w.cell? ⟨b, off + i * 2, none⟩ = some (.string (cs.getD i default).lead) ∧ w.cell? ⟨b, off + i * 2 + 1, none⟩ = some (.string (cs.getD i default).cyc)) ∧ ∀ c ∈ cs, c.ok
theorem Crss.ext {w w' : World} {ao : Option Addr} {n : Nat} {cs : List Crs} (h : Crss w ao n cs) (e : Ext w w') : Crss w' ao n cs :=
  ⟨h.1, h.2.1, fun i hi => let ⟨b, off, h1, h2, h3⟩ := h.2.2.1 i hi; ⟨b, off, h1, e.cell h2, e.cell h3⟩, h.2.2.2⟩
theorem Crss.at {w : World} {ao : Option Addr} {n : Nat} {cs : List Crs} (h : Crss w ao n cs) {i : Nat} (hi : i < n) : (cs.getD i default).ok := by
  rw [List.getD_eq_getElem?_getD, List.getElem?_eq_getElem (by rw [h.1]; exact hi)]
  exact h.2.2.2 _ (List.getElem_mem _)
theorem crs_len (cs : List Crs) : ∀ r ∈ cs.map crsC, r.length = 2 := by
  intro r hr
  obtain ⟨c, _, rfl⟩ := List.mem_map.1 hr
  rfl
theorem crs_getD (cs : List Crs) (j : Nat) (hj : j < cs.length) : (cs.map crsC).getD j [] = [.string (cs.getD j default).lead, .string (cs.getD j default).cyc] := by
  rw [List.getD_eq_getElem?_getD, List.getD_eq_getElem?_getD, List.getElem?_map, List.getElem?_eq_getElem hj]
  rfl
/-- two cells that hold a course -/
abbrev TwoS (w : World) (b o : Nat) (x1 x2 : ByteArray) : Prop := w.cell? ⟨b, o, none⟩ = some (.string x1) ∧ w.cell? ⟨b, o + 1, none⟩ = some (.string x2)
theorem TwoS.ext {w w' : World} {b o : Nat} {x1 x2 : ByteArray} (h : TwoS w b o x1 x2) (e : Ext w w') : TwoS w' b o x1 x2 := ⟨e.cell h.1, e.cell h.2⟩
theorem keepSS {w2 W W' : World} {b o b' o' : Nat} {x1 x2 y1 y2 : ByteArray} (h : TwoS W b o x1 x2 ∧ TwoS W b' o' y1 y2 ∧ Ext w2 W) (e : Ext W W') : TwoS W' b o x1 x2 ∧ TwoS W' b' o' y1 y2 ∧ Ext w2 W' := ⟨h.1.ext e, h.2.1.ext e, h.2.2.trans e⟩
theorem heldSS {w2 W : World} {b o b' o' : Nat} {x1 x2 y1 y2 : ByteArray} (h : TwoS W b o x1 x2 ∧ TwoS W b' o' y1 y2 ∧ Ext w2 W) : Ext w2 W := h.2.2
theorem keepS1 {w2 W W' : World} {b o : Nat} {x1 x2 : ByteArray} (h : TwoS W b o x1 x2 ∧ Ext w2 W) (e : Ext W W') : TwoS W' b o x1 x2 ∧ Ext w2 W' := ⟨h.1.ext e, h.2.trans e⟩
theorem heldS1 {w2 W : World} {b o : Nat} {x1 x2 : ByteArray} (h : TwoS W b o x1 x2 ∧ Ext w2 W) : Ext w2 W := h.2
theorem crs_ne {os ps : List Crs} {k : Nat} (hk : k < os.length) (hk2 : k < ps.length) (h : ¬ os[k] = ps[k]) : decide (os = ps) = false := by
  rw [decide_eq_false_iff_not]; intro e; subst e; exact h rfl
end Go.Proofs.YtdedamamjkpcpaaGreatDoor

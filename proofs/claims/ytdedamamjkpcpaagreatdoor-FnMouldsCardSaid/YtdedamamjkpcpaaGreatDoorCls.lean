/- Regions that draw their order and hold calls that make memory: one walk, in the order of the text, over the class of all worlds that extend the one at hand. Nothing here speaks of the program. -/
import Derived.Test.YtdedamamjkpcpaaGreatDoorLawInts
import Derived.Deep.QuietTactic
import Derived.BigQuiet
namespace Go.Proofs.YtdedamamjkpcpaaGreatDoor
open Go.RowKit
set_option linter.unusedSimpArgs false
set_option linter.unusedVariables false
set_option linter.unnecessarySimpa false

theorem wp_region_cls {P : Program} {α : Type} (F : α → World) {id : Nat} {Q : Exit → Act → World → Prop} {a : Act} {w : World} {l : List Oper} (hm : P.follows .mixedOrders = true) (hB : Region.lexB .any l.toArray = true) (hd : ∃ z, w.drew = F z)
    (h : wpQuiet P l.toArray (fun w' => ∃ z, w' = F z) (fun a' => ∀ w', (∃ z, w' = F z) → Q .normal a' w') l a) : (Code.region id l.toArray true).wp P Q a w :=
  wp_region_quiet (C := fun w' => ∃ z, w' = F z) hm hB hd (by simpa using h)
/-- F runs through all worlds that extend W0 -/
structure Cls {α : Type} (W0 : World) (F : α → World) : Prop where
  ext : ∀ z, Ext W0 (F z)
  all : ∀ W, Ext W0 W → ∃ z, W = F z
theorem cls_of (W0 : World) : ∃ (α : Type) (_ : Nonempty α) (F : α → World), Cls W0 F := ⟨{W : World // Ext W0 W}, ⟨⟨W0, Ext.refl _⟩⟩, Subtype.val, fun z => z.2, fun W h => ⟨⟨W, h⟩, rfl⟩⟩
theorem Cls.drew {α : Type} {W0 : World} {F : α → World} (H : Cls W0 F) : ∃ z, W0.drew = F z := H.all _ (Ext.refl _).drew
theorem Cls.cell {α : Type} {W0 : World} {F : α → World} (H : Cls W0 F) {p : Addr} {v : Value} (h : W0.cell? p = some v) : ∀ z, (F z).cell? p = some v := fun z => (H.ext z).cell h
theorem Cls.retE {α : Type} {W0 : World} {F : α → World} (H : Cls W0 F) {P : Program} {f : FuncId} {args : Array Value} {z : α} {v : Value} (h : Calls P f args (F z) (RetE v (F z))) : Calls P f args (F z) fun e w'' => e = .returned v ∧ ∃ m, w'' = F m :=
  h.mono fun _ _ ⟨he, hx⟩ => ⟨he, H.all _ ((H.ext z).trans hx)⟩
theorem Cls.retV {α : Type} {W0 : World} {F : α → World} (H : Cls W0 F) {P : Program} {f : FuncId} {args : Array Value} {z : α} {v : Value} (h : Calls P f args (F z) (RetV v (F z))) : Calls P f args (F z) fun e w'' => e = .returned v ∧ ∃ m, w'' = F m :=
  h.mono fun _ _ ⟨he, hx⟩ => ⟨he, z, hx.symm⟩
end Go.Proofs.YtdedamamjkpcpaaGreatDoor

/-
  DERIVED. GIVEN WITH THE SEED: THE CARDS: each row of YtaokeaiehjgbnaaGreatDoorRows.lean that lists a variable, with what it lists TIED to the program's text (the seventh form; the later family's looks); each row that meets fmt, with fmt's text TOLD by the authors' own Lean function (tested against real Go, not proved from fmt's source: count such statements apart). THE CARD IS WHAT COUNTS. Prove the row's statement (the work); the ties are given (YtaokeaiehjgbnaaGreatDoorTie.lean); close each card by the builder's one call (the guide's Derived/Test/ToyasCard.lean, 'card_holds'). Laid BY PROGRAM, IN A SANDBOX (cutbox-door.mjs). By AI agents, Wed Nov 11 2026. No macro, syntax, notation, axiom, sorry.
-/
import Derived.Test.YtaokeaiehjgbnaaGreatDoorRows
import GoSem.ClaimSeven
namespace Go.Proofs.YtaokeaiehjgbnaaGreatDoor
namespace Rows

/-- THE TIED CARD OF 'laws.FnHouses'. -/
def fnHousesCard : Claim7 := { stood := { row := fnHousesRow, standIns := [], harness := (true, "872cc376eca4afbcd892dee34ccf7a42213674cf9de79266232e26a590a9f1f3"), looks := true }, kinds := [], alts := [], laidByText := true, laidKinds := [.data, .data, .data, .data, .sentinel, .sentinel, .pinned], laidTests := true, laidLooks := .later }
def FnHousesCardSaid : Prop := Claim7.holds Tryz.pinned (.plain (OpenSpec.ofChange fnHousesSpec)) fnHousesCard

/-- THE SECOND FORM's CARD OF 'laws.FnHouses'. -/
def fnHousesUptoCard : Claim7 := { stood := { row := fnHousesUptoRow, standIns := [], harness := (true, "872cc376eca4afbcd892dee34ccf7a42213674cf9de79266232e26a590a9f1f3"), looks := true }, kinds := [], alts := [], laidByText := true, laidKinds := [.data, .data, .data, .data, .sentinel, .sentinel, .pinned], laidTests := true, laidLooks := .later }
def FnHousesUptoCardSaid : Prop := Claim7.holds Tryz.pinned (.plain (OpenSpec.upto fnHousesSpec)) fnHousesUptoCard
end Rows
end Go.Proofs.YtaokeaiehjgbnaaGreatDoor

/-
  DERIVED. GIVEN WITH THE SEED: THE CARDS: each row of YtdedamamjkpcpaaGreatDoorRows.lean that lists a variable, with what it lists TIED to the program's text (the seventh form; the later family's looks); each row that meets fmt, with fmt's text TOLD by the authors' own Lean function (tested against real Go, not proved from fmt's source: count such statements apart). THE CARD IS WHAT COUNTS. Prove the row's statement (the work); the ties are given (YtdedamamjkpcpaaGreatDoorTie.lean); close each card by the builder's one call (the guide's Derived/Test/ToyasCard.lean, 'card_holds'). Laid BY PROGRAM, IN A SANDBOX (cutbox-door.mjs). By AI agents, Wed Nov 11 2026. No macro, syntax, notation, axiom, sorry.
-/
import Derived.Test.YtdedamamjkpcpaaGreatDoorRows
import GoSem.ClaimSeven
namespace Go.Proofs.YtdedamamjkpcpaaGreatDoor
namespace Rows

/-- THE TIED CARD OF 'laws.FnMoulds'. -/
def fnMouldsCard : Claim7 := { stood := { row := fnMouldsRow, standIns := [], harness := (true, "415fa6c3245bbe5238f0c6fa886f686332a03f69add2916b1cad5f5961dad578"), looks := true }, kinds := [], alts := [], laidByText := true, laidKinds := [.data, .data, .data, .data, .sentinel, .sentinel, .pinned], laidTests := true, laidLooks := .later }
def FnMouldsCardSaid : Prop := Claim7.holds Tryz.pinned (.plain (OpenSpec.ofChange fnMouldsSpec)) fnMouldsCard

/-- THE SECOND FORM's CARD OF 'laws.FnMoulds'. -/
def fnMouldsUptoCard : Claim7 := { stood := { row := fnMouldsUptoRow, standIns := [], harness := (true, "415fa6c3245bbe5238f0c6fa886f686332a03f69add2916b1cad5f5961dad578"), looks := true }, kinds := [], alts := [], laidByText := true, laidKinds := [.data, .data, .data, .data, .sentinel, .sentinel, .pinned], laidTests := true, laidLooks := .later }
def FnMouldsUptoCardSaid : Prop := Claim7.holds Tryz.pinned (.plain (OpenSpec.upto fnMouldsSpec)) fnMouldsUptoCard
end Rows
end Go.Proofs.YtdedamamjkpcpaaGreatDoor

/-
  DERIVED. GIVEN WITH THE SEED: THE CARDS: each row of YtaokeaiehjgbnaaDoorRows.lean that lists a variable, with what it lists TIED to the program's text (the seventh form; the later family's looks); each row that meets fmt, with fmt's text TOLD by the authors' own Lean function (tested against real Go, not proved from fmt's source: count such statements apart). THE CARD IS WHAT COUNTS. Prove the row's statement (the work); the ties are given (YtaokeaiehjgbnaaDoorTie.lean); close each card by the builder's one call (the guide's Derived/Test/ToyasCard.lean, 'card_holds'). Laid BY PROGRAM, IN A SANDBOX (cutbox-door.mjs). By AI agents, Wed Nov 11 2026. No macro, syntax, notation, axiom, sorry.
-/
import Derived.Test.YtaokeaiehjgbnaaDoorRows
import GoSem.ClaimSeven
namespace Go.Proofs.YtaokeaiehjgbnaaDoor
namespace Rows

/-- THE TIED CARD OF 'laws.FnExactHouseText'. -/
def fnExactHouseTextCard : Claim7 := { stood := { row := fnExactHouseTextRow, standIns := [], harness := (true, "9cc497ef2af0512bcb3bf161b70c347e05e4fea15a44848d6b8a4322bb5dbd7d"), looks := true }, kinds := [], alts := [], laidByText := true, laidKinds := [.data, .data, .data], laidTests := true, laidLooks := .later }
def FnExactHouseTextCardSaid : Prop := Claim7.holds Tryd.pinned (.plain (OpenSpec.ofChange fnExactHouseTextSpec)) fnExactHouseTextCard

/-- THE TIED CARD OF 'laws.FnExactReadHouse'. -/
def fnExactReadHouseCard : Claim7 := { stood := { row := fnExactReadHouseRow, standIns := [], harness := (true, "9cc497ef2af0512bcb3bf161b70c347e05e4fea15a44848d6b8a4322bb5dbd7d"), looks := true }, kinds := [], alts := [], laidByText := true, laidKinds := [.data, .data, .data, .data, .sentinel, .sentinel, .pinned], laidTests := true, laidLooks := .later }
def FnExactReadHouseCardSaid : Prop := Claim7.holds Tryd.pinned (.plain (OpenSpec.ofChange fnExactReadHouseSpec)) fnExactReadHouseCard

/-- THE TIED CARD OF 'laws.FnExactCourseRuns'. -/
def fnExactCourseRunsCard : Claim7 := { stood := { row := fnExactCourseRunsRow, standIns := [], harness := (true, "9cc497ef2af0512bcb3bf161b70c347e05e4fea15a44848d6b8a4322bb5dbd7d"), looks := true }, kinds := [], alts := [], laidByText := true, laidKinds := [.data, .data, .data], laidTests := true, laidLooks := .later }
def FnExactCourseRunsCardSaid : Prop := Claim7.holds Tryd.pinned (.plain (OpenSpec.ofChange fnExactCourseRunsSpec)) fnExactCourseRunsCard

/-- THE TIED CARD OF 'laws.FnExactReadRuns'. -/
def fnExactReadRunsCard : Claim7 := { stood := { row := fnExactReadRunsRow, standIns := [], harness := (true, "9cc497ef2af0512bcb3bf161b70c347e05e4fea15a44848d6b8a4322bb5dbd7d"), looks := true }, kinds := [], alts := [], laidByText := true, laidKinds := [.data, .data, .data, .data, .sentinel, .sentinel, .pinned], laidTests := true, laidLooks := .later }
def FnExactReadRunsCardSaid : Prop := Claim7.holds Tryd.pinned (.plain (OpenSpec.ofChange fnExactReadRunsSpec)) fnExactReadRunsCard

/-- THE TIED CARD OF 'laws.FnCourses'. -/
def fnCoursesCard : Claim7 := { stood := { row := fnCoursesRow, standIns := [], harness := (true, "9cc497ef2af0512bcb3bf161b70c347e05e4fea15a44848d6b8a4322bb5dbd7d"), looks := true }, kinds := [], alts := [], laidByText := true, laidKinds := [.data, .data, .data, .data, .sentinel, .sentinel, .pinned], laidTests := true, laidLooks := .later }
def FnCoursesCardSaid : Prop := Claim7.holds Tryd.pinned (.plain (OpenSpec.ofChange fnCoursesSpec)) fnCoursesCard

/-- THE SECOND FORM's CARD OF 'laws.FnExactHouseText'. -/
def fnExactHouseTextUptoCard : Claim7 := { stood := { row := fnExactHouseTextUptoRow, standIns := [], harness := (true, "9cc497ef2af0512bcb3bf161b70c347e05e4fea15a44848d6b8a4322bb5dbd7d"), looks := true }, kinds := [], alts := [], laidByText := true, laidKinds := [.data, .data, .data], laidTests := true, laidLooks := .later }
def FnExactHouseTextUptoCardSaid : Prop := Claim7.holds Tryd.pinned (.plain (OpenSpec.upto fnExactHouseTextSpec)) fnExactHouseTextUptoCard

/-- THE SECOND FORM's CARD OF 'laws.FnExactReadHouse'. -/
def fnExactReadHouseUptoCard : Claim7 := { stood := { row := fnExactReadHouseUptoRow, standIns := [], harness := (true, "9cc497ef2af0512bcb3bf161b70c347e05e4fea15a44848d6b8a4322bb5dbd7d"), looks := true }, kinds := [], alts := [], laidByText := true, laidKinds := [.data, .data, .data, .data, .sentinel, .sentinel, .pinned], laidTests := true, laidLooks := .later }
def FnExactReadHouseUptoCardSaid : Prop := Claim7.holds Tryd.pinned (.plain (OpenSpec.upto fnExactReadHouseSpec)) fnExactReadHouseUptoCard

/-- THE SECOND FORM's CARD OF 'laws.FnExactCourseRuns'. -/
def fnExactCourseRunsUptoCard : Claim7 := { stood := { row := fnExactCourseRunsUptoRow, standIns := [], harness := (true, "9cc497ef2af0512bcb3bf161b70c347e05e4fea15a44848d6b8a4322bb5dbd7d"), looks := true }, kinds := [], alts := [], laidByText := true, laidKinds := [.data, .data, .data], laidTests := true, laidLooks := .later }
def FnExactCourseRunsUptoCardSaid : Prop := Claim7.holds Tryd.pinned (.plain (OpenSpec.upto fnExactCourseRunsSpec)) fnExactCourseRunsUptoCard

/-- THE SECOND FORM's CARD OF 'laws.FnExactReadRuns'. -/
def fnExactReadRunsUptoCard : Claim7 := { stood := { row := fnExactReadRunsUptoRow, standIns := [], harness := (true, "9cc497ef2af0512bcb3bf161b70c347e05e4fea15a44848d6b8a4322bb5dbd7d"), looks := true }, kinds := [], alts := [], laidByText := true, laidKinds := [.data, .data, .data, .data, .sentinel, .sentinel, .pinned], laidTests := true, laidLooks := .later }
def FnExactReadRunsUptoCardSaid : Prop := Claim7.holds Tryd.pinned (.plain (OpenSpec.upto fnExactReadRunsSpec)) fnExactReadRunsUptoCard

/-- THE SECOND FORM's CARD OF 'laws.FnCourses'. -/
def fnCoursesUptoCard : Claim7 := { stood := { row := fnCoursesUptoRow, standIns := [], harness := (true, "9cc497ef2af0512bcb3bf161b70c347e05e4fea15a44848d6b8a4322bb5dbd7d"), looks := true }, kinds := [], alts := [], laidByText := true, laidKinds := [.data, .data, .data, .data, .sentinel, .sentinel, .pinned], laidTests := true, laidLooks := .later }
def FnCoursesUptoCardSaid : Prop := Claim7.holds Tryd.pinned (.plain (OpenSpec.upto fnCoursesSpec)) fnCoursesUptoCard
end Rows
end Go.Proofs.YtaokeaiehjgbnaaDoor

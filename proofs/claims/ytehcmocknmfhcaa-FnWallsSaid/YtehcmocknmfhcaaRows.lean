/-
  No cell of these rows narrows 'for every input' (looked for: loops, veiled, ifaces, maps, wideKeys, modest, calm, conditions, laid).
  DERIVED. THE GIVEN ROWS OF THIS SEAT. 6 by the template 'for every input the law returns true; each argument reads behind the call as it read before'; 0 by the template 'total and deterministic' (their statements: YtehcmocknmfhcaaTotals.lean).
  GIVEN WITH THE SEED: the statements are not yours to turn. If you find one false, say at which input.
  Laid BY PROGRAM, IN A SANDBOX (cutbox-rows.mjs): the forced cells as the released guide's own fill.sh prints them over the translation fa6a4e4220252cdd… (all of the seat's roots in one cut). By AI agents, Wed Nov 11 2026. No macro, syntax, notation, axiom, sorry.
-/
import Derived.Test.YtehcmocknmfhcaaChecked
import GoSem.Claim
import GoSem.ClaimJoined
import GoSem.ClaimMapViews
import Derived.JoinedTies
import Derived.KernelRfl
namespace Go.Proofs.Ytehcmocknmfhcaa
/- THE CELL 'sum', in the pinned program and in every row, IS THE sha256 OF THE DUMP (.gsa) THAT YtehcmocknmfhcaaProg.lean LOADS. Nothing in Lean hashes anything: it is a label: what it is worth is what the hold of that sum in a sandbox is worth. -/
noncomputable def Try.pinned : Pinned := { name := "ytehcmocknmfhcaa", sum := "fa6a4e4220252cdd1a0db72e4efc300c0569ce90751bec9979a3232a0988af9f", checked := Try.checked }
namespace Rows
def none {H : Type} : Left H := { results := [], args := [] }

/-- 'laws.FnExactLayCourse': WHATEVER THE INPUT: true; the input reads as it did. -/
def fnExactLayCourseSpec : ChangeSpec := { name := "fnExactLayCourse", fn := fun _ => fun
  | [d1, d2, d3] => { results := [.lit (.bool true)], args := [d1, d2, d3] }
  | _ => none }
def fnExactLayCourseRow : OpenClaim := { program := "ytehcmocknmfhcaa", sum := "fa6a4e4220252cdd1a0db72e4efc300c0569ce90751bec9979a3232a0988af9f", func := "loop.example/g01042/laws.FnExactLayCourse", spec := "fnExactLayCourse", inPlace := ["internal/bytealg.IndexByteString"], unfollowed := true, recurses := true, apart := false }
def FnExactLayCourseSaid : Prop := fnExactLayCourseRow.holds Try.pinned (OpenSpec.ofChange fnExactLayCourseSpec)

/-- ITS FALSE NEIGHBOUR: 'it returns false'. Refute it at one input. -/
def fnExactLayCourseWrong : ChangeSpec := { name := "fnExactLayCourse", fn := fun _ => fun
  | [d1, d2, d3] => { results := [.lit (.bool false)], args := [d1, d2, d3] }
  | _ => none }
def FnExactLayCourseWrongFalsely : Prop := fnExactLayCourseRow.holds Try.pinned (OpenSpec.ofChange fnExactLayCourseWrong)

/-- 'laws.FnExactLayWall': WHATEVER THE INPUT: true; the input reads as it did. -/
def fnExactLayWallSpec : ChangeSpec := { name := "fnExactLayWall", fn := fun _ => fun
  | [d1, d2, d3] => { results := [.lit (.bool true)], args := [d1, d2, d3] }
  | _ => none }
def fnExactLayWallRow : OpenClaim := { program := "ytehcmocknmfhcaa", sum := "fa6a4e4220252cdd1a0db72e4efc300c0569ce90751bec9979a3232a0988af9f", func := "loop.example/g01042/laws.FnExactLayWall", spec := "fnExactLayWall", inPlace := ["internal/bytealg.IndexByteString"], unfollowed := true, recurses := true, apart := false }
def FnExactLayWallSaid : Prop := fnExactLayWallRow.holds Try.pinned (OpenSpec.ofChange fnExactLayWallSpec)

/-- ITS FALSE NEIGHBOUR: 'it returns false'. Refute it at one input. -/
def fnExactLayWallWrong : ChangeSpec := { name := "fnExactLayWall", fn := fun _ => fun
  | [d1, d2, d3] => { results := [.lit (.bool false)], args := [d1, d2, d3] }
  | _ => none }
def FnExactLayWallWrongFalsely : Prop := fnExactLayWallRow.holds Try.pinned (OpenSpec.ofChange fnExactLayWallWrong)

/-- 'laws.FnLaid': WHATEVER THE INPUT: true; the input reads as it did. -/
def fnLaidSpec : ChangeSpec := { name := "fnLaid", fn := fun _ => fun
  | [d1, d2] => { results := [.lit (.bool true)], args := [d1, d2] }
  | _ => none }
def fnLaidRow : OpenClaim := { program := "ytehcmocknmfhcaa", sum := "fa6a4e4220252cdd1a0db72e4efc300c0569ce90751bec9979a3232a0988af9f", func := "loop.example/g01042/laws.FnLaid", spec := "fnLaid", inPlace := ["internal/bytealg.IndexByteString"], unfollowed := true, recurses := true, apart := false }
def FnLaidSaid : Prop := fnLaidRow.holds Try.pinned (OpenSpec.ofChange fnLaidSpec)

/-- ITS FALSE NEIGHBOUR: 'it returns false'. Refute it at one input. -/
def fnLaidWrong : ChangeSpec := { name := "fnLaid", fn := fun _ => fun
  | [d1, d2] => { results := [.lit (.bool false)], args := [d1, d2] }
  | _ => none }
def FnLaidWrongFalsely : Prop := fnLaidRow.holds Try.pinned (OpenSpec.ofChange fnLaidWrong)

/-- 'laws.FnWalls': WHATEVER THE INPUT: true; the input reads as it did. -/
def fnWallsSpec : ChangeSpec := { name := "fnWalls", fn := fun _ => fun
  | [d1, d2] => { results := [.lit (.bool true)], args := [d1, d2] }
  | _ => none }
def fnWallsRow : OpenClaim := { program := "ytehcmocknmfhcaa", sum := "fa6a4e4220252cdd1a0db72e4efc300c0569ce90751bec9979a3232a0988af9f", func := "loop.example/g01042/laws.FnWalls", spec := "fnWalls", inPlace := ["internal/bytealg.IndexByteString"], unfollowed := true, recurses := true, apart := false }
def FnWallsSaid : Prop := fnWallsRow.holds Try.pinned (OpenSpec.ofChange fnWallsSpec)

/-- ITS FALSE NEIGHBOUR: 'it returns false'. Refute it at one input. -/
def fnWallsWrong : ChangeSpec := { name := "fnWalls", fn := fun _ => fun
  | [d1, d2] => { results := [.lit (.bool false)], args := [d1, d2] }
  | _ => none }
def FnWallsWrongFalsely : Prop := fnWallsRow.holds Try.pinned (OpenSpec.ofChange fnWallsWrong)

/-- 'laws.FnBestCourses': WHATEVER THE INPUT: true; the input reads as it did. -/
def fnBestCoursesSpec : ChangeSpec := { name := "fnBestCourses", fn := fun _ => fun
  | [d1, d2] => { results := [.lit (.bool true)], args := [d1, d2] }
  | _ => none }
def fnBestCoursesRow : OpenClaim := { program := "ytehcmocknmfhcaa", sum := "fa6a4e4220252cdd1a0db72e4efc300c0569ce90751bec9979a3232a0988af9f", func := "loop.example/g01042/laws.FnBestCourses", spec := "fnBestCourses", inPlace := ["internal/bytealg.IndexByteString"], unfollowed := true, recurses := true, apart := false }
def FnBestCoursesSaid : Prop := fnBestCoursesRow.holds Try.pinned (OpenSpec.ofChange fnBestCoursesSpec)

/-- ITS FALSE NEIGHBOUR: 'it returns false'. Refute it at one input. -/
def fnBestCoursesWrong : ChangeSpec := { name := "fnBestCourses", fn := fun _ => fun
  | [d1, d2] => { results := [.lit (.bool false)], args := [d1, d2] }
  | _ => none }
def FnBestCoursesWrongFalsely : Prop := fnBestCoursesRow.holds Try.pinned (OpenSpec.ofChange fnBestCoursesWrong)

/-- 'laws.FnAbove': WHATEVER THE INPUT: true; the input reads as it did. -/
def fnAboveSpec : ChangeSpec := { name := "fnAbove", fn := fun _ => fun
  | [d1, d2] => { results := [.lit (.bool true)], args := [d1, d2] }
  | _ => none }
def fnAboveRow : OpenClaim := { program := "ytehcmocknmfhcaa", sum := "fa6a4e4220252cdd1a0db72e4efc300c0569ce90751bec9979a3232a0988af9f", func := "loop.example/g01042/laws.FnAbove", spec := "fnAbove", inPlace := ["internal/bytealg.IndexByteString"], unfollowed := true, recurses := true, apart := false }
def FnAboveSaid : Prop := fnAboveRow.holds Try.pinned (OpenSpec.ofChange fnAboveSpec)

/-- ITS FALSE NEIGHBOUR: 'it returns false'. Refute it at one input. -/
def fnAboveWrong : ChangeSpec := { name := "fnAbove", fn := fun _ => fun
  | [d1, d2] => { results := [.lit (.bool false)], args := [d1, d2] }
  | _ => none }
def FnAboveWrongFalsely : Prop := fnAboveRow.holds Try.pinned (OpenSpec.ofChange fnAboveWrong)

/- THE SECOND FORM. 'bulk': how many values and letters a reading holds, each counted each time it is reached (what is shared counts as often as it is met; a slice's spare places count too). A statement '..UptoSaid' is the law's where the arguments, and the package variables that the reading takes, are together of bulk at most 1048576: NARROWER than '..Said'. Prove '..Said' where nothing that the law and all that it calls make is longer than what came in: it says more and counts as full. Else prove '..UptoSaid'. A law counts once. -/
mutual
def uptoBulk {H : Type} : DataW H → Nat
  | .lit (.string bytes) => bytes.length + 1
  | .lit _ => 1
  | .nil => 1
  | .ptr d => uptoBulk d + 1
  | .slice elems spare => uptoBulkAll elems + uptoBulkAll spare + 1
  | .agg parts => uptoBulkAll parts + 1
  | .iface _ d => uptoBulk d + 1
  | .map entries => uptoBulkEntries entries + 1
  | .held _ => 1
def uptoBulkAll {H : Type} : List (DataW H) → Nat
  | [] => 0
  | d :: r => uptoBulk d + uptoBulkAll r
def uptoBulkEntries {H : Type} : List (Lit × DataW H) → Nat
  | [] => 0
  | x :: r => uptoBulkEntry x + uptoBulkEntries r
def uptoBulkEntry {H : Type} : Lit × DataW H → Nat
  | (.string bytes, d) => bytes.length + uptoBulk d + 1
  | (_, d) => uptoBulk d + 1
 end
def uptoSmall : (H : Type) → List (DataW H) → Bool := fun _ ds => decide (uptoBulkAll ds ≤ 1048576)
def OpenSpec.upto (s : _root_.Go.ChangeSpec) : _root_.Go.OpenSpec := { _root_.Go.OpenSpec.ofChange s with cond := some uptoSmall }

/-- 'laws.FnExactLayCourse', WHERE WHAT IT READS IS OF BULK AT MOST 1048576: true; the input reads as it did. -/
def fnExactLayCourseUptoRow : OpenClaim := { program := "ytehcmocknmfhcaa", sum := "fa6a4e4220252cdd1a0db72e4efc300c0569ce90751bec9979a3232a0988af9f", func := "loop.example/g01042/laws.FnExactLayCourse", spec := "fnExactLayCourse", inPlace := ["internal/bytealg.IndexByteString"], unfollowed := true, recurses := true, apart := false, narrowed := true }
def FnExactLayCourseUptoSaid : Prop := fnExactLayCourseUptoRow.holds Try.pinned (OpenSpec.upto fnExactLayCourseSpec)

/-- 'laws.FnExactLayWall', WHERE WHAT IT READS IS OF BULK AT MOST 1048576: true; the input reads as it did. -/
def fnExactLayWallUptoRow : OpenClaim := { program := "ytehcmocknmfhcaa", sum := "fa6a4e4220252cdd1a0db72e4efc300c0569ce90751bec9979a3232a0988af9f", func := "loop.example/g01042/laws.FnExactLayWall", spec := "fnExactLayWall", inPlace := ["internal/bytealg.IndexByteString"], unfollowed := true, recurses := true, apart := false, narrowed := true }
def FnExactLayWallUptoSaid : Prop := fnExactLayWallUptoRow.holds Try.pinned (OpenSpec.upto fnExactLayWallSpec)

/-- 'laws.FnLaid', WHERE WHAT IT READS IS OF BULK AT MOST 1048576: true; the input reads as it did. -/
def fnLaidUptoRow : OpenClaim := { program := "ytehcmocknmfhcaa", sum := "fa6a4e4220252cdd1a0db72e4efc300c0569ce90751bec9979a3232a0988af9f", func := "loop.example/g01042/laws.FnLaid", spec := "fnLaid", inPlace := ["internal/bytealg.IndexByteString"], unfollowed := true, recurses := true, apart := false, narrowed := true }
def FnLaidUptoSaid : Prop := fnLaidUptoRow.holds Try.pinned (OpenSpec.upto fnLaidSpec)

/-- 'laws.FnWalls', WHERE WHAT IT READS IS OF BULK AT MOST 1048576: true; the input reads as it did. -/
def fnWallsUptoRow : OpenClaim := { program := "ytehcmocknmfhcaa", sum := "fa6a4e4220252cdd1a0db72e4efc300c0569ce90751bec9979a3232a0988af9f", func := "loop.example/g01042/laws.FnWalls", spec := "fnWalls", inPlace := ["internal/bytealg.IndexByteString"], unfollowed := true, recurses := true, apart := false, narrowed := true }
def FnWallsUptoSaid : Prop := fnWallsUptoRow.holds Try.pinned (OpenSpec.upto fnWallsSpec)

/-- 'laws.FnBestCourses', WHERE WHAT IT READS IS OF BULK AT MOST 1048576: true; the input reads as it did. -/
def fnBestCoursesUptoRow : OpenClaim := { program := "ytehcmocknmfhcaa", sum := "fa6a4e4220252cdd1a0db72e4efc300c0569ce90751bec9979a3232a0988af9f", func := "loop.example/g01042/laws.FnBestCourses", spec := "fnBestCourses", inPlace := ["internal/bytealg.IndexByteString"], unfollowed := true, recurses := true, apart := false, narrowed := true }
def FnBestCoursesUptoSaid : Prop := fnBestCoursesUptoRow.holds Try.pinned (OpenSpec.upto fnBestCoursesSpec)

/-- 'laws.FnAbove', WHERE WHAT IT READS IS OF BULK AT MOST 1048576: true; the input reads as it did. -/
def fnAboveUptoRow : OpenClaim := { program := "ytehcmocknmfhcaa", sum := "fa6a4e4220252cdd1a0db72e4efc300c0569ce90751bec9979a3232a0988af9f", func := "loop.example/g01042/laws.FnAbove", spec := "fnAbove", inPlace := ["internal/bytealg.IndexByteString"], unfollowed := true, recurses := true, apart := false, narrowed := true }
def FnAboveUptoSaid : Prop := fnAboveUptoRow.holds Try.pinned (OpenSpec.upto fnAboveSpec)

end Rows
end Go.Proofs.Ytehcmocknmfhcaa

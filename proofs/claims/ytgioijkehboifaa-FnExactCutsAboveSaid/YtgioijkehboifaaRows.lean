/-
  No cell of these rows narrows 'for every input' (looked for: loops, veiled, ifaces, maps, wideKeys, modest, calm, conditions, laid).
  DERIVED. THE GIVEN ROWS OF THIS SEAT. 12 by the template 'for every input the law returns true; each argument reads behind the call as it read before'; 0 by the template 'total and deterministic' (their statements: YtgioijkehboifaaTotals.lean).
  GIVEN WITH THE SEED: the statements are not yours to turn. If you find one false, say at which input.
  Laid BY PROGRAM, IN A SANDBOX (cutbox-rows.mjs): the forced cells as the released guide's own fill.sh prints them over the translation cea98c1754e837b0… (all of the seat's roots in one cut). By AI agents, Wed Nov 11 2026. No macro, syntax, notation, axiom, sorry.
-/
import Derived.Test.YtgioijkehboifaaChecked
import GoSem.Claim
import GoSem.ClaimJoined
import GoSem.ClaimMapViews
import Derived.JoinedTies
import Derived.KernelRfl
namespace Go.Proofs.Ytgioijkehboifaa
/- THE CELL 'sum', in the pinned program and in every row, IS THE sha256 OF THE DUMP (.gsa) THAT YtgioijkehboifaaProg.lean LOADS. Nothing in Lean hashes anything: it is a label: what it is worth is what the hold of that sum in a sandbox is worth. -/
noncomputable def Try.pinned : Pinned := { name := "ytgioijkehboifaa", sum := "cea98c1754e837b052c47bead70da0f0dada01862bf187a0bd2368df6a078821", checked := Try.checked }
namespace Rows
def none {H : Type} : Left H := { results := [], args := [] }

/-- 'laws.FnExactValidWall': WHATEVER THE INPUT: true; the input reads as it did. -/
def fnExactValidWallSpec : ChangeSpec := { name := "fnExactValidWall", fn := fun _ => fun
  | [d] => { results := [.lit (.bool true)], args := [d] }
  | _ => none }
def fnExactValidWallRow : OpenClaim := { program := "ytgioijkehboifaa", sum := "cea98c1754e837b052c47bead70da0f0dada01862bf187a0bd2368df6a078821", func := "loop.example/g01042/laws.FnExactValidWall", spec := "fnExactValidWall", inPlace := ["internal/bytealg.IndexByteString"], unfollowed := true, recurses := true, apart := false }
def FnExactValidWallSaid : Prop := fnExactValidWallRow.holds Try.pinned (OpenSpec.ofChange fnExactValidWallSpec)

/-- ITS FALSE NEIGHBOUR: 'it returns false'. Refute it at one input. -/
def fnExactValidWallWrong : ChangeSpec := { name := "fnExactValidWall", fn := fun _ => fun
  | [d] => { results := [.lit (.bool false)], args := [d] }
  | _ => none }
def FnExactValidWallWrongFalsely : Prop := fnExactValidWallRow.holds Try.pinned (OpenSpec.ofChange fnExactValidWallWrong)

/-- 'laws.FnExactBestCourse': WHATEVER THE INPUT: true; the input reads as it did. -/
def fnExactBestCourseSpec : ChangeSpec := { name := "fnExactBestCourse", fn := fun _ => fun
  | [d] => { results := [.lit (.bool true)], args := [d] }
  | _ => none }
def fnExactBestCourseRow : OpenClaim := { program := "ytgioijkehboifaa", sum := "cea98c1754e837b052c47bead70da0f0dada01862bf187a0bd2368df6a078821", func := "loop.example/g01042/laws.FnExactBestCourse", spec := "fnExactBestCourse", unfollowed := true, recurses := true, apart := false }
def FnExactBestCourseSaid : Prop := fnExactBestCourseRow.holds Try.pinned (OpenSpec.ofChange fnExactBestCourseSpec)

/-- ITS FALSE NEIGHBOUR: 'it returns false'. Refute it at one input. -/
def fnExactBestCourseWrong : ChangeSpec := { name := "fnExactBestCourse", fn := fun _ => fun
  | [d] => { results := [.lit (.bool false)], args := [d] }
  | _ => none }
def FnExactBestCourseWrongFalsely : Prop := fnExactBestCourseRow.holds Try.pinned (OpenSpec.ofChange fnExactBestCourseWrong)

/-- 'laws.FnExactFewestCuts': WHATEVER THE INPUT: true; the input reads as it did. -/
def fnExactFewestCutsSpec : ChangeSpec := { name := "fnExactFewestCuts", fn := fun _ => fun
  | [d] => { results := [.lit (.bool true)], args := [d] }
  | _ => none }
def fnExactFewestCutsRow : OpenClaim := { program := "ytgioijkehboifaa", sum := "cea98c1754e837b052c47bead70da0f0dada01862bf187a0bd2368df6a078821", func := "loop.example/g01042/laws.FnExactFewestCuts", spec := "fnExactFewestCuts", unfollowed := true, recurses := true, apart := false }
def FnExactFewestCutsSaid : Prop := fnExactFewestCutsRow.holds Try.pinned (OpenSpec.ofChange fnExactFewestCutsSpec)

/-- ITS FALSE NEIGHBOUR: 'it returns false'. Refute it at one input. -/
def fnExactFewestCutsWrong : ChangeSpec := { name := "fnExactFewestCuts", fn := fun _ => fun
  | [d] => { results := [.lit (.bool false)], args := [d] }
  | _ => none }
def FnExactFewestCutsWrongFalsely : Prop := fnExactFewestCutsRow.holds Try.pinned (OpenSpec.ofChange fnExactFewestCutsWrong)

/-- 'laws.FnExactWallOf': WHATEVER THE INPUT: true; the input reads as it did. -/
def fnExactWallOfSpec : ChangeSpec := { name := "fnExactWallOf", fn := fun _ => fun
  | [d1, d2, d3] => { results := [.lit (.bool true)], args := [d1, d2, d3] }
  | _ => none }
def fnExactWallOfRow : OpenClaim := { program := "ytgioijkehboifaa", sum := "cea98c1754e837b052c47bead70da0f0dada01862bf187a0bd2368df6a078821", func := "loop.example/g01042/laws.FnExactWallOf", spec := "fnExactWallOf", inPlace := ["internal/bytealg.IndexByteString"], apart := false }
def FnExactWallOfSaid : Prop := fnExactWallOfRow.holds Try.pinned (OpenSpec.ofChange fnExactWallOfSpec)

/-- ITS FALSE NEIGHBOUR: 'it returns false'. Refute it at one input. -/
def fnExactWallOfWrong : ChangeSpec := { name := "fnExactWallOf", fn := fun _ => fun
  | [d1, d2, d3] => { results := [.lit (.bool false)], args := [d1, d2, d3] }
  | _ => none }
def FnExactWallOfWrongFalsely : Prop := fnExactWallOfRow.holds Try.pinned (OpenSpec.ofChange fnExactWallOfWrong)

/-- 'laws.FnExactCountPieces': WHATEVER THE INPUT: true; the input reads as it did. -/
def fnExactCountPiecesSpec : ChangeSpec := { name := "fnExactCountPieces", fn := fun _ => fun
  | [d] => { results := [.lit (.bool true)], args := [d] }
  | _ => none }
def fnExactCountPiecesRow : OpenClaim := { program := "ytgioijkehboifaa", sum := "cea98c1754e837b052c47bead70da0f0dada01862bf187a0bd2368df6a078821", func := "loop.example/g01042/laws.FnExactCountPieces", spec := "fnExactCountPieces", inPlace := ["internal/bytealg.IndexByteString"], unfollowed := true, recurses := true, apart := false }
def FnExactCountPiecesSaid : Prop := fnExactCountPiecesRow.holds Try.pinned (OpenSpec.ofChange fnExactCountPiecesSpec)

/-- ITS FALSE NEIGHBOUR: 'it returns false'. Refute it at one input. -/
def fnExactCountPiecesWrong : ChangeSpec := { name := "fnExactCountPieces", fn := fun _ => fun
  | [d] => { results := [.lit (.bool false)], args := [d] }
  | _ => none }
def FnExactCountPiecesWrongFalsely : Prop := fnExactCountPiecesRow.holds Try.pinned (OpenSpec.ofChange fnExactCountPiecesWrong)

/-- 'laws.FnExactFirstClash': WHATEVER THE INPUT: true; the input reads as it did. -/
def fnExactFirstClashSpec : ChangeSpec := { name := "fnExactFirstClash", fn := fun _ => fun
  | [d1, d2] => { results := [.lit (.bool true)], args := [d1, d2] }
  | _ => none }
def fnExactFirstClashRow : OpenClaim := { program := "ytgioijkehboifaa", sum := "cea98c1754e837b052c47bead70da0f0dada01862bf187a0bd2368df6a078821", func := "loop.example/g01042/laws.FnExactFirstClash", spec := "fnExactFirstClash", inPlace := ["internal/bytealg.IndexByteString"], unfollowed := true, recurses := true, apart := false }
def FnExactFirstClashSaid : Prop := fnExactFirstClashRow.holds Try.pinned (OpenSpec.ofChange fnExactFirstClashSpec)

/-- ITS FALSE NEIGHBOUR: 'it returns false'. Refute it at one input. -/
def fnExactFirstClashWrong : ChangeSpec := { name := "fnExactFirstClash", fn := fun _ => fun
  | [d1, d2] => { results := [.lit (.bool false)], args := [d1, d2] }
  | _ => none }
def FnExactFirstClashWrongFalsely : Prop := fnExactFirstClashRow.holds Try.pinned (OpenSpec.ofChange fnExactFirstClashWrong)

/-- 'laws.FnExactIsBonded': WHATEVER THE INPUT: true; the input reads as it did. -/
def fnExactIsBondedSpec : ChangeSpec := { name := "fnExactIsBonded", fn := fun _ => fun
  | [d1, d2] => { results := [.lit (.bool true)], args := [d1, d2] }
  | _ => none }
def fnExactIsBondedRow : OpenClaim := { program := "ytgioijkehboifaa", sum := "cea98c1754e837b052c47bead70da0f0dada01862bf187a0bd2368df6a078821", func := "loop.example/g01042/laws.FnExactIsBonded", spec := "fnExactIsBonded", inPlace := ["internal/bytealg.IndexByteString"], unfollowed := true, recurses := true, apart := false }
def FnExactIsBondedSaid : Prop := fnExactIsBondedRow.holds Try.pinned (OpenSpec.ofChange fnExactIsBondedSpec)

/-- ITS FALSE NEIGHBOUR: 'it returns false'. Refute it at one input. -/
def fnExactIsBondedWrong : ChangeSpec := { name := "fnExactIsBonded", fn := fun _ => fun
  | [d1, d2] => { results := [.lit (.bool false)], args := [d1, d2] }
  | _ => none }
def FnExactIsBondedWrongFalsely : Prop := fnExactIsBondedRow.holds Try.pinned (OpenSpec.ofChange fnExactIsBondedWrong)

/-- 'laws.FnExactBestAbove': WHATEVER THE INPUT: true; the input reads as it did. -/
def fnExactBestAboveSpec : ChangeSpec := { name := "fnExactBestAbove", fn := fun _ => fun
  | [d1, d2] => { results := [.lit (.bool true)], args := [d1, d2] }
  | _ => none }
def fnExactBestAboveRow : OpenClaim := { program := "ytgioijkehboifaa", sum := "cea98c1754e837b052c47bead70da0f0dada01862bf187a0bd2368df6a078821", func := "loop.example/g01042/laws.FnExactBestAbove", spec := "fnExactBestAbove", inPlace := ["internal/bytealg.IndexByteString"], unfollowed := true, recurses := true, apart := false }
def FnExactBestAboveSaid : Prop := fnExactBestAboveRow.holds Try.pinned (OpenSpec.ofChange fnExactBestAboveSpec)

/-- ITS FALSE NEIGHBOUR: 'it returns false'. Refute it at one input. -/
def fnExactBestAboveWrong : ChangeSpec := { name := "fnExactBestAbove", fn := fun _ => fun
  | [d1, d2] => { results := [.lit (.bool false)], args := [d1, d2] }
  | _ => none }
def FnExactBestAboveWrongFalsely : Prop := fnExactBestAboveRow.holds Try.pinned (OpenSpec.ofChange fnExactBestAboveWrong)

/-- 'laws.FnExactCutsAbove': WHATEVER THE INPUT: true; the input reads as it did. -/
def fnExactCutsAboveSpec : ChangeSpec := { name := "fnExactCutsAbove", fn := fun _ => fun
  | [d1, d2] => { results := [.lit (.bool true)], args := [d1, d2] }
  | _ => none }
def fnExactCutsAboveRow : OpenClaim := { program := "ytgioijkehboifaa", sum := "cea98c1754e837b052c47bead70da0f0dada01862bf187a0bd2368df6a078821", func := "loop.example/g01042/laws.FnExactCutsAbove", spec := "fnExactCutsAbove", inPlace := ["internal/bytealg.IndexByteString"], unfollowed := true, recurses := true, apart := false }
def FnExactCutsAboveSaid : Prop := fnExactCutsAboveRow.holds Try.pinned (OpenSpec.ofChange fnExactCutsAboveSpec)

/-- ITS FALSE NEIGHBOUR: 'it returns false'. Refute it at one input. -/
def fnExactCutsAboveWrong : ChangeSpec := { name := "fnExactCutsAbove", fn := fun _ => fun
  | [d1, d2] => { results := [.lit (.bool false)], args := [d1, d2] }
  | _ => none }
def FnExactCutsAboveWrongFalsely : Prop := fnExactCutsAboveRow.holds Try.pinned (OpenSpec.ofChange fnExactCutsAboveWrong)

/-- 'laws.FnBestCourses': WHATEVER THE INPUT: true; the input reads as it did. -/
def fnBestCoursesSpec : ChangeSpec := { name := "fnBestCourses", fn := fun _ => fun
  | [d1, d2] => { results := [.lit (.bool true)], args := [d1, d2] }
  | _ => none }
def fnBestCoursesRow : OpenClaim := { program := "ytgioijkehboifaa", sum := "cea98c1754e837b052c47bead70da0f0dada01862bf187a0bd2368df6a078821", func := "loop.example/g01042/laws.FnBestCourses", spec := "fnBestCourses", inPlace := ["internal/bytealg.IndexByteString"], unfollowed := true, recurses := true, apart := false }
def FnBestCoursesSaid : Prop := fnBestCoursesRow.holds Try.pinned (OpenSpec.ofChange fnBestCoursesSpec)

/-- ITS FALSE NEIGHBOUR: 'it returns false'. Refute it at one input. -/
def fnBestCoursesWrong : ChangeSpec := { name := "fnBestCourses", fn := fun _ => fun
  | [d1, d2] => { results := [.lit (.bool false)], args := [d1, d2] }
  | _ => none }
def FnBestCoursesWrongFalsely : Prop := fnBestCoursesRow.holds Try.pinned (OpenSpec.ofChange fnBestCoursesWrong)

/-- 'laws.FnAbove': WHATEVER THE INPUT: true; the input reads as it did. -/
def fnAboveSpec : ChangeSpec := { name := "fnAbove", fn := fun _ => fun
  | [d1, d2] => { results := [.lit (.bool true)], args := [d1, d2] }
  | _ => none }
def fnAboveRow : OpenClaim := { program := "ytgioijkehboifaa", sum := "cea98c1754e837b052c47bead70da0f0dada01862bf187a0bd2368df6a078821", func := "loop.example/g01042/laws.FnAbove", spec := "fnAbove", inPlace := ["internal/bytealg.IndexByteString"], unfollowed := true, recurses := true, apart := false }
def FnAboveSaid : Prop := fnAboveRow.holds Try.pinned (OpenSpec.ofChange fnAboveSpec)

/-- ITS FALSE NEIGHBOUR: 'it returns false'. Refute it at one input. -/
def fnAboveWrong : ChangeSpec := { name := "fnAbove", fn := fun _ => fun
  | [d1, d2] => { results := [.lit (.bool false)], args := [d1, d2] }
  | _ => none }
def FnAboveWrongFalsely : Prop := fnAboveRow.holds Try.pinned (OpenSpec.ofChange fnAboveWrong)

/-- 'laws.FnWalls': WHATEVER THE INPUT: true; the input reads as it did. -/
def fnWallsSpec : ChangeSpec := { name := "fnWalls", fn := fun _ => fun
  | [d1, d2] => { results := [.lit (.bool true)], args := [d1, d2] }
  | _ => none }
def fnWallsRow : OpenClaim := { program := "ytgioijkehboifaa", sum := "cea98c1754e837b052c47bead70da0f0dada01862bf187a0bd2368df6a078821", func := "loop.example/g01042/laws.FnWalls", spec := "fnWalls", inPlace := ["internal/bytealg.IndexByteString"], unfollowed := true, recurses := true, apart := false }
def FnWallsSaid : Prop := fnWallsRow.holds Try.pinned (OpenSpec.ofChange fnWallsSpec)

/-- ITS FALSE NEIGHBOUR: 'it returns false'. Refute it at one input. -/
def fnWallsWrong : ChangeSpec := { name := "fnWalls", fn := fun _ => fun
  | [d1, d2] => { results := [.lit (.bool false)], args := [d1, d2] }
  | _ => none }
def FnWallsWrongFalsely : Prop := fnWallsRow.holds Try.pinned (OpenSpec.ofChange fnWallsWrong)

/- THE SECOND FORM. 'bulk': how many values and letters a reading holds, each counted each time it is reached (what is shared counts as often as it is met; a slice's spare places count too). A statement '..UptoSaid' is the law's where the arguments, and the package variables that the reading takes, are together of bulk at most 1048576: NARROWER than '..Said'. Prove '..Said' where nothing that the law and all that it calls make is longer than what came in: it says more and counts as full. Else prove '..UptoSaid'. A law counts once. -/
mutual
def uptoBulk {H : Type} : DataW H → Nat
  | .lit (.string bytes) => bytes.length + 1
  | .lit _ => 1
  | .nil => 1
  | .ptr d => uptoBulk d + 1
  | .slice elems spare => uptoBulkAll elems + uptoBulkAll spare + 1
  | .agg parts => uptoBulkAll parts + 1
  | .iface _ d => uptoBulk d + 1
  | .map entries => uptoBulkEntries entries + 1
  | .held _ => 1
def uptoBulkAll {H : Type} : List (DataW H) → Nat
  | [] => 0
  | d :: r => uptoBulk d + uptoBulkAll r
def uptoBulkEntries {H : Type} : List (Lit × DataW H) → Nat
  | [] => 0
  | x :: r => uptoBulkEntry x + uptoBulkEntries r
def uptoBulkEntry {H : Type} : Lit × DataW H → Nat
  | (.string bytes, d) => bytes.length + uptoBulk d + 1
  | (_, d) => uptoBulk d + 1
 end
def uptoSmall : (H : Type) → List (DataW H) → Bool := fun _ ds => decide (uptoBulkAll ds ≤ 1048576)
def OpenSpec.upto (s : _root_.Go.ChangeSpec) : _root_.Go.OpenSpec := { _root_.Go.OpenSpec.ofChange s with cond := some uptoSmall }

/-- 'laws.FnExactValidWall', WHERE WHAT IT READS IS OF BULK AT MOST 1048576: true; the input reads as it did. -/
def fnExactValidWallUptoRow : OpenClaim := { program := "ytgioijkehboifaa", sum := "cea98c1754e837b052c47bead70da0f0dada01862bf187a0bd2368df6a078821", func := "loop.example/g01042/laws.FnExactValidWall", spec := "fnExactValidWall", inPlace := ["internal/bytealg.IndexByteString"], unfollowed := true, recurses := true, apart := false, narrowed := true }
def FnExactValidWallUptoSaid : Prop := fnExactValidWallUptoRow.holds Try.pinned (OpenSpec.upto fnExactValidWallSpec)

/-- 'laws.FnExactBestCourse', WHERE WHAT IT READS IS OF BULK AT MOST 1048576: true; the input reads as it did. -/
def fnExactBestCourseUptoRow : OpenClaim := { program := "ytgioijkehboifaa", sum := "cea98c1754e837b052c47bead70da0f0dada01862bf187a0bd2368df6a078821", func := "loop.example/g01042/laws.FnExactBestCourse", spec := "fnExactBestCourse", unfollowed := true, recurses := true, apart := false, narrowed := true }
def FnExactBestCourseUptoSaid : Prop := fnExactBestCourseUptoRow.holds Try.pinned (OpenSpec.upto fnExactBestCourseSpec)

/-- 'laws.FnExactFewestCuts', WHERE WHAT IT READS IS OF BULK AT MOST 1048576: true; the input reads as it did. -/
def fnExactFewestCutsUptoRow : OpenClaim := { program := "ytgioijkehboifaa", sum := "cea98c1754e837b052c47bead70da0f0dada01862bf187a0bd2368df6a078821", func := "loop.example/g01042/laws.FnExactFewestCuts", spec := "fnExactFewestCuts", unfollowed := true, recurses := true, apart := false, narrowed := true }
def FnExactFewestCutsUptoSaid : Prop := fnExactFewestCutsUptoRow.holds Try.pinned (OpenSpec.upto fnExactFewestCutsSpec)

/-- 'laws.FnExactWallOf', WHERE WHAT IT READS IS OF BULK AT MOST 1048576: true; the input reads as it did. -/
def fnExactWallOfUptoRow : OpenClaim := { program := "ytgioijkehboifaa", sum := "cea98c1754e837b052c47bead70da0f0dada01862bf187a0bd2368df6a078821", func := "loop.example/g01042/laws.FnExactWallOf", spec := "fnExactWallOf", inPlace := ["internal/bytealg.IndexByteString"], apart := false, narrowed := true }
def FnExactWallOfUptoSaid : Prop := fnExactWallOfUptoRow.holds Try.pinned (OpenSpec.upto fnExactWallOfSpec)

/-- 'laws.FnExactCountPieces', WHERE WHAT IT READS IS OF BULK AT MOST 1048576: true; the input reads as it did. -/
def fnExactCountPiecesUptoRow : OpenClaim := { program := "ytgioijkehboifaa", sum := "cea98c1754e837b052c47bead70da0f0dada01862bf187a0bd2368df6a078821", func := "loop.example/g01042/laws.FnExactCountPieces", spec := "fnExactCountPieces", inPlace := ["internal/bytealg.IndexByteString"], unfollowed := true, recurses := true, apart := false, narrowed := true }
def FnExactCountPiecesUptoSaid : Prop := fnExactCountPiecesUptoRow.holds Try.pinned (OpenSpec.upto fnExactCountPiecesSpec)

/-- 'laws.FnExactFirstClash', WHERE WHAT IT READS IS OF BULK AT MOST 1048576: true; the input reads as it did. -/
def fnExactFirstClashUptoRow : OpenClaim := { program := "ytgioijkehboifaa", sum := "cea98c1754e837b052c47bead70da0f0dada01862bf187a0bd2368df6a078821", func := "loop.example/g01042/laws.FnExactFirstClash", spec := "fnExactFirstClash", inPlace := ["internal/bytealg.IndexByteString"], unfollowed := true, recurses := true, apart := false, narrowed := true }
def FnExactFirstClashUptoSaid : Prop := fnExactFirstClashUptoRow.holds Try.pinned (OpenSpec.upto fnExactFirstClashSpec)

/-- 'laws.FnExactIsBonded', WHERE WHAT IT READS IS OF BULK AT MOST 1048576: true; the input reads as it did. -/
def fnExactIsBondedUptoRow : OpenClaim := { program := "ytgioijkehboifaa", sum := "cea98c1754e837b052c47bead70da0f0dada01862bf187a0bd2368df6a078821", func := "loop.example/g01042/laws.FnExactIsBonded", spec := "fnExactIsBonded", inPlace := ["internal/bytealg.IndexByteString"], unfollowed := true, recurses := true, apart := false, narrowed := true }
def FnExactIsBondedUptoSaid : Prop := fnExactIsBondedUptoRow.holds Try.pinned (OpenSpec.upto fnExactIsBondedSpec)

/-- 'laws.FnExactBestAbove', WHERE WHAT IT READS IS OF BULK AT MOST 1048576: true; the input reads as it did. -/
def fnExactBestAboveUptoRow : OpenClaim := { program := "ytgioijkehboifaa", sum := "cea98c1754e837b052c47bead70da0f0dada01862bf187a0bd2368df6a078821", func := "loop.example/g01042/laws.FnExactBestAbove", spec := "fnExactBestAbove", inPlace := ["internal/bytealg.IndexByteString"], unfollowed := true, recurses := true, apart := false, narrowed := true }
def FnExactBestAboveUptoSaid : Prop := fnExactBestAboveUptoRow.holds Try.pinned (OpenSpec.upto fnExactBestAboveSpec)

/-- 'laws.FnExactCutsAbove', WHERE WHAT IT READS IS OF BULK AT MOST 1048576: true; the input reads as it did. -/
def fnExactCutsAboveUptoRow : OpenClaim := { program := "ytgioijkehboifaa", sum := "cea98c1754e837b052c47bead70da0f0dada01862bf187a0bd2368df6a078821", func := "loop.example/g01042/laws.FnExactCutsAbove", spec := "fnExactCutsAbove", inPlace := ["internal/bytealg.IndexByteString"], unfollowed := true, recurses := true, apart := false, narrowed := true }
def FnExactCutsAboveUptoSaid : Prop := fnExactCutsAboveUptoRow.holds Try.pinned (OpenSpec.upto fnExactCutsAboveSpec)

/-- 'laws.FnBestCourses', WHERE WHAT IT READS IS OF BULK AT MOST 1048576: true; the input reads as it did. -/
def fnBestCoursesUptoRow : OpenClaim := { program := "ytgioijkehboifaa", sum := "cea98c1754e837b052c47bead70da0f0dada01862bf187a0bd2368df6a078821", func := "loop.example/g01042/laws.FnBestCourses", spec := "fnBestCourses", inPlace := ["internal/bytealg.IndexByteString"], unfollowed := true, recurses := true, apart := false, narrowed := true }
def FnBestCoursesUptoSaid : Prop := fnBestCoursesUptoRow.holds Try.pinned (OpenSpec.upto fnBestCoursesSpec)

/-- 'laws.FnAbove', WHERE WHAT IT READS IS OF BULK AT MOST 1048576: true; the input reads as it did. -/
def fnAboveUptoRow : OpenClaim := { program := "ytgioijkehboifaa", sum := "cea98c1754e837b052c47bead70da0f0dada01862bf187a0bd2368df6a078821", func := "loop.example/g01042/laws.FnAbove", spec := "fnAbove", inPlace := ["internal/bytealg.IndexByteString"], unfollowed := true, recurses := true, apart := false, narrowed := true }
def FnAboveUptoSaid : Prop := fnAboveUptoRow.holds Try.pinned (OpenSpec.upto fnAboveSpec)

/-- 'laws.FnWalls', WHERE WHAT IT READS IS OF BULK AT MOST 1048576: true; the input reads as it did. -/
def fnWallsUptoRow : OpenClaim := { program := "ytgioijkehboifaa", sum := "cea98c1754e837b052c47bead70da0f0dada01862bf187a0bd2368df6a078821", func := "loop.example/g01042/laws.FnWalls", spec := "fnWalls", inPlace := ["internal/bytealg.IndexByteString"], unfollowed := true, recurses := true, apart := false, narrowed := true }
def FnWallsUptoSaid : Prop := fnWallsUptoRow.holds Try.pinned (OpenSpec.upto fnWallsSpec)

end Rows
end Go.Proofs.Ytgioijkehboifaa

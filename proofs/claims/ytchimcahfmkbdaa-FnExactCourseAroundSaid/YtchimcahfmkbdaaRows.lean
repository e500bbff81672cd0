/-
  No cell of these rows narrows 'for every input' (looked for: loops, veiled, ifaces, maps, wideKeys, modest, calm, conditions, laid).
  DERIVED. THE GIVEN ROWS OF THIS SEAT. 11 by the template 'for every input the law returns true; each argument reads behind the call as it read before'; 0 by the template 'total and deterministic' (their statements: YtchimcahfmkbdaaTotals.lean).
  GIVEN WITH THE SEED: the statements are not yours to turn. If you find one false, say at which input.
  Laid BY PROGRAM, IN A SANDBOX (cutbox-rows.mjs): the forced cells as the released guide's own fill.sh prints them over the translation 198b916c81ef58c8… (all of the seat's roots in one cut). By AI agents, Wed Nov 11 2026. No macro, syntax, notation, axiom, sorry.
-/
import Derived.Test.YtchimcahfmkbdaaChecked
import GoSem.Claim
import GoSem.ClaimJoined
import GoSem.ClaimMapViews
import Derived.JoinedTies
import Derived.KernelRfl
namespace Go.Proofs.Ytchimcahfmkbdaa
/- THE CELL 'sum', in the pinned program and in every row, IS THE sha256 OF THE DUMP (.gsa) THAT YtchimcahfmkbdaaProg.lean LOADS. Nothing in Lean hashes anything: it is a label: what it is worth is what the hold of that sum in a sandbox is worth. -/
noncomputable def Try.pinned : Pinned := { name := "ytchimcahfmkbdaa", sum := "198b916c81ef58c8a1ca8ed7ad66f11c4b66d0de23c0eb3b67bde7b7faaebd1d", checked := Try.checked }
namespace Rows
def none {H : Type} : Left H := { results := [], args := [] }

/-- 'laws.FnExactValidHouse': WHATEVER THE INPUT: true; the input reads as it did. -/
def fnExactValidHouseSpec : ChangeSpec := { name := "fnExactValidHouse", fn := fun _ => fun
  | [d] => { results := [.lit (.bool true)], args := [d] }
  | _ => none }
def fnExactValidHouseRow : OpenClaim := { program := "ytchimcahfmkbdaa", sum := "198b916c81ef58c8a1ca8ed7ad66f11c4b66d0de23c0eb3b67bde7b7faaebd1d", func := "loop.example/g01042/laws.FnExactValidHouse", spec := "fnExactValidHouse", inPlace := ["internal/bytealg.IndexByteString", "internal/bytealg.CountString", "internal/bytealg.IndexString"], unfollowed := true, recurses := true, named := ["internal/bytealg.MaxLen"], apart := false }
def FnExactValidHouseSaid : Prop := fnExactValidHouseRow.holds Try.pinned (OpenSpec.ofChange fnExactValidHouseSpec)

/-- ITS FALSE NEIGHBOUR: 'it returns false'. Refute it at one input. -/
def fnExactValidHouseWrong : ChangeSpec := { name := "fnExactValidHouse", fn := fun _ => fun
  | [d] => { results := [.lit (.bool false)], args := [d] }
  | _ => none }
def FnExactValidHouseWrongFalsely : Prop := fnExactValidHouseRow.holds Try.pinned (OpenSpec.ofChange fnExactValidHouseWrong)

/-- 'laws.FnExactRoundHouse': WHATEVER THE INPUT: true; the input reads as it did. -/
def fnExactRoundHouseSpec : ChangeSpec := { name := "fnExactRoundHouse", fn := fun _ => fun
  | [d] => { results := [.lit (.bool true)], args := [d] }
  | _ => none }
def fnExactRoundHouseRow : OpenClaim := { program := "ytchimcahfmkbdaa", sum := "198b916c81ef58c8a1ca8ed7ad66f11c4b66d0de23c0eb3b67bde7b7faaebd1d", func := "loop.example/g01042/laws.FnExactRoundHouse", spec := "fnExactRoundHouse", inPlace := ["internal/bytealg.IndexByteString", "internal/bytealg.CountString", "internal/bytealg.IndexString"], unfollowed := true, recurses := true, named := ["internal/bytealg.MaxLen"], apart := false }
def FnExactRoundHouseSaid : Prop := fnExactRoundHouseRow.holds Try.pinned (OpenSpec.ofChange fnExactRoundHouseSpec)

/-- ITS FALSE NEIGHBOUR: 'it returns false'. Refute it at one input. -/
def fnExactRoundHouseWrong : ChangeSpec := { name := "fnExactRoundHouse", fn := fun _ => fun
  | [d] => { results := [.lit (.bool false)], args := [d] }
  | _ => none }
def FnExactRoundHouseWrongFalsely : Prop := fnExactRoundHouseRow.holds Try.pinned (OpenSpec.ofChange fnExactRoundHouseWrong)

/-- 'laws.FnExactAreaInside': WHATEVER THE INPUT: true; the input reads as it did. -/
def fnExactAreaInsideSpec : ChangeSpec := { name := "fnExactAreaInside", fn := fun _ => fun
  | [d] => { results := [.lit (.bool true)], args := [d] }
  | _ => none }
def fnExactAreaInsideRow : OpenClaim := { program := "ytchimcahfmkbdaa", sum := "198b916c81ef58c8a1ca8ed7ad66f11c4b66d0de23c0eb3b67bde7b7faaebd1d", func := "loop.example/g01042/laws.FnExactAreaInside", spec := "fnExactAreaInside", inPlace := ["internal/bytealg.IndexByteString", "internal/bytealg.CountString", "internal/bytealg.IndexString"], unfollowed := true, recurses := true, named := ["internal/bytealg.MaxLen"], apart := false }
def FnExactAreaInsideSaid : Prop := fnExactAreaInsideRow.holds Try.pinned (OpenSpec.ofChange fnExactAreaInsideSpec)

/-- ITS FALSE NEIGHBOUR: 'it returns false'. Refute it at one input. -/
def fnExactAreaInsideWrong : ChangeSpec := { name := "fnExactAreaInside", fn := fun _ => fun
  | [d] => { results := [.lit (.bool false)], args := [d] }
  | _ => none }
def FnExactAreaInsideWrongFalsely : Prop := fnExactAreaInsideRow.holds Try.pinned (OpenSpec.ofChange fnExactAreaInsideWrong)

/-- 'laws.FnExactRunsThrough': WHATEVER THE INPUT: true; the input reads as it did. -/
def fnExactRunsThroughSpec : ChangeSpec := { name := "fnExactRunsThrough", fn := fun _ => fun
  | [d1, d2, d3] => { results := [.lit (.bool true)], args := [d1, d2, d3] }
  | _ => none }
def fnExactRunsThroughRow : OpenClaim := { program := "ytchimcahfmkbdaa", sum := "198b916c81ef58c8a1ca8ed7ad66f11c4b66d0de23c0eb3b67bde7b7faaebd1d", func := "loop.example/g01042/laws.FnExactRunsThrough", spec := "fnExactRunsThrough", inPlace := ["internal/bytealg.IndexByteString", "internal/bytealg.CountString", "internal/bytealg.IndexString"], unfollowed := true, recurses := true, named := ["internal/bytealg.MaxLen"], apart := false }
def FnExactRunsThroughSaid : Prop := fnExactRunsThroughRow.holds Try.pinned (OpenSpec.ofChange fnExactRunsThroughSpec)

/-- ITS FALSE NEIGHBOUR: 'it returns false'. Refute it at one input. -/
def fnExactRunsThroughWrong : ChangeSpec := { name := "fnExactRunsThrough", fn := fun _ => fun
  | [d1, d2, d3] => { results := [.lit (.bool false)], args := [d1, d2, d3] }
  | _ => none }
def FnExactRunsThroughWrongFalsely : Prop := fnExactRunsThroughRow.holds Try.pinned (OpenSpec.ofChange fnExactRunsThroughWrong)

/-- 'laws.FnExactQuoinLap': WHATEVER THE INPUT: true; the input reads as it did. -/
def fnExactQuoinLapSpec : ChangeSpec := { name := "fnExactQuoinLap", fn := fun _ => fun
  | [d1, d2, d3] => { results := [.lit (.bool true)], args := [d1, d2, d3] }
  | _ => none }
def fnExactQuoinLapRow : OpenClaim := { program := "ytchimcahfmkbdaa", sum := "198b916c81ef58c8a1ca8ed7ad66f11c4b66d0de23c0eb3b67bde7b7faaebd1d", func := "loop.example/g01042/laws.FnExactQuoinLap", spec := "fnExactQuoinLap", inPlace := ["internal/bytealg.IndexByteString", "internal/bytealg.CountString", "internal/bytealg.IndexString"], unfollowed := true, recurses := true, named := ["internal/bytealg.MaxLen"], apart := false }
def FnExactQuoinLapSaid : Prop := fnExactQuoinLapRow.holds Try.pinned (OpenSpec.ofChange fnExactQuoinLapSpec)

/-- ITS FALSE NEIGHBOUR: 'it returns false'. Refute it at one input. -/
def fnExactQuoinLapWrong : ChangeSpec := { name := "fnExactQuoinLap", fn := fun _ => fun
  | [d1, d2, d3] => { results := [.lit (.bool false)], args := [d1, d2, d3] }
  | _ => none }
def FnExactQuoinLapWrongFalsely : Prop := fnExactQuoinLapRow.holds Try.pinned (OpenSpec.ofChange fnExactQuoinLapWrong)

/-- 'laws.FnExactSideInCourse': WHATEVER THE INPUT: true; the input reads as it did. -/
def fnExactSideInCourseSpec : ChangeSpec := { name := "fnExactSideInCourse", fn := fun _ => fun
  | [d1, d2, d3] => { results := [.lit (.bool true)], args := [d1, d2, d3] }
  | _ => none }
def fnExactSideInCourseRow : OpenClaim := { program := "ytchimcahfmkbdaa", sum := "198b916c81ef58c8a1ca8ed7ad66f11c4b66d0de23c0eb3b67bde7b7faaebd1d", func := "loop.example/g01042/laws.FnExactSideInCourse", spec := "fnExactSideInCourse", inPlace := ["internal/bytealg.IndexByteString", "internal/bytealg.CountString", "internal/bytealg.IndexString"], unfollowed := true, recurses := true, named := ["internal/bytealg.MaxLen"], apart := false }
def FnExactSideInCourseSaid : Prop := fnExactSideInCourseRow.holds Try.pinned (OpenSpec.ofChange fnExactSideInCourseSpec)

/-- ITS FALSE NEIGHBOUR: 'it returns false'. Refute it at one input. -/
def fnExactSideInCourseWrong : ChangeSpec := { name := "fnExactSideInCourse", fn := fun _ => fun
  | [d1, d2, d3] => { results := [.lit (.bool false)], args := [d1, d2, d3] }
  | _ => none }
def FnExactSideInCourseWrongFalsely : Prop := fnExactSideInCourseRow.holds Try.pinned (OpenSpec.ofChange fnExactSideInCourseWrong)

/-- 'laws.FnExactIsSimple': WHATEVER THE INPUT: true; the input reads as it did. -/
def fnExactIsSimpleSpec : ChangeSpec := { name := "fnExactIsSimple", fn := fun _ => fun
  | [d] => { results := [.lit (.bool true)], args := [d] }
  | _ => none }
def fnExactIsSimpleRow : OpenClaim := { program := "ytchimcahfmkbdaa", sum := "198b916c81ef58c8a1ca8ed7ad66f11c4b66d0de23c0eb3b67bde7b7faaebd1d", func := "loop.example/g01042/laws.FnExactIsSimple", spec := "fnExactIsSimple", inPlace := ["internal/bytealg.IndexByteString", "internal/bytealg.CountString", "internal/bytealg.IndexString"], unfollowed := true, recurses := true, named := ["internal/bytealg.MaxLen"], apart := false }
def FnExactIsSimpleSaid : Prop := fnExactIsSimpleRow.holds Try.pinned (OpenSpec.ofChange fnExactIsSimpleSpec)

/-- ITS FALSE NEIGHBOUR: 'it returns false'. Refute it at one input. -/
def fnExactIsSimpleWrong : ChangeSpec := { name := "fnExactIsSimple", fn := fun _ => fun
  | [d] => { results := [.lit (.bool false)], args := [d] }
  | _ => none }
def FnExactIsSimpleWrongFalsely : Prop := fnExactIsSimpleRow.holds Try.pinned (OpenSpec.ofChange fnExactIsSimpleWrong)

/-- 'laws.FnExactCornerPoints': WHATEVER THE INPUT: true; the input reads as it did. -/
def fnExactCornerPointsSpec : ChangeSpec := { name := "fnExactCornerPoints", fn := fun _ => fun
  | [d] => { results := [.lit (.bool true)], args := [d] }
  | _ => none }
def fnExactCornerPointsRow : OpenClaim := { program := "ytchimcahfmkbdaa", sum := "198b916c81ef58c8a1ca8ed7ad66f11c4b66d0de23c0eb3b67bde7b7faaebd1d", func := "loop.example/g01042/laws.FnExactCornerPoints", spec := "fnExactCornerPoints", inPlace := ["internal/bytealg.IndexByteString", "internal/bytealg.CountString", "internal/bytealg.IndexString"], unfollowed := true, recurses := true, named := ["internal/bytealg.MaxLen"], apart := false }
def FnExactCornerPointsSaid : Prop := fnExactCornerPointsRow.holds Try.pinned (OpenSpec.ofChange fnExactCornerPointsSpec)

/-- ITS FALSE NEIGHBOUR: 'it returns false'. Refute it at one input. -/
def fnExactCornerPointsWrong : ChangeSpec := { name := "fnExactCornerPoints", fn := fun _ => fun
  | [d] => { results := [.lit (.bool false)], args := [d] }
  | _ => none }
def FnExactCornerPointsWrongFalsely : Prop := fnExactCornerPointsRow.holds Try.pinned (OpenSpec.ofChange fnExactCornerPointsWrong)

/-- 'laws.FnExactTurnHouse': WHATEVER THE INPUT: true; the input reads as it did. -/
def fnExactTurnHouseSpec : ChangeSpec := { name := "fnExactTurnHouse", fn := fun _ => fun
  | [d1, d2] => { results := [.lit (.bool true)], args := [d1, d2] }
  | _ => none }
def fnExactTurnHouseRow : OpenClaim := { program := "ytchimcahfmkbdaa", sum := "198b916c81ef58c8a1ca8ed7ad66f11c4b66d0de23c0eb3b67bde7b7faaebd1d", func := "loop.example/g01042/laws.FnExactTurnHouse", spec := "fnExactTurnHouse", inPlace := ["internal/bytealg.IndexByteString", "internal/bytealg.CountString", "internal/bytealg.IndexString"], unfollowed := true, recurses := true, named := ["internal/bytealg.MaxLen"], apart := false }
def FnExactTurnHouseSaid : Prop := fnExactTurnHouseRow.holds Try.pinned (OpenSpec.ofChange fnExactTurnHouseSpec)

/-- ITS FALSE NEIGHBOUR: 'it returns false'. Refute it at one input. -/
def fnExactTurnHouseWrong : ChangeSpec := { name := "fnExactTurnHouse", fn := fun _ => fun
  | [d1, d2] => { results := [.lit (.bool false)], args := [d1, d2] }
  | _ => none }
def FnExactTurnHouseWrongFalsely : Prop := fnExactTurnHouseRow.holds Try.pinned (OpenSpec.ofChange fnExactTurnHouseWrong)

/-- 'laws.FnExactCourseAround': WHATEVER THE INPUT: true; the input reads as it did. -/
def fnExactCourseAroundSpec : ChangeSpec := { name := "fnExactCourseAround", fn := fun _ => fun
  | [d1, d2] => { results := [.lit (.bool true)], args := [d1, d2] }
  | _ => none }
def fnExactCourseAroundRow : OpenClaim := { program := "ytchimcahfmkbdaa", sum := "198b916c81ef58c8a1ca8ed7ad66f11c4b66d0de23c0eb3b67bde7b7faaebd1d", func := "loop.example/g01042/laws.FnExactCourseAround", spec := "fnExactCourseAround", inPlace := ["internal/bytealg.IndexByteString", "internal/bytealg.CountString", "internal/bytealg.IndexString"], unfollowed := true, recurses := true, named := ["internal/bytealg.MaxLen"], apart := false }
def FnExactCourseAroundSaid : Prop := fnExactCourseAroundRow.holds Try.pinned (OpenSpec.ofChange fnExactCourseAroundSpec)

/-- ITS FALSE NEIGHBOUR: 'it returns false'. Refute it at one input. -/
def fnExactCourseAroundWrong : ChangeSpec := { name := "fnExactCourseAround", fn := fun _ => fun
  | [d1, d2] => { results := [.lit (.bool false)], args := [d1, d2] }
  | _ => none }
def FnExactCourseAroundWrongFalsely : Prop := fnExactCourseAroundRow.holds Try.pinned (OpenSpec.ofChange fnExactCourseAroundWrong)

/-- 'laws.FnQuoins': WHATEVER THE INPUT: true; the input reads as it did. -/
def fnQuoinsSpec : ChangeSpec := { name := "fnQuoins", fn := fun _ => fun
  | [d] => { results := [.lit (.bool true)], args := [d] }
  | _ => none }
def fnQuoinsRow : OpenClaim := { program := "ytchimcahfmkbdaa", sum := "198b916c81ef58c8a1ca8ed7ad66f11c4b66d0de23c0eb3b67bde7b7faaebd1d", func := "loop.example/g01042/laws.FnQuoins", spec := "fnQuoins", inPlace := ["internal/bytealg.IndexByteString", "internal/bytealg.CountString", "internal/bytealg.IndexString"], unfollowed := true, recurses := true, named := ["internal/bytealg.MaxLen"], apart := false }
def FnQuoinsSaid : Prop := fnQuoinsRow.holds Try.pinned (OpenSpec.ofChange fnQuoinsSpec)

/-- ITS FALSE NEIGHBOUR: 'it returns false'. Refute it at one input. -/
def fnQuoinsWrong : ChangeSpec := { name := "fnQuoins", fn := fun _ => fun
  | [d] => { results := [.lit (.bool false)], args := [d] }
  | _ => none }
def FnQuoinsWrongFalsely : Prop := fnQuoinsRow.holds Try.pinned (OpenSpec.ofChange fnQuoinsWrong)

/- THE SECOND FORM. 'bulk': how many values and letters a reading holds, each counted each time it is reached (what is shared counts as often as it is met; a slice's spare places count too). A statement '..UptoSaid' is the law's where the arguments, and the package variables that the reading takes, are together of bulk at most 1048576: NARROWER than '..Said'. Prove '..Said' where nothing that the law and all that it calls make is longer than what came in: it says more and counts as full. Else prove '..UptoSaid'. A law counts once. -/
mutual
def uptoBulk {H : Type} : DataW H → Nat
  | .lit (.string bytes) => bytes.length + 1
  | .lit _ => 1
  | .nil => 1
  | .ptr d => uptoBulk d + 1
  | .slice elems spare => uptoBulkAll elems + uptoBulkAll spare + 1
  | .agg parts => uptoBulkAll parts + 1
  | .iface _ d => uptoBulk d + 1
  | .map entries => uptoBulkEntries entries + 1
  | .held _ => 1
def uptoBulkAll {H : Type} : List (DataW H) → Nat
  | [] => 0
  | d :: r => uptoBulk d + uptoBulkAll r
def uptoBulkEntries {H : Type} : List (Lit × DataW H) → Nat
  | [] => 0
  | x :: r => uptoBulkEntry x + uptoBulkEntries r
def uptoBulkEntry {H : Type} : Lit × DataW H → Nat
  | (.string bytes, d) => bytes.length + uptoBulk d + 1
  | (_, d) => uptoBulk d + 1
 end
def uptoSmall : (H : Type) → List (DataW H) → Bool := fun _ ds => decide (uptoBulkAll ds ≤ 1048576)
def OpenSpec.upto (s : _root_.Go.ChangeSpec) : _root_.Go.OpenSpec := { _root_.Go.OpenSpec.ofChange s with cond := some uptoSmall }

/-- 'laws.FnExactValidHouse', WHERE WHAT IT READS IS OF BULK AT MOST 1048576: true; the input reads as it did. -/
def fnExactValidHouseUptoRow : OpenClaim := { program := "ytchimcahfmkbdaa", sum := "198b916c81ef58c8a1ca8ed7ad66f11c4b66d0de23c0eb3b67bde7b7faaebd1d", func := "loop.example/g01042/laws.FnExactValidHouse", spec := "fnExactValidHouse", inPlace := ["internal/bytealg.IndexByteString", "internal/bytealg.CountString", "internal/bytealg.IndexString"], unfollowed := true, recurses := true, named := ["internal/bytealg.MaxLen"], apart := false, narrowed := true }
def FnExactValidHouseUptoSaid : Prop := fnExactValidHouseUptoRow.holds Try.pinned (OpenSpec.upto fnExactValidHouseSpec)

/-- 'laws.FnExactRoundHouse', WHERE WHAT IT READS IS OF BULK AT MOST 1048576: true; the input reads as it did. -/
def fnExactRoundHouseUptoRow : OpenClaim := { program := "ytchimcahfmkbdaa", sum := "198b916c81ef58c8a1ca8ed7ad66f11c4b66d0de23c0eb3b67bde7b7faaebd1d", func := "loop.example/g01042/laws.FnExactRoundHouse", spec := "fnExactRoundHouse", inPlace := ["internal/bytealg.IndexByteString", "internal/bytealg.CountString", "internal/bytealg.IndexString"], unfollowed := true, recurses := true, named := ["internal/bytealg.MaxLen"], apart := false, narrowed := true }
def FnExactRoundHouseUptoSaid : Prop := fnExactRoundHouseUptoRow.holds Try.pinned (OpenSpec.upto fnExactRoundHouseSpec)

/-- 'laws.FnExactAreaInside', WHERE WHAT IT READS IS OF BULK AT MOST 1048576: true; the input reads as it did. -/
def fnExactAreaInsideUptoRow : OpenClaim := { program := "ytchimcahfmkbdaa", sum := "198b916c81ef58c8a1ca8ed7ad66f11c4b66d0de23c0eb3b67bde7b7faaebd1d", func := "loop.example/g01042/laws.FnExactAreaInside", spec := "fnExactAreaInside", inPlace := ["internal/bytealg.IndexByteString", "internal/bytealg.CountString", "internal/bytealg.IndexString"], unfollowed := true, recurses := true, named := ["internal/bytealg.MaxLen"], apart := false, narrowed := true }
def FnExactAreaInsideUptoSaid : Prop := fnExactAreaInsideUptoRow.holds Try.pinned (OpenSpec.upto fnExactAreaInsideSpec)

/-- 'laws.FnExactRunsThrough', WHERE WHAT IT READS IS OF BULK AT MOST 1048576: true; the input reads as it did. -/
def fnExactRunsThroughUptoRow : OpenClaim := { program := "ytchimcahfmkbdaa", sum := "198b916c81ef58c8a1ca8ed7ad66f11c4b66d0de23c0eb3b67bde7b7faaebd1d", func := "loop.example/g01042/laws.FnExactRunsThrough", spec := "fnExactRunsThrough", inPlace := ["internal/bytealg.IndexByteString", "internal/bytealg.CountString", "internal/bytealg.IndexString"], unfollowed := true, recurses := true, named := ["internal/bytealg.MaxLen"], apart := false, narrowed := true }
def FnExactRunsThroughUptoSaid : Prop := fnExactRunsThroughUptoRow.holds Try.pinned (OpenSpec.upto fnExactRunsThroughSpec)

/-- 'laws.FnExactQuoinLap', WHERE WHAT IT READS IS OF BULK AT MOST 1048576: true; the input reads as it did. -/
def fnExactQuoinLapUptoRow : OpenClaim := { program := "ytchimcahfmkbdaa", sum := "198b916c81ef58c8a1ca8ed7ad66f11c4b66d0de23c0eb3b67bde7b7faaebd1d", func := "loop.example/g01042/laws.FnExactQuoinLap", spec := "fnExactQuoinLap", inPlace := ["internal/bytealg.IndexByteString", "internal/bytealg.CountString", "internal/bytealg.IndexString"], unfollowed := true, recurses := true, named := ["internal/bytealg.MaxLen"], apart := false, narrowed := true }
def FnExactQuoinLapUptoSaid : Prop := fnExactQuoinLapUptoRow.holds Try.pinned (OpenSpec.upto fnExactQuoinLapSpec)

/-- 'laws.FnExactSideInCourse', WHERE WHAT IT READS IS OF BULK AT MOST 1048576: true; the input reads as it did. -/
def fnExactSideInCourseUptoRow : OpenClaim := { program := "ytchimcahfmkbdaa", sum := "198b916c81ef58c8a1ca8ed7ad66f11c4b66d0de23c0eb3b67bde7b7faaebd1d", func := "loop.example/g01042/laws.FnExactSideInCourse", spec := "fnExactSideInCourse", inPlace := ["internal/bytealg.IndexByteString", "internal/bytealg.CountString", "internal/bytealg.IndexString"], unfollowed := true, recurses := true, named := ["internal/bytealg.MaxLen"], apart := false, narrowed := true }
def FnExactSideInCourseUptoSaid : Prop := fnExactSideInCourseUptoRow.holds Try.pinned (OpenSpec.upto fnExactSideInCourseSpec)

/-- 'laws.FnExactIsSimple', WHERE WHAT IT READS IS OF BULK AT MOST 1048576: true; the input reads as it did. -/
def fnExactIsSimpleUptoRow : OpenClaim := { program := "ytchimcahfmkbdaa", sum := "198b916c81ef58c8a1ca8ed7ad66f11c4b66d0de23c0eb3b67bde7b7faaebd1d", func := "loop.example/g01042/laws.FnExactIsSimple", spec := "fnExactIsSimple", inPlace := ["internal/bytealg.IndexByteString", "internal/bytealg.CountString", "internal/bytealg.IndexString"], unfollowed := true, recurses := true, named := ["internal/bytealg.MaxLen"], apart := false, narrowed := true }
def FnExactIsSimpleUptoSaid : Prop := fnExactIsSimpleUptoRow.holds Try.pinned (OpenSpec.upto fnExactIsSimpleSpec)

/-- 'laws.FnExactCornerPoints', WHERE WHAT IT READS IS OF BULK AT MOST 1048576: true; the input reads as it did. -/
def fnExactCornerPointsUptoRow : OpenClaim := { program := "ytchimcahfmkbdaa", sum := "198b916c81ef58c8a1ca8ed7ad66f11c4b66d0de23c0eb3b67bde7b7faaebd1d", func := "loop.example/g01042/laws.FnExactCornerPoints", spec := "fnExactCornerPoints", inPlace := ["internal/bytealg.IndexByteString", "internal/bytealg.CountString", "internal/bytealg.IndexString"], unfollowed := true, recurses := true, named := ["internal/bytealg.MaxLen"], apart := false, narrowed := true }
def FnExactCornerPointsUptoSaid : Prop := fnExactCornerPointsUptoRow.holds Try.pinned (OpenSpec.upto fnExactCornerPointsSpec)

/-- 'laws.FnExactTurnHouse', WHERE WHAT IT READS IS OF BULK AT MOST 1048576: true; the input reads as it did. -/
def fnExactTurnHouseUptoRow : OpenClaim := { program := "ytchimcahfmkbdaa", sum := "198b916c81ef58c8a1ca8ed7ad66f11c4b66d0de23c0eb3b67bde7b7faaebd1d", func := "loop.example/g01042/laws.FnExactTurnHouse", spec := "fnExactTurnHouse", inPlace := ["internal/bytealg.IndexByteString", "internal/bytealg.CountString", "internal/bytealg.IndexString"], unfollowed := true, recurses := true, named := ["internal/bytealg.MaxLen"], apart := false, narrowed := true }
def FnExactTurnHouseUptoSaid : Prop := fnExactTurnHouseUptoRow.holds Try.pinned (OpenSpec.upto fnExactTurnHouseSpec)

/-- 'laws.FnExactCourseAround', WHERE WHAT IT READS IS OF BULK AT MOST 1048576: true; the input reads as it did. -/
def fnExactCourseAroundUptoRow : OpenClaim := { program := "ytchimcahfmkbdaa", sum := "198b916c81ef58c8a1ca8ed7ad66f11c4b66d0de23c0eb3b67bde7b7faaebd1d", func := "loop.example/g01042/laws.FnExactCourseAround", spec := "fnExactCourseAround", inPlace := ["internal/bytealg.IndexByteString", "internal/bytealg.CountString", "internal/bytealg.IndexString"], unfollowed := true, recurses := true, named := ["internal/bytealg.MaxLen"], apart := false, narrowed := true }
def FnExactCourseAroundUptoSaid : Prop := fnExactCourseAroundUptoRow.holds Try.pinned (OpenSpec.upto fnExactCourseAroundSpec)

/-- 'laws.FnQuoins', WHERE WHAT IT READS IS OF BULK AT MOST 1048576: true; the input reads as it did. -/
def fnQuoinsUptoRow : OpenClaim := { program := "ytchimcahfmkbdaa", sum := "198b916c81ef58c8a1ca8ed7ad66f11c4b66d0de23c0eb3b67bde7b7faaebd1d", func := "loop.example/g01042/laws.FnQuoins", spec := "fnQuoins", inPlace := ["internal/bytealg.IndexByteString", "internal/bytealg.CountString", "internal/bytealg.IndexString"], unfollowed := true, recurses := true, named := ["internal/bytealg.MaxLen"], apart := false, narrowed := true }
def FnQuoinsUptoSaid : Prop := fnQuoinsUptoRow.holds Try.pinned (OpenSpec.upto fnQuoinsSpec)

end Rows
end Go.Proofs.Ytchimcahfmkbdaa

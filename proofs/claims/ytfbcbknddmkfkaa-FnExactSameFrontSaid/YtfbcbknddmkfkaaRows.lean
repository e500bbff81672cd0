/-
  No cell of these rows narrows 'for every input' (looked for: loops, veiled, ifaces, maps, wideKeys, modest, calm, conditions, laid).
  DERIVED. THE GIVEN ROWS OF THIS SEAT. 12 by the template 'for every input the law returns true; each argument reads behind the call as it read before'; 0 by the template 'total and deterministic' (their statements: YtfbcbknddmkfkaaTotals.lean).
  GIVEN WITH THE SEED: the statements are not yours to turn. If you find one false, say at which input.
  Laid BY PROGRAM, IN A SANDBOX (cutbox-rows.mjs): the forced cells as the released guide's own fill.sh prints them over the translation 1b5fd7dcc19ae1f9… (all of the seat's roots in one cut). By AI agents, Wed Nov 11 2026. No macro, syntax, notation, axiom, sorry.
-/
import Derived.Test.YtfbcbknddmkfkaaChecked
import GoSem.Claim
import GoSem.ClaimJoined
import GoSem.ClaimMapViews
import Derived.JoinedTies
import Derived.KernelRfl
namespace Go.Proofs.Ytfbcbknddmkfkaa
/- THE CELL 'sum', in the pinned program and in every row, IS THE sha256 OF THE DUMP (.gsa) THAT YtfbcbknddmkfkaaProg.lean LOADS. Nothing in Lean hashes anything: it is a label: what it is worth is what the hold of that sum in a sandbox is worth. -/
noncomputable def Try.pinned : Pinned := { name := "ytfbcbknddmkfkaa", sum := "1b5fd7dcc19ae1f9de2c5e4dae0170702b91762adfefaf4410bc1047e3b4ab72", checked := Try.checked }
namespace Rows
def none {H : Type} : Left H := { results := [], args := [] }

/-- 'laws.FnExactNearestMark': WHATEVER THE INPUT: true; the input reads as it did. -/
def fnExactNearestMarkSpec : ChangeSpec := { name := "fnExactNearestMark", fn := fun _ => fun
  | [d1, d2, d3] => { results := [.lit (.bool true)], args := [d1, d2, d3] }
  | _ => none }
def fnExactNearestMarkRow : OpenClaim := { program := "ytfbcbknddmkfkaa", sum := "1b5fd7dcc19ae1f9de2c5e4dae0170702b91762adfefaf4410bc1047e3b4ab72", func := "loop.example/g01042/laws.FnExactNearestMark", spec := "fnExactNearestMark", apart := false }
def FnExactNearestMarkSaid : Prop := fnExactNearestMarkRow.holds Try.pinned (OpenSpec.ofChange fnExactNearestMarkSpec)

/-- ITS FALSE NEIGHBOUR: 'it returns false'. Refute it at one input. -/
def fnExactNearestMarkWrong : ChangeSpec := { name := "fnExactNearestMark", fn := fun _ => fun
  | [d1, d2, d3] => { results := [.lit (.bool false)], args := [d1, d2, d3] }
  | _ => none }
def FnExactNearestMarkWrongFalsely : Prop := fnExactNearestMarkRow.holds Try.pinned (OpenSpec.ofChange fnExactNearestMarkWrong)

/-- 'laws.FnExactValidLevels': WHATEVER THE INPUT: true; the input reads as it did. -/
def fnExactValidLevelsSpec : ChangeSpec := { name := "fnExactValidLevels", fn := fun _ => fun
  | [d1, d2] => { results := [.lit (.bool true)], args := [d1, d2] }
  | _ => none }
def fnExactValidLevelsRow : OpenClaim := { program := "ytfbcbknddmkfkaa", sum := "1b5fd7dcc19ae1f9de2c5e4dae0170702b91762adfefaf4410bc1047e3b4ab72", func := "loop.example/g01042/laws.FnExactValidLevels", spec := "fnExactValidLevels", unfollowed := true, recurses := true, apart := false }
def FnExactValidLevelsSaid : Prop := fnExactValidLevelsRow.holds Try.pinned (OpenSpec.ofChange fnExactValidLevelsSpec)

/-- ITS FALSE NEIGHBOUR: 'it returns false'. Refute it at one input. -/
def fnExactValidLevelsWrong : ChangeSpec := { name := "fnExactValidLevels", fn := fun _ => fun
  | [d1, d2] => { results := [.lit (.bool false)], args := [d1, d2] }
  | _ => none }
def FnExactValidLevelsWrongFalsely : Prop := fnExactValidLevelsRow.holds Try.pinned (OpenSpec.ofChange fnExactValidLevelsWrong)

/-- 'laws.FnExactGaugeOf': WHATEVER THE INPUT: true; the input reads as it did. -/
def fnExactGaugeOfSpec : ChangeSpec := { name := "fnExactGaugeOf", fn := fun _ => fun
  | [d1, d2] => { results := [.lit (.bool true)], args := [d1, d2] }
  | _ => none }
def fnExactGaugeOfRow : OpenClaim := { program := "ytfbcbknddmkfkaa", sum := "1b5fd7dcc19ae1f9de2c5e4dae0170702b91762adfefaf4410bc1047e3b4ab72", func := "loop.example/g01042/laws.FnExactGaugeOf", spec := "fnExactGaugeOf", apart := false }
def FnExactGaugeOfSaid : Prop := fnExactGaugeOfRow.holds Try.pinned (OpenSpec.ofChange fnExactGaugeOfSpec)

/-- ITS FALSE NEIGHBOUR: 'it returns false'. Refute it at one input. -/
def fnExactGaugeOfWrong : ChangeSpec := { name := "fnExactGaugeOf", fn := fun _ => fun
  | [d1, d2] => { results := [.lit (.bool false)], args := [d1, d2] }
  | _ => none }
def FnExactGaugeOfWrongFalsely : Prop := fnExactGaugeOfRow.holds Try.pinned (OpenSpec.ofChange fnExactGaugeOfWrong)

/-- 'laws.FnExactMarksOf': WHATEVER THE INPUT: true; the input reads as it did. -/
def fnExactMarksOfSpec : ChangeSpec := { name := "fnExactMarksOf", fn := fun _ => fun
  | [d1, d2] => { results := [.lit (.bool true)], args := [d1, d2] }
  | _ => none }
def fnExactMarksOfRow : OpenClaim := { program := "ytfbcbknddmkfkaa", sum := "1b5fd7dcc19ae1f9de2c5e4dae0170702b91762adfefaf4410bc1047e3b4ab72", func := "loop.example/g01042/laws.FnExactMarksOf", spec := "fnExactMarksOf", apart := false }
def FnExactMarksOfSaid : Prop := fnExactMarksOfRow.holds Try.pinned (OpenSpec.ofChange fnExactMarksOfSpec)

/-- ITS FALSE NEIGHBOUR: 'it returns false'. Refute it at one input. -/
def fnExactMarksOfWrong : ChangeSpec := { name := "fnExactMarksOf", fn := fun _ => fun
  | [d1, d2] => { results := [.lit (.bool false)], args := [d1, d2] }
  | _ => none }
def FnExactMarksOfWrongFalsely : Prop := fnExactMarksOfRow.holds Try.pinned (OpenSpec.ofChange fnExactMarksOfWrong)

/-- 'laws.FnExactValidCourse': WHATEVER THE INPUT: true; the input reads as it did. -/
def fnExactValidCourseSpec : ChangeSpec := { name := "fnExactValidCourse", fn := fun _ => fun
  | [d] => { results := [.lit (.bool true)], args := [d] }
  | _ => none }
def fnExactValidCourseRow : OpenClaim := { program := "ytfbcbknddmkfkaa", sum := "1b5fd7dcc19ae1f9de2c5e4dae0170702b91762adfefaf4410bc1047e3b4ab72", func := "loop.example/g01042/laws.FnExactValidCourse", spec := "fnExactValidCourse", inPlace := ["internal/bytealg.IndexByteString"], apart := false }
def FnExactValidCourseSaid : Prop := fnExactValidCourseRow.holds Try.pinned (OpenSpec.ofChange fnExactValidCourseSpec)

/-- ITS FALSE NEIGHBOUR: 'it returns false'. Refute it at one input. -/
def fnExactValidCourseWrong : ChangeSpec := { name := "fnExactValidCourse", fn := fun _ => fun
  | [d] => { results := [.lit (.bool false)], args := [d] }
  | _ => none }
def FnExactValidCourseWrongFalsely : Prop := fnExactValidCourseRow.holds Try.pinned (OpenSpec.ofChange fnExactValidCourseWrong)

/-- 'laws.FnExactSameHouse': WHATEVER THE INPUT: true; the input reads as it did. -/
def fnExactSameHouseSpec : ChangeSpec := { name := "fnExactSameHouse", fn := fun _ => fun
  | [d1, d2] => { results := [.lit (.bool true)], args := [d1, d2] }
  | _ => none }
def fnExactSameHouseRow : OpenClaim := { program := "ytfbcbknddmkfkaa", sum := "1b5fd7dcc19ae1f9de2c5e4dae0170702b91762adfefaf4410bc1047e3b4ab72", func := "loop.example/g01042/laws.FnExactSameHouse", spec := "fnExactSameHouse", apart := false }
def FnExactSameHouseSaid : Prop := fnExactSameHouseRow.holds Try.pinned (OpenSpec.ofChange fnExactSameHouseSpec)

/-- ITS FALSE NEIGHBOUR: 'it returns false'. Refute it at one input. -/
def fnExactSameHouseWrong : ChangeSpec := { name := "fnExactSameHouse", fn := fun _ => fun
  | [d1, d2] => { results := [.lit (.bool false)], args := [d1, d2] }
  | _ => none }
def FnExactSameHouseWrongFalsely : Prop := fnExactSameHouseRow.holds Try.pinned (OpenSpec.ofChange fnExactSameHouseWrong)

/-- 'laws.FnExactCourseLength': WHATEVER THE INPUT: true; the input reads as it did. -/
def fnExactCourseLengthSpec : ChangeSpec := { name := "fnExactCourseLength", fn := fun _ => fun
  | [d] => { results := [.lit (.bool true)], args := [d] }
  | _ => none }
def fnExactCourseLengthRow : OpenClaim := { program := "ytfbcbknddmkfkaa", sum := "1b5fd7dcc19ae1f9de2c5e4dae0170702b91762adfefaf4410bc1047e3b4ab72", func := "loop.example/g01042/laws.FnExactCourseLength", spec := "fnExactCourseLength", inPlace := ["internal/bytealg.IndexByteString"], apart := false }
def FnExactCourseLengthSaid : Prop := fnExactCourseLengthRow.holds Try.pinned (OpenSpec.ofChange fnExactCourseLengthSpec)

/-- ITS FALSE NEIGHBOUR: 'it returns false'. Refute it at one input. -/
def fnExactCourseLengthWrong : ChangeSpec := { name := "fnExactCourseLength", fn := fun _ => fun
  | [d] => { results := [.lit (.bool false)], args := [d] }
  | _ => none }
def FnExactCourseLengthWrongFalsely : Prop := fnExactCourseLengthRow.holds Try.pinned (OpenSpec.ofChange fnExactCourseLengthWrong)

/-- 'laws.FnExactMirrorCourse': WHATEVER THE INPUT: true; the input reads as it did. -/
def fnExactMirrorCourseSpec : ChangeSpec := { name := "fnExactMirrorCourse", fn := fun _ => fun
  | [d] => { results := [.lit (.bool true)], args := [d] }
  | _ => none }
def fnExactMirrorCourseRow : OpenClaim := { program := "ytfbcbknddmkfkaa", sum := "1b5fd7dcc19ae1f9de2c5e4dae0170702b91762adfefaf4410bc1047e3b4ab72", func := "loop.example/g01042/laws.FnExactMirrorCourse", spec := "fnExactMirrorCourse", inPlace := ["internal/bytealg.IndexByteString"], apart := false }
def FnExactMirrorCourseSaid : Prop := fnExactMirrorCourseRow.holds Try.pinned (OpenSpec.ofChange fnExactMirrorCourseSpec)

/-- ITS FALSE NEIGHBOUR: 'it returns false'. Refute it at one input. -/
def fnExactMirrorCourseWrong : ChangeSpec := { name := "fnExactMirrorCourse", fn := fun _ => fun
  | [d] => { results := [.lit (.bool false)], args := [d] }
  | _ => none }
def FnExactMirrorCourseWrongFalsely : Prop := fnExactMirrorCourseRow.holds Try.pinned (OpenSpec.ofChange fnExactMirrorCourseWrong)

/-- 'laws.FnExactWastedQuarters': WHATEVER THE INPUT: true; the input reads as it did. -/
def fnExactWastedQuartersSpec : ChangeSpec := { name := "fnExactWastedQuarters", fn := fun _ => fun
  | [d] => { results := [.lit (.bool true)], args := [d] }
  | _ => none }
def fnExactWastedQuartersRow : OpenClaim := { program := "ytfbcbknddmkfkaa", sum := "1b5fd7dcc19ae1f9de2c5e4dae0170702b91762adfefaf4410bc1047e3b4ab72", func := "loop.example/g01042/laws.FnExactWastedQuarters", spec := "fnExactWastedQuarters", inPlace := ["internal/bytealg.IndexByteString"], apart := false }
def FnExactWastedQuartersSaid : Prop := fnExactWastedQuartersRow.holds Try.pinned (OpenSpec.ofChange fnExactWastedQuartersSpec)

/-- ITS FALSE NEIGHBOUR: 'it returns false'. Refute it at one input. -/
def fnExactWastedQuartersWrong : ChangeSpec := { name := "fnExactWastedQuarters", fn := fun _ => fun
  | [d] => { results := [.lit (.bool false)], args := [d] }
  | _ => none }
def FnExactWastedQuartersWrongFalsely : Prop := fnExactWastedQuartersRow.holds Try.pinned (OpenSpec.ofChange fnExactWastedQuartersWrong)

/-- 'laws.FnExactSameFront': WHATEVER THE INPUT: true; the input reads as it did. -/
def fnExactSameFrontSpec : ChangeSpec := { name := "fnExactSameFront", fn := fun _ => fun
  | [d1, d2] => { results := [.lit (.bool true)], args := [d1, d2] }
  | _ => none }
def fnExactSameFrontRow : OpenClaim := { program := "ytfbcbknddmkfkaa", sum := "1b5fd7dcc19ae1f9de2c5e4dae0170702b91762adfefaf4410bc1047e3b4ab72", func := "loop.example/g01042/laws.FnExactSameFront", spec := "fnExactSameFront", apart := false }
def FnExactSameFrontSaid : Prop := fnExactSameFrontRow.holds Try.pinned (OpenSpec.ofChange fnExactSameFrontSpec)

/-- ITS FALSE NEIGHBOUR: 'it returns false'. Refute it at one input. -/
def fnExactSameFrontWrong : ChangeSpec := { name := "fnExactSameFront", fn := fun _ => fun
  | [d1, d2] => { results := [.lit (.bool false)], args := [d1, d2] }
  | _ => none }
def FnExactSameFrontWrongFalsely : Prop := fnExactSameFrontRow.holds Try.pinned (OpenSpec.ofChange fnExactSameFrontWrong)

/-- 'laws.FnExactCutsIn': WHATEVER THE INPUT: true; the input reads as it did. -/
def fnExactCutsInSpec : ChangeSpec := { name := "fnExactCutsIn", fn := fun _ => fun
  | [d] => { results := [.lit (.bool true)], args := [d] }
  | _ => none }
def fnExactCutsInRow : OpenClaim := { program := "ytfbcbknddmkfkaa", sum := "1b5fd7dcc19ae1f9de2c5e4dae0170702b91762adfefaf4410bc1047e3b4ab72", func := "loop.example/g01042/laws.FnExactCutsIn", spec := "fnExactCutsIn", inPlace := ["internal/bytealg.IndexByteString"], apart := false }
def FnExactCutsInSaid : Prop := fnExactCutsInRow.holds Try.pinned (OpenSpec.ofChange fnExactCutsInSpec)

/-- ITS FALSE NEIGHBOUR: 'it returns false'. Refute it at one input. -/
def fnExactCutsInWrong : ChangeSpec := { name := "fnExactCutsIn", fn := fun _ => fun
  | [d] => { results := [.lit (.bool false)], args := [d] }
  | _ => none }
def FnExactCutsInWrongFalsely : Prop := fnExactCutsInRow.holds Try.pinned (OpenSpec.ofChange fnExactCutsInWrong)

/-- 'laws.FnExactCoursePerpends': WHATEVER THE INPUT: true; the input reads as it did. -/
def fnExactCoursePerpendsSpec : ChangeSpec := { name := "fnExactCoursePerpends", fn := fun _ => fun
  | [d] => { results := [.lit (.bool true)], args := [d] }
  | _ => none }
def fnExactCoursePerpendsRow : OpenClaim := { program := "ytfbcbknddmkfkaa", sum := "1b5fd7dcc19ae1f9de2c5e4dae0170702b91762adfefaf4410bc1047e3b4ab72", func := "loop.example/g01042/laws.FnExactCoursePerpends", spec := "fnExactCoursePerpends", inPlace := ["internal/bytealg.IndexByteString"], apart := false }
def FnExactCoursePerpendsSaid : Prop := fnExactCoursePerpendsRow.holds Try.pinned (OpenSpec.ofChange fnExactCoursePerpendsSpec)

/-- ITS FALSE NEIGHBOUR: 'it returns false'. Refute it at one input. -/
def fnExactCoursePerpendsWrong : ChangeSpec := { name := "fnExactCoursePerpends", fn := fun _ => fun
  | [d] => { results := [.lit (.bool false)], args := [d] }
  | _ => none }
def FnExactCoursePerpendsWrongFalsely : Prop := fnExactCoursePerpendsRow.holds Try.pinned (OpenSpec.ofChange fnExactCoursePerpendsWrong)

/- THE SECOND FORM. 'bulk': how many values and letters a reading holds, each counted each time it is reached (what is shared counts as often as it is met; a slice's spare places count too). A statement '..UptoSaid' is the law's where the arguments, and the package variables that the reading takes, are together of bulk at most 1048576: NARROWER than '..Said'. Prove '..Said' where nothing that the law and all that it calls make is longer than what came in: it says more and counts as full. Else prove '..UptoSaid'. A law counts once. -/
mutual
def uptoBulk {H : Type} : DataW H → Nat
  | .lit (.string bytes) => bytes.length + 1
  | .lit _ => 1
  | .nil => 1
  | .ptr d => uptoBulk d + 1
  | .slice elems spare => uptoBulkAll elems + uptoBulkAll spare + 1
  | .agg parts => uptoBulkAll parts + 1
  | .iface _ d => uptoBulk d + 1
  | .map entries => uptoBulkEntries entries + 1
  | .held _ => 1
def uptoBulkAll {H : Type} : List (DataW H) → Nat
  | [] => 0
  | d :: r => uptoBulk d + uptoBulkAll r
def uptoBulkEntries {H : Type} : List (Lit × DataW H) → Nat
  | [] => 0
  | x :: r => uptoBulkEntry x + uptoBulkEntries r
def uptoBulkEntry {H : Type} : Lit × DataW H → Nat
  | (.string bytes, d) => bytes.length + uptoBulk d + 1
  | (_, d) => uptoBulk d + 1
 end
def uptoSmall : (H : Type) → List (DataW H) → Bool := fun _ ds => decide (uptoBulkAll ds ≤ 1048576)
def OpenSpec.upto (s : _root_.Go.ChangeSpec) : _root_.Go.OpenSpec := { _root_.Go.OpenSpec.ofChange s with cond := some uptoSmall }

/-- 'laws.FnExactNearestMark', WHERE WHAT IT READS IS OF BULK AT MOST 1048576: true; the input reads as it did. -/
def fnExactNearestMarkUptoRow : OpenClaim := { program := "ytfbcbknddmkfkaa", sum := "1b5fd7dcc19ae1f9de2c5e4dae0170702b91762adfefaf4410bc1047e3b4ab72", func := "loop.example/g01042/laws.FnExactNearestMark", spec := "fnExactNearestMark", apart := false, narrowed := true }
def FnExactNearestMarkUptoSaid : Prop := fnExactNearestMarkUptoRow.holds Try.pinned (OpenSpec.upto fnExactNearestMarkSpec)

/-- 'laws.FnExactValidLevels', WHERE WHAT IT READS IS OF BULK AT MOST 1048576: true; the input reads as it did. -/
def fnExactValidLevelsUptoRow : OpenClaim := { program := "ytfbcbknddmkfkaa", sum := "1b5fd7dcc19ae1f9de2c5e4dae0170702b91762adfefaf4410bc1047e3b4ab72", func := "loop.example/g01042/laws.FnExactValidLevels", spec := "fnExactValidLevels", unfollowed := true, recurses := true, apart := false, narrowed := true }
def FnExactValidLevelsUptoSaid : Prop := fnExactValidLevelsUptoRow.holds Try.pinned (OpenSpec.upto fnExactValidLevelsSpec)

/-- 'laws.FnExactGaugeOf', WHERE WHAT IT READS IS OF BULK AT MOST 1048576: true; the input reads as it did. -/
def fnExactGaugeOfUptoRow : OpenClaim := { program := "ytfbcbknddmkfkaa", sum := "1b5fd7dcc19ae1f9de2c5e4dae0170702b91762adfefaf4410bc1047e3b4ab72", func := "loop.example/g01042/laws.FnExactGaugeOf", spec := "fnExactGaugeOf", apart := false, narrowed := true }
def FnExactGaugeOfUptoSaid : Prop := fnExactGaugeOfUptoRow.holds Try.pinned (OpenSpec.upto fnExactGaugeOfSpec)

/-- 'laws.FnExactMarksOf', WHERE WHAT IT READS IS OF BULK AT MOST 1048576: true; the input reads as it did. -/
def fnExactMarksOfUptoRow : OpenClaim := { program := "ytfbcbknddmkfkaa", sum := "1b5fd7dcc19ae1f9de2c5e4dae0170702b91762adfefaf4410bc1047e3b4ab72", func := "loop.example/g01042/laws.FnExactMarksOf", spec := "fnExactMarksOf", apart := false, narrowed := true }
def FnExactMarksOfUptoSaid : Prop := fnExactMarksOfUptoRow.holds Try.pinned (OpenSpec.upto fnExactMarksOfSpec)

/-- 'laws.FnExactValidCourse', WHERE WHAT IT READS IS OF BULK AT MOST 1048576: true; the input reads as it did. -/
def fnExactValidCourseUptoRow : OpenClaim := { program := "ytfbcbknddmkfkaa", sum := "1b5fd7dcc19ae1f9de2c5e4dae0170702b91762adfefaf4410bc1047e3b4ab72", func := "loop.example/g01042/laws.FnExactValidCourse", spec := "fnExactValidCourse", inPlace := ["internal/bytealg.IndexByteString"], apart := false, narrowed := true }
def FnExactValidCourseUptoSaid : Prop := fnExactValidCourseUptoRow.holds Try.pinned (OpenSpec.upto fnExactValidCourseSpec)

/-- 'laws.FnExactSameHouse', WHERE WHAT IT READS IS OF BULK AT MOST 1048576: true; the input reads as it did. -/
def fnExactSameHouseUptoRow : OpenClaim := { program := "ytfbcbknddmkfkaa", sum := "1b5fd7dcc19ae1f9de2c5e4dae0170702b91762adfefaf4410bc1047e3b4ab72", func := "loop.example/g01042/laws.FnExactSameHouse", spec := "fnExactSameHouse", apart := false, narrowed := true }
def FnExactSameHouseUptoSaid : Prop := fnExactSameHouseUptoRow.holds Try.pinned (OpenSpec.upto fnExactSameHouseSpec)

/-- 'laws.FnExactCourseLength', WHERE WHAT IT READS IS OF BULK AT MOST 1048576: true; the input reads as it did. -/
def fnExactCourseLengthUptoRow : OpenClaim := { program := "ytfbcbknddmkfkaa", sum := "1b5fd7dcc19ae1f9de2c5e4dae0170702b91762adfefaf4410bc1047e3b4ab72", func := "loop.example/g01042/laws.FnExactCourseLength", spec := "fnExactCourseLength", inPlace := ["internal/bytealg.IndexByteString"], apart := false, narrowed := true }
def FnExactCourseLengthUptoSaid : Prop := fnExactCourseLengthUptoRow.holds Try.pinned (OpenSpec.upto fnExactCourseLengthSpec)

/-- 'laws.FnExactMirrorCourse', WHERE WHAT IT READS IS OF BULK AT MOST 1048576: true; the input reads as it did. -/
def fnExactMirrorCourseUptoRow : OpenClaim := { program := "ytfbcbknddmkfkaa", sum := "1b5fd7dcc19ae1f9de2c5e4dae0170702b91762adfefaf4410bc1047e3b4ab72", func := "loop.example/g01042/laws.FnExactMirrorCourse", spec := "fnExactMirrorCourse", inPlace := ["internal/bytealg.IndexByteString"], apart := false, narrowed := true }
def FnExactMirrorCourseUptoSaid : Prop := fnExactMirrorCourseUptoRow.holds Try.pinned (OpenSpec.upto fnExactMirrorCourseSpec)

/-- 'laws.FnExactWastedQuarters', WHERE WHAT IT READS IS OF BULK AT MOST 1048576: true; the input reads as it did. -/
def fnExactWastedQuartersUptoRow : OpenClaim := { program := "ytfbcbknddmkfkaa", sum := "1b5fd7dcc19ae1f9de2c5e4dae0170702b91762adfefaf4410bc1047e3b4ab72", func := "loop.example/g01042/laws.FnExactWastedQuarters", spec := "fnExactWastedQuarters", inPlace := ["internal/bytealg.IndexByteString"], apart := false, narrowed := true }
def FnExactWastedQuartersUptoSaid : Prop := fnExactWastedQuartersUptoRow.holds Try.pinned (OpenSpec.upto fnExactWastedQuartersSpec)

/-- 'laws.FnExactSameFront', WHERE WHAT IT READS IS OF BULK AT MOST 1048576: true; the input reads as it did. -/
def fnExactSameFrontUptoRow : OpenClaim := { program := "ytfbcbknddmkfkaa", sum := "1b5fd7dcc19ae1f9de2c5e4dae0170702b91762adfefaf4410bc1047e3b4ab72", func := "loop.example/g01042/laws.FnExactSameFront", spec := "fnExactSameFront", apart := false, narrowed := true }
def FnExactSameFrontUptoSaid : Prop := fnExactSameFrontUptoRow.holds Try.pinned (OpenSpec.upto fnExactSameFrontSpec)

/-- 'laws.FnExactCutsIn', WHERE WHAT IT READS IS OF BULK AT MOST 1048576: true; the input reads as it did. -/
def fnExactCutsInUptoRow : OpenClaim := { program := "ytfbcbknddmkfkaa", sum := "1b5fd7dcc19ae1f9de2c5e4dae0170702b91762adfefaf4410bc1047e3b4ab72", func := "loop.example/g01042/laws.FnExactCutsIn", spec := "fnExactCutsIn", inPlace := ["internal/bytealg.IndexByteString"], apart := false, narrowed := true }
def FnExactCutsInUptoSaid : Prop := fnExactCutsInUptoRow.holds Try.pinned (OpenSpec.upto fnExactCutsInSpec)

/-- 'laws.FnExactCoursePerpends', WHERE WHAT IT READS IS OF BULK AT MOST 1048576: true; the input reads as it did. -/
def fnExactCoursePerpendsUptoRow : OpenClaim := { program := "ytfbcbknddmkfkaa", sum := "1b5fd7dcc19ae1f9de2c5e4dae0170702b91762adfefaf4410bc1047e3b4ab72", func := "loop.example/g01042/laws.FnExactCoursePerpends", spec := "fnExactCoursePerpends", inPlace := ["internal/bytealg.IndexByteString"], apart := false, narrowed := true }
def FnExactCoursePerpendsUptoSaid : Prop := fnExactCoursePerpendsUptoRow.holds Try.pinned (OpenSpec.upto fnExactCoursePerpendsSpec)

end Rows
end Go.Proofs.Ytfbcbknddmkfkaa

/-
  No cell of these rows narrows 'for every input' (looked for: loops, veiled, ifaces, maps, wideKeys, modest, calm, conditions, laid).
  DERIVED. THE GIVEN ROWS OF THIS SEAT. 7 by the template 'for every input the law returns true; each argument reads behind the call as it read before'; 0 by the template 'total and deterministic' (their statements: YtnhmcmohnpbcjaaTotals.lean).
  GIVEN WITH THE SEED: the statements are not yours to turn. If you find one false, say at which input.
  Laid BY PROGRAM, IN A SANDBOX (cutbox-rows.mjs): the forced cells as the released guide's own fill.sh prints them over the translation 7ff09b613da3344d… (all of the seat's roots in one cut). By AI agents, Wed Nov 11 2026. No macro, syntax, notation, axiom, sorry.
-/
import Derived.Test.YtnhmcmohnpbcjaaChecked
import GoSem.Claim
import GoSem.ClaimJoined
import GoSem.ClaimMapViews
import Derived.JoinedTies
import Derived.KernelRfl
namespace Go.Proofs.Ytnhmcmohnpbcjaa
/- THE CELL 'sum', in the pinned program and in every row, IS THE sha256 OF THE DUMP (.gsa) THAT YtnhmcmohnpbcjaaProg.lean LOADS. Nothing in Lean hashes anything: it is a label: what it is worth is what the hold of that sum in a sandbox is worth. -/
noncomputable def Try.pinned : Pinned := { name := "ytnhmcmohnpbcjaa", sum := "7ff09b613da3344df57df7778b779b0704554e27d6cd8f438e8514ff3cd88ce8", checked := Try.checked }
namespace Rows
def none {H : Type} : Left H := { results := [], args := [] }

/-- 'laws.FnExactAddOpening': WHATEVER THE INPUT: true; the input reads as it did. -/
def fnExactAddOpeningSpec : ChangeSpec := { name := "fnExactAddOpening", fn := fun _ => fun
  | [d1, d2] => { results := [.lit (.bool true)], args := [d1, d2] }
  | _ => none }
def fnExactAddOpeningRow : OpenClaim := { program := "ytnhmcmohnpbcjaa", sum := "7ff09b613da3344df57df7778b779b0704554e27d6cd8f438e8514ff3cd88ce8", func := "loop.example/g01042/laws.FnExactAddOpening", spec := "fnExactAddOpening", inPlace := ["slices.overlaps[loop.example/g01042/impl.Opening]"], unfollowed := true, recurses := true, apart := false }
def FnExactAddOpeningSaid : Prop := fnExactAddOpeningRow.holds Try.pinned (OpenSpec.ofChange fnExactAddOpeningSpec)

/-- ITS FALSE NEIGHBOUR: 'it returns false'. Refute it at one input. -/
def fnExactAddOpeningWrong : ChangeSpec := { name := "fnExactAddOpening", fn := fun _ => fun
  | [d1, d2] => { results := [.lit (.bool false)], args := [d1, d2] }
  | _ => none }
def FnExactAddOpeningWrongFalsely : Prop := fnExactAddOpeningRow.holds Try.pinned (OpenSpec.ofChange fnExactAddOpeningWrong)

/-- 'laws.FnFronts': WHATEVER THE INPUT: true; the input reads as it did. -/
def fnFrontsSpec : ChangeSpec := { name := "fnFronts", fn := fun _ => fun
  | [d] => { results := [.lit (.bool true)], args := [d] }
  | _ => none }
def fnFrontsRow : OpenClaim := { program := "ytnhmcmohnpbcjaa", sum := "7ff09b613da3344df57df7778b779b0704554e27d6cd8f438e8514ff3cd88ce8", func := "loop.example/g01042/laws.FnFronts", spec := "fnFronts", inPlace := ["internal/abi.NoEscape", "internal/bytealg.MakeNoZero"], unfollowed := true, recurses := true, apart := false }
def FnFrontsSaid : Prop := fnFrontsRow.holds Try.pinned (OpenSpec.ofChange fnFrontsSpec)

/-- ITS FALSE NEIGHBOUR: 'it returns false'. Refute it at one input. -/
def fnFrontsWrong : ChangeSpec := { name := "fnFronts", fn := fun _ => fun
  | [d] => { results := [.lit (.bool false)], args := [d] }
  | _ => none }
def FnFrontsWrongFalsely : Prop := fnFrontsRow.holds Try.pinned (OpenSpec.ofChange fnFrontsWrong)

/-- 'laws.FnExactFrontLines': WHATEVER THE INPUT: true; the input reads as it did. -/
def fnExactFrontLinesSpec : ChangeSpec := { name := "fnExactFrontLines", fn := fun _ => fun
  | [d] => { results := [.lit (.bool true)], args := [d] }
  | _ => none }
def fnExactFrontLinesRow : OpenClaim := { program := "ytnhmcmohnpbcjaa", sum := "7ff09b613da3344df57df7778b779b0704554e27d6cd8f438e8514ff3cd88ce8", func := "loop.example/g01042/laws.FnExactFrontLines", spec := "fnExactFrontLines", inPlace := ["internal/abi.NoEscape", "internal/bytealg.MakeNoZero"], unfollowed := true, recurses := true, apart := false }
def FnExactFrontLinesSaid : Prop := fnExactFrontLinesRow.holds Try.pinned (OpenSpec.ofChange fnExactFrontLinesSpec)

/-- ITS FALSE NEIGHBOUR: 'it returns false'. Refute it at one input. -/
def fnExactFrontLinesWrong : ChangeSpec := { name := "fnExactFrontLines", fn := fun _ => fun
  | [d] => { results := [.lit (.bool false)], args := [d] }
  | _ => none }
def FnExactFrontLinesWrongFalsely : Prop := fnExactFrontLinesRow.holds Try.pinned (OpenSpec.ofChange fnExactFrontLinesWrong)

/-- 'laws.FnExactMirrorFront': WHATEVER THE INPUT: true; the input reads as it did. -/
def fnExactMirrorFrontSpec : ChangeSpec := { name := "fnExactMirrorFront", fn := fun _ => fun
  | [d] => { results := [.lit (.bool true)], args := [d] }
  | _ => none }
def fnExactMirrorFrontRow : OpenClaim := { program := "ytnhmcmohnpbcjaa", sum := "7ff09b613da3344df57df7778b779b0704554e27d6cd8f438e8514ff3cd88ce8", func := "loop.example/g01042/laws.FnExactMirrorFront", spec := "fnExactMirrorFront", unfollowed := true, recurses := true, apart := false }
def FnExactMirrorFrontSaid : Prop := fnExactMirrorFrontRow.holds Try.pinned (OpenSpec.ofChange fnExactMirrorFrontSpec)

/-- ITS FALSE NEIGHBOUR: 'it returns false'. Refute it at one input. -/
def fnExactMirrorFrontWrong : ChangeSpec := { name := "fnExactMirrorFront", fn := fun _ => fun
  | [d] => { results := [.lit (.bool false)], args := [d] }
  | _ => none }
def FnExactMirrorFrontWrongFalsely : Prop := fnExactMirrorFrontRow.holds Try.pinned (OpenSpec.ofChange fnExactMirrorFrontWrong)

/-- 'laws.FnOpenings': WHATEVER THE INPUT: true; the input reads as it did. -/
def fnOpeningsSpec : ChangeSpec := { name := "fnOpenings", fn := fun _ => fun
  | [d1, d2] => { results := [.lit (.bool true)], args := [d1, d2] }
  | _ => none }
def fnOpeningsRow : OpenClaim := { program := "ytnhmcmohnpbcjaa", sum := "7ff09b613da3344df57df7778b779b0704554e27d6cd8f438e8514ff3cd88ce8", func := "loop.example/g01042/laws.FnOpenings", spec := "fnOpenings", inPlace := ["slices.overlaps[loop.example/g01042/impl.Opening]", "internal/abi.NoEscape", "internal/bytealg.MakeNoZero"], unfollowed := true, recurses := true, apart := false }
def FnOpeningsSaid : Prop := fnOpeningsRow.holds Try.pinned (OpenSpec.ofChange fnOpeningsSpec)

/-- ITS FALSE NEIGHBOUR: 'it returns false'. Refute it at one input. -/
def fnOpeningsWrong : ChangeSpec := { name := "fnOpenings", fn := fun _ => fun
  | [d1, d2] => { results := [.lit (.bool false)], args := [d1, d2] }
  | _ => none }
def FnOpeningsWrongFalsely : Prop := fnOpeningsRow.holds Try.pinned (OpenSpec.ofChange fnOpeningsWrong)

/-- 'laws.FnExactLayFront': WHATEVER THE INPUT: true; the input reads as it did. -/
def fnExactLayFrontSpec : ChangeSpec := { name := "fnExactLayFront", fn := fun _ => fun
  | [d1, d2, d3] => { results := [.lit (.bool true)], args := [d1, d2, d3] }
  | _ => none }
def fnExactLayFrontRow : OpenClaim := { program := "ytnhmcmohnpbcjaa", sum := "7ff09b613da3344df57df7778b779b0704554e27d6cd8f438e8514ff3cd88ce8", func := "loop.example/g01042/laws.FnExactLayFront", spec := "fnExactLayFront", inPlace := ["internal/bytealg.IndexByteString"], unfollowed := true, recurses := true, apart := false }
def FnExactLayFrontSaid : Prop := fnExactLayFrontRow.holds Try.pinned (OpenSpec.ofChange fnExactLayFrontSpec)

/-- ITS FALSE NEIGHBOUR: 'it returns false'. Refute it at one input. -/
def fnExactLayFrontWrong : ChangeSpec := { name := "fnExactLayFront", fn := fun _ => fun
  | [d1, d2, d3] => { results := [.lit (.bool false)], args := [d1, d2, d3] }
  | _ => none }
def FnExactLayFrontWrongFalsely : Prop := fnExactLayFrontRow.holds Try.pinned (OpenSpec.ofChange fnExactLayFrontWrong)

/-- 'laws.FnFrontPieces': WHATEVER THE INPUT: true; the input reads as it did. -/
def fnFrontPiecesSpec : ChangeSpec := { name := "fnFrontPieces", fn := fun _ => fun
  | [d1, d2] => { results := [.lit (.bool true)], args := [d1, d2] }
  | _ => none }
def fnFrontPiecesRow : OpenClaim := { program := "ytnhmcmohnpbcjaa", sum := "7ff09b613da3344df57df7778b779b0704554e27d6cd8f438e8514ff3cd88ce8", func := "loop.example/g01042/laws.FnFrontPieces", spec := "fnFrontPieces", inPlace := ["internal/bytealg.IndexByteString"], unfollowed := true, recurses := true, apart := false }
def FnFrontPiecesSaid : Prop := fnFrontPiecesRow.holds Try.pinned (OpenSpec.ofChange fnFrontPiecesSpec)

/-- ITS FALSE NEIGHBOUR: 'it returns false'. Refute it at one input. -/
def fnFrontPiecesWrong : ChangeSpec := { name := "fnFrontPieces", fn := fun _ => fun
  | [d1, d2] => { results := [.lit (.bool false)], args := [d1, d2] }
  | _ => none }
def FnFrontPiecesWrongFalsely : Prop := fnFrontPiecesRow.holds Try.pinned (OpenSpec.ofChange fnFrontPiecesWrong)

/- THE SECOND FORM. 'bulk': how many values and letters a reading holds, each counted each time it is reached (what is shared counts as often as it is met; a slice's spare places count too). A statement '..UptoSaid' is the law's where the arguments, and the package variables that the reading takes, are together of bulk at most 1048576: NARROWER than '..Said'. Prove '..Said' where nothing that the law and all that it calls make is longer than what came in: it says more and counts as full. Else prove '..UptoSaid'. A law counts once. -/
mutual
def uptoBulk {H : Type} : DataW H → Nat
  | .lit (.string bytes) => bytes.length + 1
  | .lit _ => 1
  | .nil => 1
  | .ptr d => uptoBulk d + 1
  | .slice elems spare => uptoBulkAll elems + uptoBulkAll spare + 1
  | .agg parts => uptoBulkAll parts + 1
  | .iface _ d => uptoBulk d + 1
  | .map entries => uptoBulkEntries entries + 1
  | .held _ => 1
def uptoBulkAll {H : Type} : List (DataW H) → Nat
  | [] => 0
  | d :: r => uptoBulk d + uptoBulkAll r
def uptoBulkEntries {H : Type} : List (Lit × DataW H) → Nat
  | [] => 0
  | x :: r => uptoBulkEntry x + uptoBulkEntries r
def uptoBulkEntry {H : Type} : Lit × DataW H → Nat
  | (.string bytes, d) => bytes.length + uptoBulk d + 1
  | (_, d) => uptoBulk d + 1
 end
def uptoSmall : (H : Type) → List (DataW H) → Bool := fun _ ds => decide (uptoBulkAll ds ≤ 1048576)
def OpenSpec.upto (s : _root_.Go.ChangeSpec) : _root_.Go.OpenSpec := { _root_.Go.OpenSpec.ofChange s with cond := some uptoSmall }

/-- 'laws.FnExactAddOpening', WHERE WHAT IT READS IS OF BULK AT MOST 1048576: true; the input reads as it did. -/
def fnExactAddOpeningUptoRow : OpenClaim := { program := "ytnhmcmohnpbcjaa", sum := "7ff09b613da3344df57df7778b779b0704554e27d6cd8f438e8514ff3cd88ce8", func := "loop.example/g01042/laws.FnExactAddOpening", spec := "fnExactAddOpening", inPlace := ["slices.overlaps[loop.example/g01042/impl.Opening]"], unfollowed := true, recurses := true, apart := false, narrowed := true }
def FnExactAddOpeningUptoSaid : Prop := fnExactAddOpeningUptoRow.holds Try.pinned (OpenSpec.upto fnExactAddOpeningSpec)

/-- 'laws.FnFronts', WHERE WHAT IT READS IS OF BULK AT MOST 1048576: true; the input reads as it did. -/
def fnFrontsUptoRow : OpenClaim := { program := "ytnhmcmohnpbcjaa", sum := "7ff09b613da3344df57df7778b779b0704554e27d6cd8f438e8514ff3cd88ce8", func := "loop.example/g01042/laws.FnFronts", spec := "fnFronts", inPlace := ["internal/abi.NoEscape", "internal/bytealg.MakeNoZero"], unfollowed := true, recurses := true, apart := false, narrowed := true }
def FnFrontsUptoSaid : Prop := fnFrontsUptoRow.holds Try.pinned (OpenSpec.upto fnFrontsSpec)

/-- 'laws.FnExactFrontLines', WHERE WHAT IT READS IS OF BULK AT MOST 1048576: true; the input reads as it did. -/
def fnExactFrontLinesUptoRow : OpenClaim := { program := "ytnhmcmohnpbcjaa", sum := "7ff09b613da3344df57df7778b779b0704554e27d6cd8f438e8514ff3cd88ce8", func := "loop.example/g01042/laws.FnExactFrontLines", spec := "fnExactFrontLines", inPlace := ["internal/abi.NoEscape", "internal/bytealg.MakeNoZero"], unfollowed := true, recurses := true, apart := false, narrowed := true }
def FnExactFrontLinesUptoSaid : Prop := fnExactFrontLinesUptoRow.holds Try.pinned (OpenSpec.upto fnExactFrontLinesSpec)

/-- 'laws.FnExactMirrorFront', WHERE WHAT IT READS IS OF BULK AT MOST 1048576: true; the input reads as it did. -/
def fnExactMirrorFrontUptoRow : OpenClaim := { program := "ytnhmcmohnpbcjaa", sum := "7ff09b613da3344df57df7778b779b0704554e27d6cd8f438e8514ff3cd88ce8", func := "loop.example/g01042/laws.FnExactMirrorFront", spec := "fnExactMirrorFront", unfollowed := true, recurses := true, apart := false, narrowed := true }
def FnExactMirrorFrontUptoSaid : Prop := fnExactMirrorFrontUptoRow.holds Try.pinned (OpenSpec.upto fnExactMirrorFrontSpec)

/-- 'laws.FnOpenings', WHERE WHAT IT READS IS OF BULK AT MOST 1048576: true; the input reads as it did. -/
def fnOpeningsUptoRow : OpenClaim := { program := "ytnhmcmohnpbcjaa", sum := "7ff09b613da3344df57df7778b779b0704554e27d6cd8f438e8514ff3cd88ce8", func := "loop.example/g01042/laws.FnOpenings", spec := "fnOpenings", inPlace := ["slices.overlaps[loop.example/g01042/impl.Opening]", "internal/abi.NoEscape", "internal/bytealg.MakeNoZero"], unfollowed := true, recurses := true, apart := false, narrowed := true }
def FnOpeningsUptoSaid : Prop := fnOpeningsUptoRow.holds Try.pinned (OpenSpec.upto fnOpeningsSpec)

/-- 'laws.FnExactLayFront', WHERE WHAT IT READS IS OF BULK AT MOST 1048576: true; the input reads as it did. -/
def fnExactLayFrontUptoRow : OpenClaim := { program := "ytnhmcmohnpbcjaa", sum := "7ff09b613da3344df57df7778b779b0704554e27d6cd8f438e8514ff3cd88ce8", func := "loop.example/g01042/laws.FnExactLayFront", spec := "fnExactLayFront", inPlace := ["internal/bytealg.IndexByteString"], unfollowed := true, recurses := true, apart := false, narrowed := true }
def FnExactLayFrontUptoSaid : Prop := fnExactLayFrontUptoRow.holds Try.pinned (OpenSpec.upto fnExactLayFrontSpec)

/-- 'laws.FnFrontPieces', WHERE WHAT IT READS IS OF BULK AT MOST 1048576: true; the input reads as it did. -/
def fnFrontPiecesUptoRow : OpenClaim := { program := "ytnhmcmohnpbcjaa", sum := "7ff09b613da3344df57df7778b779b0704554e27d6cd8f438e8514ff3cd88ce8", func := "loop.example/g01042/laws.FnFrontPieces", spec := "fnFrontPieces", inPlace := ["internal/bytealg.IndexByteString"], unfollowed := true, recurses := true, apart := false, narrowed := true }
def FnFrontPiecesUptoSaid : Prop := fnFrontPiecesUptoRow.holds Try.pinned (OpenSpec.upto fnFrontPiecesSpec)

end Rows
end Go.Proofs.Ytnhmcmohnpbcjaa

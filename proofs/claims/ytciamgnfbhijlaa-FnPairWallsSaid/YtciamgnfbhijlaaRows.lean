/-
  No cell of these rows narrows 'for every input' (looked for: loops, veiled, ifaces, maps, wideKeys, modest, calm, conditions, laid).
  DERIVED. THE GIVEN ROWS OF THIS SEAT. 5 by the template 'for every input the law returns true; each argument reads behind the call as it read before'; 0 by the template 'total and deterministic' (their statements: YtciamgnfbhijlaaTotals.lean).
  GIVEN WITH THE SEED: the statements are not yours to turn. If you find one false, say at which input.
  Laid BY PROGRAM, IN A SANDBOX (cutbox-rows.mjs): the forced cells as the released guide's own fill.sh prints them over the translation 7a932589e7473526… (all of the seat's roots in one cut). By AI agents, Wed Nov 11 2026. No macro, syntax, notation, axiom, sorry.
-/
import Derived.Test.YtciamgnfbhijlaaChecked
import GoSem.Claim
import GoSem.ClaimJoined
import GoSem.ClaimMapViews
import Derived.JoinedTies
import Derived.KernelRfl
namespace Go.Proofs.Ytciamgnfbhijlaa
/- THE CELL 'sum', in the pinned program and in every row, IS THE sha256 OF THE DUMP (.gsa) THAT YtciamgnfbhijlaaProg.lean LOADS. Nothing in Lean hashes anything: it is a label: what it is worth is what the hold of that sum in a sandbox is worth. -/
noncomputable def Try.pinned : Pinned := { name := "ytciamgnfbhijlaa", sum := "7a932589e7473526c9058a355a500af25ce7fd610ce3b2e2241c4efd1fadaa20", checked := Try.checked }
namespace Rows
def none {H : Type} : Left H := { results := [], args := [] }

/-- 'laws.FnExactBestPair': WHATEVER THE INPUT: true; the input reads as it did. -/
def fnExactBestPairSpec : ChangeSpec := { name := "fnExactBestPair", fn := fun _ => fun
  | [d1, d2] => { results := [.lit (.bool true)], args := [d1, d2] }
  | _ => none }
def fnExactBestPairRow : OpenClaim := { program := "ytciamgnfbhijlaa", sum := "7a932589e7473526c9058a355a500af25ce7fd610ce3b2e2241c4efd1fadaa20", func := "loop.example/g01042/laws.FnExactBestPair", spec := "fnExactBestPair", recurses := true, plainKeys := false, apart := false }
def FnExactBestPairSaid : Prop := fnExactBestPairRow.holds Try.pinned (OpenSpec.ofChange fnExactBestPairSpec)

/-- ITS FALSE NEIGHBOUR: 'it returns false'. Refute it at one input. -/
def fnExactBestPairWrong : ChangeSpec := { name := "fnExactBestPair", fn := fun _ => fun
  | [d1, d2] => { results := [.lit (.bool false)], args := [d1, d2] }
  | _ => none }
def FnExactBestPairWrongFalsely : Prop := fnExactBestPairRow.holds Try.pinned (OpenSpec.ofChange fnExactBestPairWrong)

/-- 'laws.FnExactPairCuts': WHATEVER THE INPUT: true; the input reads as it did. -/
def fnExactPairCutsSpec : ChangeSpec := { name := "fnExactPairCuts", fn := fun _ => fun
  | [d1, d2] => { results := [.lit (.bool true)], args := [d1, d2] }
  | _ => none }
def fnExactPairCutsRow : OpenClaim := { program := "ytciamgnfbhijlaa", sum := "7a932589e7473526c9058a355a500af25ce7fd610ce3b2e2241c4efd1fadaa20", func := "loop.example/g01042/laws.FnExactPairCuts", spec := "fnExactPairCuts", recurses := true, plainKeys := false, apart := false }
def FnExactPairCutsSaid : Prop := fnExactPairCutsRow.holds Try.pinned (OpenSpec.ofChange fnExactPairCutsSpec)

/-- ITS FALSE NEIGHBOUR: 'it returns false'. Refute it at one input. -/
def fnExactPairCutsWrong : ChangeSpec := { name := "fnExactPairCuts", fn := fun _ => fun
  | [d1, d2] => { results := [.lit (.bool false)], args := [d1, d2] }
  | _ => none }
def FnExactPairCutsWrongFalsely : Prop := fnExactPairCutsRow.holds Try.pinned (OpenSpec.ofChange fnExactPairCutsWrong)

/-- 'laws.FnExactLengthsWithout': WHATEVER THE INPUT: true; the input reads as it did. -/
def fnExactLengthsWithoutSpec : ChangeSpec := { name := "fnExactLengthsWithout", fn := fun _ => fun
  | [d1, d2] => { results := [.lit (.bool true)], args := [d1, d2] }
  | _ => none }
def fnExactLengthsWithoutRow : OpenClaim := { program := "ytciamgnfbhijlaa", sum := "7a932589e7473526c9058a355a500af25ce7fd610ce3b2e2241c4efd1fadaa20", func := "loop.example/g01042/laws.FnExactLengthsWithout", spec := "fnExactLengthsWithout", recurses := true, plainKeys := false, apart := false }
def FnExactLengthsWithoutSaid : Prop := fnExactLengthsWithoutRow.holds Try.pinned (OpenSpec.ofChange fnExactLengthsWithoutSpec)

/-- ITS FALSE NEIGHBOUR: 'it returns false'. Refute it at one input. -/
def fnExactLengthsWithoutWrong : ChangeSpec := { name := "fnExactLengthsWithout", fn := fun _ => fun
  | [d1, d2] => { results := [.lit (.bool false)], args := [d1, d2] }
  | _ => none }
def FnExactLengthsWithoutWrongFalsely : Prop := fnExactLengthsWithoutRow.holds Try.pinned (OpenSpec.ofChange fnExactLengthsWithoutWrong)

/-- 'laws.FnPairs': WHATEVER THE INPUT: true; the input reads as it did. -/
def fnPairsSpec : ChangeSpec := { name := "fnPairs", fn := fun _ => fun
  | [d1, d2] => { results := [.lit (.bool true)], args := [d1, d2] }
  | _ => none }
def fnPairsRow : OpenClaim := { program := "ytciamgnfbhijlaa", sum := "7a932589e7473526c9058a355a500af25ce7fd610ce3b2e2241c4efd1fadaa20", func := "loop.example/g01042/laws.FnPairs", spec := "fnPairs", recurses := true, plainKeys := false, apart := false }
def FnPairsSaid : Prop := fnPairsRow.holds Try.pinned (OpenSpec.ofChange fnPairsSpec)

/-- ITS FALSE NEIGHBOUR: 'it returns false'. Refute it at one input. -/
def fnPairsWrong : ChangeSpec := { name := "fnPairs", fn := fun _ => fun
  | [d1, d2] => { results := [.lit (.bool false)], args := [d1, d2] }
  | _ => none }
def FnPairsWrongFalsely : Prop := fnPairsRow.holds Try.pinned (OpenSpec.ofChange fnPairsWrong)

/-- 'laws.FnPairWalls': WHATEVER THE INPUT: true; the input reads as it did. -/
def fnPairWallsSpec : ChangeSpec := { name := "fnPairWalls", fn := fun _ => fun
  | [d] => { results := [.lit (.bool true)], args := [d] }
  | _ => none }
def fnPairWallsRow : OpenClaim := { program := "ytciamgnfbhijlaa", sum := "7a932589e7473526c9058a355a500af25ce7fd610ce3b2e2241c4efd1fadaa20", func := "loop.example/g01042/laws.FnPairWalls", spec := "fnPairWalls", inPlace := ["internal/bytealg.IndexByteString"], unfollowed := true, recurses := true, plainKeys := false, apart := false }
def FnPairWallsSaid : Prop := fnPairWallsRow.holds Try.pinned (OpenSpec.ofChange fnPairWallsSpec)

/-- ITS FALSE NEIGHBOUR: 'it returns false'. Refute it at one input. -/
def fnPairWallsWrong : ChangeSpec := { name := "fnPairWalls", fn := fun _ => fun
  | [d] => { results := [.lit (.bool false)], args := [d] }
  | _ => none }
def FnPairWallsWrongFalsely : Prop := fnPairWallsRow.holds Try.pinned (OpenSpec.ofChange fnPairWallsWrong)

/- THE SECOND FORM. 'bulk': how many values and letters a reading holds, each counted each time it is reached (what is shared counts as often as it is met; a slice's spare places count too). A statement '..UptoSaid' is the law's where the arguments, and the package variables that the reading takes, are together of bulk at most 1048576: NARROWER than '..Said'. Prove '..Said' where nothing that the law and all that it calls make is longer than what came in: it says more and counts as full. Else prove '..UptoSaid'. A law counts once. -/
mutual
def uptoBulk {H : Type} : DataW H → Nat
  | .lit (.string bytes) => bytes.length + 1
  | .lit _ => 1
  | .nil => 1
  | .ptr d => uptoBulk d + 1
  | .slice elems spare => uptoBulkAll elems + uptoBulkAll spare + 1
  | .agg parts => uptoBulkAll parts + 1
  | .iface _ d => uptoBulk d + 1
  | .map entries => uptoBulkEntries entries + 1
  | .held _ => 1
def uptoBulkAll {H : Type} : List (DataW H) → Nat
  | [] => 0
  | d :: r => uptoBulk d + uptoBulkAll r
def uptoBulkEntries {H : Type} : List (Lit × DataW H) → Nat
  | [] => 0
  | x :: r => uptoBulkEntry x + uptoBulkEntries r
def uptoBulkEntry {H : Type} : Lit × DataW H → Nat
  | (.string bytes, d) => bytes.length + uptoBulk d + 1
  | (_, d) => uptoBulk d + 1
 end
def uptoSmall : (H : Type) → List (DataW H) → Bool := fun _ ds => decide (uptoBulkAll ds ≤ 1048576)
def OpenSpec.upto (s : _root_.Go.ChangeSpec) : _root_.Go.OpenSpec := { _root_.Go.OpenSpec.ofChange s with cond := some uptoSmall }

/-- 'laws.FnExactBestPair', WHERE WHAT IT READS IS OF BULK AT MOST 1048576: true; the input reads as it did. -/
def fnExactBestPairUptoRow : OpenClaim := { program := "ytciamgnfbhijlaa", sum := "7a932589e7473526c9058a355a500af25ce7fd610ce3b2e2241c4efd1fadaa20", func := "loop.example/g01042/laws.FnExactBestPair", spec := "fnExactBestPair", recurses := true, plainKeys := false, apart := false, narrowed := true }
def FnExactBestPairUptoSaid : Prop := fnExactBestPairUptoRow.holds Try.pinned (OpenSpec.upto fnExactBestPairSpec)

/-- 'laws.FnExactPairCuts', WHERE WHAT IT READS IS OF BULK AT MOST 1048576: true; the input reads as it did. -/
def fnExactPairCutsUptoRow : OpenClaim := { program := "ytciamgnfbhijlaa", sum := "7a932589e7473526c9058a355a500af25ce7fd610ce3b2e2241c4efd1fadaa20", func := "loop.example/g01042/laws.FnExactPairCuts", spec := "fnExactPairCuts", recurses := true, plainKeys := false, apart := false, narrowed := true }
def FnExactPairCutsUptoSaid : Prop := fnExactPairCutsUptoRow.holds Try.pinned (OpenSpec.upto fnExactPairCutsSpec)

/-- 'laws.FnExactLengthsWithout', WHERE WHAT IT READS IS OF BULK AT MOST 1048576: true; the input reads as it did. -/
def fnExactLengthsWithoutUptoRow : OpenClaim := { program := "ytciamgnfbhijlaa", sum := "7a932589e7473526c9058a355a500af25ce7fd610ce3b2e2241c4efd1fadaa20", func := "loop.example/g01042/laws.FnExactLengthsWithout", spec := "fnExactLengthsWithout", recurses := true, plainKeys := false, apart := false, narrowed := true }
def FnExactLengthsWithoutUptoSaid : Prop := fnExactLengthsWithoutUptoRow.holds Try.pinned (OpenSpec.upto fnExactLengthsWithoutSpec)

/-- 'laws.FnPairs', WHERE WHAT IT READS IS OF BULK AT MOST 1048576: true; the input reads as it did. -/
def fnPairsUptoRow : OpenClaim := { program := "ytciamgnfbhijlaa", sum := "7a932589e7473526c9058a355a500af25ce7fd610ce3b2e2241c4efd1fadaa20", func := "loop.example/g01042/laws.FnPairs", spec := "fnPairs", recurses := true, plainKeys := false, apart := false, narrowed := true }
def FnPairsUptoSaid : Prop := fnPairsUptoRow.holds Try.pinned (OpenSpec.upto fnPairsSpec)

/-- 'laws.FnPairWalls', WHERE WHAT IT READS IS OF BULK AT MOST 1048576: true; the input reads as it did. -/
def fnPairWallsUptoRow : OpenClaim := { program := "ytciamgnfbhijlaa", sum := "7a932589e7473526c9058a355a500af25ce7fd610ce3b2e2241c4efd1fadaa20", func := "loop.example/g01042/laws.FnPairWalls", spec := "fnPairWalls", inPlace := ["internal/bytealg.IndexByteString"], unfollowed := true, recurses := true, plainKeys := false, apart := false, narrowed := true }
def FnPairWallsUptoSaid : Prop := fnPairWallsUptoRow.holds Try.pinned (OpenSpec.upto fnPairWallsSpec)

end Rows
end Go.Proofs.Ytciamgnfbhijlaa

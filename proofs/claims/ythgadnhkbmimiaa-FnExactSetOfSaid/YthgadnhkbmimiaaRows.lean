/-
  No cell of these rows narrows 'for every input' (looked for: loops, veiled, ifaces, maps, wideKeys, modest, calm, conditions, laid).
  DERIVED. THE GIVEN ROWS OF THIS SEAT. 5 by the template 'for every input the law returns true; each argument reads behind the call as it read before'; 0 by the template 'total and deterministic' (their statements: YthgadnhkbmimiaaTotals.lean).
  GIVEN WITH THE SEED: the statements are not yours to turn. If you find one false, say at which input.
  Laid BY PROGRAM, IN A SANDBOX (cutbox-rows.mjs): the forced cells as the released guide's own fill.sh prints them over the translation 6c8f1180b7597927… (all of the seat's roots in one cut). By AI agents, Wed Nov 11 2026. No macro, syntax, notation, axiom, sorry.
-/
import Derived.Test.YthgadnhkbmimiaaChecked
import GoSem.Claim
import GoSem.ClaimJoined
import GoSem.ClaimMapViews
import Derived.JoinedTies
import Derived.KernelRfl
namespace Go.Proofs.Ythgadnhkbmimiaa
/- THE CELL 'sum', in the pinned program and in every row, IS THE sha256 OF THE DUMP (.gsa) THAT YthgadnhkbmimiaaProg.lean LOADS. Nothing in Lean hashes anything: it is a label: what it is worth is what the hold of that sum in a sandbox is worth. -/
noncomputable def Try.pinned : Pinned := { name := "ythgadnhkbmimiaa", sum := "6c8f1180b7597927be9a72f3f1026a7da342958e0ffe56642498d6682b80ad8e", checked := Try.checked }
namespace Rows
def none {H : Type} : Left H := { results := [], args := [] }

/-- 'laws.FnExactRingsSign': WHATEVER THE INPUT: true; the input reads as it did. -/
def fnExactRingsSignSpec : ChangeSpec := { name := "fnExactRingsSign", fn := fun _ => fun
  | [d1, d2, d3] => { results := [.lit (.bool true)], args := [d1, d2, d3] }
  | _ => none }
def fnExactRingsSignRow : OpenClaim := { program := "ythgadnhkbmimiaa", sum := "6c8f1180b7597927be9a72f3f1026a7da342958e0ffe56642498d6682b80ad8e", func := "loop.example/g00894/laws.FnExactRingsSign", spec := "fnExactRingsSign", recurses := true, apart := false }
def FnExactRingsSignSaid : Prop := fnExactRingsSignRow.holds Try.pinned (OpenSpec.ofChange fnExactRingsSignSpec)

/-- ITS FALSE NEIGHBOUR: 'it returns false'. Refute it at one input. -/
def fnExactRingsSignWrong : ChangeSpec := { name := "fnExactRingsSign", fn := fun _ => fun
  | [d1, d2, d3] => { results := [.lit (.bool false)], args := [d1, d2, d3] }
  | _ => none }
def FnExactRingsSignWrongFalsely : Prop := fnExactRingsSignRow.holds Try.pinned (OpenSpec.ofChange fnExactRingsSignWrong)

/-- 'laws.FnExactSetOf': WHATEVER THE INPUT: true; the input reads as it did. -/
def fnExactSetOfSpec : ChangeSpec := { name := "fnExactSetOf", fn := fun _ => fun
  | [d1, d2, d3] => { results := [.lit (.bool true)], args := [d1, d2, d3] }
  | _ => none }
def fnExactSetOfRow : OpenClaim := { program := "ythgadnhkbmimiaa", sum := "6c8f1180b7597927be9a72f3f1026a7da342958e0ffe56642498d6682b80ad8e", func := "loop.example/g00894/laws.FnExactSetOf", spec := "fnExactSetOf", recurses := true, apart := false }
def FnExactSetOfSaid : Prop := fnExactSetOfRow.holds Try.pinned (OpenSpec.ofChange fnExactSetOfSpec)

/-- ITS FALSE NEIGHBOUR: 'it returns false'. Refute it at one input. -/
def fnExactSetOfWrong : ChangeSpec := { name := "fnExactSetOf", fn := fun _ => fun
  | [d1, d2, d3] => { results := [.lit (.bool false)], args := [d1, d2, d3] }
  | _ => none }
def FnExactSetOfWrongFalsely : Prop := fnExactSetOfRow.holds Try.pinned (OpenSpec.ofChange fnExactSetOfWrong)

/-- 'laws.FnExactCheckObstacle': WHATEVER THE INPUT: true; the input reads as it did. -/
def fnExactCheckObstacleSpec : ChangeSpec := { name := "fnExactCheckObstacle", fn := fun _ => fun
  | [d1, d2, d3] => { results := [.lit (.bool true)], args := [d1, d2, d3] }
  | _ => none }
def fnExactCheckObstacleRow : OpenClaim := { program := "ythgadnhkbmimiaa", sum := "6c8f1180b7597927be9a72f3f1026a7da342958e0ffe56642498d6682b80ad8e", func := "loop.example/g00894/laws.FnExactCheckObstacle", spec := "fnExactCheckObstacle", recurses := true, apart := false }
def FnExactCheckObstacleSaid : Prop := fnExactCheckObstacleRow.holds Try.pinned (OpenSpec.ofChange fnExactCheckObstacleSpec)

/-- ITS FALSE NEIGHBOUR: 'it returns false'. Refute it at one input. -/
def fnExactCheckObstacleWrong : ChangeSpec := { name := "fnExactCheckObstacle", fn := fun _ => fun
  | [d1, d2, d3] => { results := [.lit (.bool false)], args := [d1, d2, d3] }
  | _ => none }
def FnExactCheckObstacleWrongFalsely : Prop := fnExactCheckObstacleRow.holds Try.pinned (OpenSpec.ofChange fnExactCheckObstacleWrong)

/-- 'laws.FnExactObstacleTo': WHATEVER THE INPUT: true; the input reads as it did. -/
def fnExactObstacleToSpec : ChangeSpec := { name := "fnExactObstacleTo", fn := fun _ => fun
  | [d1, d2] => { results := [.lit (.bool true)], args := [d1, d2] }
  | _ => none }
def fnExactObstacleToRow : OpenClaim := { program := "ythgadnhkbmimiaa", sum := "6c8f1180b7597927be9a72f3f1026a7da342958e0ffe56642498d6682b80ad8e", func := "loop.example/g00894/laws.FnExactObstacleTo", spec := "fnExactObstacleTo", recurses := true, apart := false }
def FnExactObstacleToSaid : Prop := fnExactObstacleToRow.holds Try.pinned (OpenSpec.ofChange fnExactObstacleToSpec)

/-- ITS FALSE NEIGHBOUR: 'it returns false'. Refute it at one input. -/
def fnExactObstacleToWrong : ChangeSpec := { name := "fnExactObstacleTo", fn := fun _ => fun
  | [d1, d2] => { results := [.lit (.bool false)], args := [d1, d2] }
  | _ => none }
def FnExactObstacleToWrongFalsely : Prop := fnExactObstacleToRow.holds Try.pinned (OpenSpec.ofChange fnExactObstacleToWrong)

/-- 'laws.FnAlikeMethods': WHATEVER THE INPUT: true; the input reads as it did. -/
def fnAlikeMethodsSpec : ChangeSpec := { name := "fnAlikeMethods", fn := fun _ => fun
  | [d1, d2] => { results := [.lit (.bool true)], args := [d1, d2] }
  | _ => none }
def fnAlikeMethodsRow : OpenClaim := { program := "ythgadnhkbmimiaa", sum := "6c8f1180b7597927be9a72f3f1026a7da342958e0ffe56642498d6682b80ad8e", func := "loop.example/g00894/laws.FnAlikeMethods", spec := "fnAlikeMethods", recurses := true, apart := false }
def FnAlikeMethodsSaid : Prop := fnAlikeMethodsRow.holds Try.pinned (OpenSpec.ofChange fnAlikeMethodsSpec)

/-- ITS FALSE NEIGHBOUR: 'it returns false'. Refute it at one input. -/
def fnAlikeMethodsWrong : ChangeSpec := { name := "fnAlikeMethods", fn := fun _ => fun
  | [d1, d2] => { results := [.lit (.bool false)], args := [d1, d2] }
  | _ => none }
def FnAlikeMethodsWrongFalsely : Prop := fnAlikeMethodsRow.holds Try.pinned (OpenSpec.ofChange fnAlikeMethodsWrong)

/- THE SECOND FORM. 'bulk': how many values and letters a reading holds, each counted each time it is reached (what is shared counts as often as it is met; a slice's spare places count too). A statement '..UptoSaid' is the law's where the arguments, and the package variables that the reading takes, are together of bulk at most 1048576: NARROWER than '..Said'. Prove '..Said' where nothing that the law and all that it calls make is longer than what came in: it says more and counts as full. Else prove '..UptoSaid'. A law counts once. -/
mutual
def uptoBulk {H : Type} : DataW H → Nat
  | .lit (.string bytes) => bytes.length + 1
  | .lit _ => 1
  | .nil => 1
  | .ptr d => uptoBulk d + 1
  | .slice elems spare => uptoBulkAll elems + uptoBulkAll spare + 1
  | .agg parts => uptoBulkAll parts + 1
  | .iface _ d => uptoBulk d + 1
  | .map entries => uptoBulkEntries entries + 1
  | .held _ => 1
def uptoBulkAll {H : Type} : List (DataW H) → Nat
  | [] => 0
  | d :: r => uptoBulk d + uptoBulkAll r
def uptoBulkEntries {H : Type} : List (Lit × DataW H) → Nat
  | [] => 0
  | x :: r => uptoBulkEntry x + uptoBulkEntries r
def uptoBulkEntry {H : Type} : Lit × DataW H → Nat
  | (.string bytes, d) => bytes.length + uptoBulk d + 1
  | (_, d) => uptoBulk d + 1
 end
def uptoSmall : (H : Type) → List (DataW H) → Bool := fun _ ds => decide (uptoBulkAll ds ≤ 1048576)
def OpenSpec.upto (s : _root_.Go.ChangeSpec) : _root_.Go.OpenSpec := { _root_.Go.OpenSpec.ofChange s with cond := some uptoSmall }

/-- 'laws.FnExactRingsSign', WHERE WHAT IT READS IS OF BULK AT MOST 1048576: true; the input reads as it did. -/
def fnExactRingsSignUptoRow : OpenClaim := { program := "ythgadnhkbmimiaa", sum := "6c8f1180b7597927be9a72f3f1026a7da342958e0ffe56642498d6682b80ad8e", func := "loop.example/g00894/laws.FnExactRingsSign", spec := "fnExactRingsSign", recurses := true, apart := false, narrowed := true }
def FnExactRingsSignUptoSaid : Prop := fnExactRingsSignUptoRow.holds Try.pinned (OpenSpec.upto fnExactRingsSignSpec)

/-- 'laws.FnExactSetOf', WHERE WHAT IT READS IS OF BULK AT MOST 1048576: true; the input reads as it did. -/
def fnExactSetOfUptoRow : OpenClaim := { program := "ythgadnhkbmimiaa", sum := "6c8f1180b7597927be9a72f3f1026a7da342958e0ffe56642498d6682b80ad8e", func := "loop.example/g00894/laws.FnExactSetOf", spec := "fnExactSetOf", recurses := true, apart := false, narrowed := true }
def FnExactSetOfUptoSaid : Prop := fnExactSetOfUptoRow.holds Try.pinned (OpenSpec.upto fnExactSetOfSpec)

/-- 'laws.FnExactCheckObstacle', WHERE WHAT IT READS IS OF BULK AT MOST 1048576: true; the input reads as it did. -/
def fnExactCheckObstacleUptoRow : OpenClaim := { program := "ythgadnhkbmimiaa", sum := "6c8f1180b7597927be9a72f3f1026a7da342958e0ffe56642498d6682b80ad8e", func := "loop.example/g00894/laws.FnExactCheckObstacle", spec := "fnExactCheckObstacle", recurses := true, apart := false, narrowed := true }
def FnExactCheckObstacleUptoSaid : Prop := fnExactCheckObstacleUptoRow.holds Try.pinned (OpenSpec.upto fnExactCheckObstacleSpec)

/-- 'laws.FnExactObstacleTo', WHERE WHAT IT READS IS OF BULK AT MOST 1048576: true; the input reads as it did. -/
def fnExactObstacleToUptoRow : OpenClaim := { program := "ythgadnhkbmimiaa", sum := "6c8f1180b7597927be9a72f3f1026a7da342958e0ffe56642498d6682b80ad8e", func := "loop.example/g00894/laws.FnExactObstacleTo", spec := "fnExactObstacleTo", recurses := true, apart := false, narrowed := true }
def FnExactObstacleToUptoSaid : Prop := fnExactObstacleToUptoRow.holds Try.pinned (OpenSpec.upto fnExactObstacleToSpec)

/-- 'laws.FnAlikeMethods', WHERE WHAT IT READS IS OF BULK AT MOST 1048576: true; the input reads as it did. -/
def fnAlikeMethodsUptoRow : OpenClaim := { program := "ythgadnhkbmimiaa", sum := "6c8f1180b7597927be9a72f3f1026a7da342958e0ffe56642498d6682b80ad8e", func := "loop.example/g00894/laws.FnAlikeMethods", spec := "fnAlikeMethods", recurses := true, apart := false, narrowed := true }
def FnAlikeMethodsUptoSaid : Prop := fnAlikeMethodsUptoRow.holds Try.pinned (OpenSpec.upto fnAlikeMethodsSpec)

end Rows
end Go.Proofs.Ythgadnhkbmimiaa

/-
  No cell of these rows narrows 'for every input' (looked for: loops, veiled, ifaces, maps, wideKeys, modest, calm, conditions, laid).
  DERIVED. THE GIVEN ROWS OF THIS SEAT. 11 by the template 'for every input the law returns true; each argument reads behind the call as it read before'; 0 by the template 'total and deterministic' (their statements: YtjiiflpoiaaccaaGreatTotals.lean).
  GIVEN WITH THE SEED: the statements are not yours to turn. If you find one false, say at which input.
  Laid BY PROGRAM, IN A SANDBOX (cutbox-rows.mjs): the forced cells as the released guide's own fill.sh prints them over the translation 8e80891e9022aacf… (all of the seat's roots in one cut). By AI agents, Wed Nov 11 2026. No macro, syntax, notation, axiom, sorry.
-/
import Derived.Test.YtjiiflpoiaaccaaGreatChecked
import GoSem.Claim
import GoSem.ClaimJoined
import GoSem.ClaimMapViews
import Derived.JoinedTies
import Derived.KernelRfl
namespace Go.Proofs.YtjiiflpoiaaccaaGreat
/- THE CELL 'sum', in the pinned program and in every row, IS THE sha256 OF THE DUMP (.gsa) THAT YtjiiflpoiaaccaaGreatProg.lean LOADS. Nothing in Lean hashes anything: it is a label: what it is worth is what the hold of that sum in a sandbox is worth. -/
noncomputable def Tryz.pinned : Pinned := { name := "ytjiiflpoiaaccaagreat", sum := "8e80891e9022aacf87fdb77184fc1dbf6672b6a329d53161f459d410906ca2fb", checked := Tryz.checked }
namespace Rows
def none {H : Type} : Left H := { results := [], args := [] }

/-- 'laws.FnExactMendTouch': WHATEVER THE INPUT: true; the input reads as it did. -/
def fnExactMendTouchSpec : ChangeSpec := { name := "fnExactMendTouch", fn := fun _ => fun
  | [d1, d2, d3, d4, d5, d6] => { results := [.lit (.bool true)], args := [d1, d2, d3, d4, d5, d6] }
  | _ => none }
def fnExactMendTouchRow : OpenClaim := { program := "ytjiiflpoiaaccaagreat", sum := "8e80891e9022aacf87fdb77184fc1dbf6672b6a329d53161f459d410906ca2fb", func := "loop.example/g00894/laws.FnExactMendTouch", spec := "fnExactMendTouch", recurses := true, apart := false }
def FnExactMendTouchSaid : Prop := fnExactMendTouchRow.holds Tryz.pinned (OpenSpec.ofChange fnExactMendTouchSpec)

/-- ITS FALSE NEIGHBOUR: 'it returns false'. Refute it at one input. -/
def fnExactMendTouchWrong : ChangeSpec := { name := "fnExactMendTouch", fn := fun _ => fun
  | [d1, d2, d3, d4, d5, d6] => { results := [.lit (.bool false)], args := [d1, d2, d3, d4, d5, d6] }
  | _ => none }
def FnExactMendTouchWrongFalsely : Prop := fnExactMendTouchRow.holds Tryz.pinned (OpenSpec.ofChange fnExactMendTouchWrong)

/-- 'laws.FnAgree': WHATEVER THE INPUT: true; the input reads as it did. -/
def fnAgreeSpec : ChangeSpec := { name := "fnAgree", fn := fun _ => fun
  | [d1, d2] => { results := [.lit (.bool true)], args := [d1, d2] }
  | _ => none }
def fnAgreeRow : OpenClaim := { program := "ytjiiflpoiaaccaagreat", sum := "8e80891e9022aacf87fdb77184fc1dbf6672b6a329d53161f459d410906ca2fb", func := "loop.example/g00894/laws.FnAgree", spec := "fnAgree", inPlace := ["internal/bytealg.abigen_runtime_cmpstring", "internal/abi.NoEscape", "internal/bytealg.MakeNoZero"], unfollowed := true, recurses := true, apart := false }
def FnAgreeSaid : Prop := fnAgreeRow.holds Tryz.pinned (OpenSpec.ofChange fnAgreeSpec)

/-- ITS FALSE NEIGHBOUR: 'it returns false'. Refute it at one input. -/
def fnAgreeWrong : ChangeSpec := { name := "fnAgree", fn := fun _ => fun
  | [d1, d2] => { results := [.lit (.bool false)], args := [d1, d2] }
  | _ => none }
def FnAgreeWrongFalsely : Prop := fnAgreeRow.holds Tryz.pinned (OpenSpec.ofChange fnAgreeWrong)

/-- 'laws.FnExactStudyOf': WHATEVER THE INPUT: true; the input reads as it did. -/
def fnExactStudyOfSpec : ChangeSpec := { name := "fnExactStudyOf", fn := fun _ => fun
  | [d1, d2, d3, d4] => { results := [.lit (.bool true)], args := [d1, d2, d3, d4] }
  | _ => none }
def fnExactStudyOfRow : OpenClaim := { program := "ytjiiflpoiaaccaagreat", sum := "8e80891e9022aacf87fdb77184fc1dbf6672b6a329d53161f459d410906ca2fb", func := "loop.example/g00894/laws.FnExactStudyOf", spec := "fnExactStudyOf", inPlace := ["internal/abi.NoEscape", "internal/bytealg.MakeNoZero"], recurses := true, apart := false }
def FnExactStudyOfSaid : Prop := fnExactStudyOfRow.holds Tryz.pinned (OpenSpec.ofChange fnExactStudyOfSpec)

/-- ITS FALSE NEIGHBOUR: 'it returns false'. Refute it at one input. -/
def fnExactStudyOfWrong : ChangeSpec := { name := "fnExactStudyOf", fn := fun _ => fun
  | [d1, d2, d3, d4] => { results := [.lit (.bool false)], args := [d1, d2, d3, d4] }
  | _ => none }
def FnExactStudyOfWrongFalsely : Prop := fnExactStudyOfRow.holds Tryz.pinned (OpenSpec.ofChange fnExactStudyOfWrong)

/-- 'laws.FnProofs': WHATEVER THE INPUT: true; the input reads as it did. -/
def fnProofsSpec : ChangeSpec := { name := "fnProofs", fn := fun _ => fun
  | [d1, d2] => { results := [.lit (.bool true)], args := [d1, d2] }
  | _ => none }
def fnProofsRow : OpenClaim := { program := "ytjiiflpoiaaccaagreat", sum := "8e80891e9022aacf87fdb77184fc1dbf6672b6a329d53161f459d410906ca2fb", func := "loop.example/g00894/laws.FnProofs", spec := "fnProofs", inPlace := ["internal/bytealg.abigen_runtime_cmpstring"], unfollowed := true, recurses := true, apart := false }
def FnProofsSaid : Prop := fnProofsRow.holds Tryz.pinned (OpenSpec.ofChange fnProofsSpec)

/-- ITS FALSE NEIGHBOUR: 'it returns false'. Refute it at one input. -/
def fnProofsWrong : ChangeSpec := { name := "fnProofs", fn := fun _ => fun
  | [d1, d2] => { results := [.lit (.bool false)], args := [d1, d2] }
  | _ => none }
def FnProofsWrongFalsely : Prop := fnProofsRow.holds Tryz.pinned (OpenSpec.ofChange fnProofsWrong)

/-- 'laws.FnLies': WHATEVER THE INPUT: true; the input reads as it did. -/
def fnLiesSpec : ChangeSpec := { name := "fnLies", fn := fun _ => fun
  | [d1, d2] => { results := [.lit (.bool true)], args := [d1, d2] }
  | _ => none }
def fnLiesRow : OpenClaim := { program := "ytjiiflpoiaaccaagreat", sum := "8e80891e9022aacf87fdb77184fc1dbf6672b6a329d53161f459d410906ca2fb", func := "loop.example/g00894/laws.FnLies", spec := "fnLies", inPlace := ["internal/bytealg.abigen_runtime_cmpstring"], unfollowed := true, recurses := true, apart := false }
def FnLiesSaid : Prop := fnLiesRow.holds Tryz.pinned (OpenSpec.ofChange fnLiesSpec)

/-- ITS FALSE NEIGHBOUR: 'it returns false'. Refute it at one input. -/
def fnLiesWrong : ChangeSpec := { name := "fnLies", fn := fun _ => fun
  | [d1, d2] => { results := [.lit (.bool false)], args := [d1, d2] }
  | _ => none }
def FnLiesWrongFalsely : Prop := fnLiesRow.holds Tryz.pinned (OpenSpec.ofChange fnLiesWrong)

/-- 'laws.FnFaultsTold': WHATEVER THE INPUT: true; the input reads as it did. -/
def fnFaultsToldSpec : ChangeSpec := { name := "fnFaultsTold", fn := fun _ => fun
  | [d1, d2] => { results := [.lit (.bool true)], args := [d1, d2] }
  | _ => none }
def fnFaultsToldRow : OpenClaim := { program := "ytjiiflpoiaaccaagreat", sum := "8e80891e9022aacf87fdb77184fc1dbf6672b6a329d53161f459d410906ca2fb", func := "loop.example/g00894/laws.FnFaultsTold", spec := "fnFaultsTold", inPlace := ["internal/bytealg.abigen_runtime_cmpstring"], unfollowed := true, recurses := true, apart := false }
def FnFaultsToldSaid : Prop := fnFaultsToldRow.holds Tryz.pinned (OpenSpec.ofChange fnFaultsToldSpec)

/-- ITS FALSE NEIGHBOUR: 'it returns false'. Refute it at one input. -/
def fnFaultsToldWrong : ChangeSpec := { name := "fnFaultsTold", fn := fun _ => fun
  | [d1, d2] => { results := [.lit (.bool false)], args := [d1, d2] }
  | _ => none }
def FnFaultsToldWrongFalsely : Prop := fnFaultsToldRow.holds Tryz.pinned (OpenSpec.ofChange fnFaultsToldWrong)

/-- 'laws.FnSets': WHATEVER THE INPUT: true; the input reads as it did. -/
def fnSetsSpec : ChangeSpec := { name := "fnSets", fn := fun _ => fun
  | [d1, d2] => { results := [.lit (.bool true)], args := [d1, d2] }
  | _ => none }
def fnSetsRow : OpenClaim := { program := "ytjiiflpoiaaccaagreat", sum := "8e80891e9022aacf87fdb77184fc1dbf6672b6a329d53161f459d410906ca2fb", func := "loop.example/g00894/laws.FnSets", spec := "fnSets", recurses := true, apart := false }
def FnSetsSaid : Prop := fnSetsRow.holds Tryz.pinned (OpenSpec.ofChange fnSetsSpec)

/-- ITS FALSE NEIGHBOUR: 'it returns false'. Refute it at one input. -/
def fnSetsWrong : ChangeSpec := { name := "fnSets", fn := fun _ => fun
  | [d1, d2] => { results := [.lit (.bool false)], args := [d1, d2] }
  | _ => none }
def FnSetsWrongFalsely : Prop := fnSetsRow.holds Tryz.pinned (OpenSpec.ofChange fnSetsWrong)

/-- 'laws.FnRings': WHATEVER THE INPUT: true; the input reads as it did. -/
def fnRingsSpec : ChangeSpec := { name := "fnRings", fn := fun _ => fun
  | [d1, d2] => { results := [.lit (.bool true)], args := [d1, d2] }
  | _ => none }
def fnRingsRow : OpenClaim := { program := "ytjiiflpoiaaccaagreat", sum := "8e80891e9022aacf87fdb77184fc1dbf6672b6a329d53161f459d410906ca2fb", func := "loop.example/g00894/laws.FnRings", spec := "fnRings", recurses := true, apart := false }
def FnRingsSaid : Prop := fnRingsRow.holds Tryz.pinned (OpenSpec.ofChange fnRingsSpec)

/-- ITS FALSE NEIGHBOUR: 'it returns false'. Refute it at one input. -/
def fnRingsWrong : ChangeSpec := { name := "fnRings", fn := fun _ => fun
  | [d1, d2] => { results := [.lit (.bool false)], args := [d1, d2] }
  | _ => none }
def FnRingsWrongFalsely : Prop := fnRingsRow.holds Tryz.pinned (OpenSpec.ofChange fnRingsWrong)

/-- 'laws.FnJoined': WHATEVER THE INPUT: true; the input reads as it did. -/
def fnJoinedSpec : ChangeSpec := { name := "fnJoined", fn := fun _ => fun
  | [d1, d2] => { results := [.lit (.bool true)], args := [d1, d2] }
  | _ => none }
def fnJoinedRow : OpenClaim := { program := "ytjiiflpoiaaccaagreat", sum := "8e80891e9022aacf87fdb77184fc1dbf6672b6a329d53161f459d410906ca2fb", func := "loop.example/g00894/laws.FnJoined", spec := "fnJoined", recurses := true, apart := false }
def FnJoinedSaid : Prop := fnJoinedRow.holds Tryz.pinned (OpenSpec.ofChange fnJoinedSpec)

/-- ITS FALSE NEIGHBOUR: 'it returns false'. Refute it at one input. -/
def fnJoinedWrong : ChangeSpec := { name := "fnJoined", fn := fun _ => fun
  | [d1, d2] => { results := [.lit (.bool false)], args := [d1, d2] }
  | _ => none }
def FnJoinedWrongFalsely : Prop := fnJoinedRow.holds Tryz.pinned (OpenSpec.ofChange fnJoinedWrong)

/-- 'laws.FnObstacles': WHATEVER THE INPUT: true; the input reads as it did. -/
def fnObstaclesSpec : ChangeSpec := { name := "fnObstacles", fn := fun _ => fun
  | [d1, d2] => { results := [.lit (.bool true)], args := [d1, d2] }
  | _ => none }
def fnObstaclesRow : OpenClaim := { program := "ytjiiflpoiaaccaagreat", sum := "8e80891e9022aacf87fdb77184fc1dbf6672b6a329d53161f459d410906ca2fb", func := "loop.example/g00894/laws.FnObstacles", spec := "fnObstacles", recurses := true, apart := false }
def FnObstaclesSaid : Prop := fnObstaclesRow.holds Tryz.pinned (OpenSpec.ofChange fnObstaclesSpec)

/-- ITS FALSE NEIGHBOUR: 'it returns false'. Refute it at one input. -/
def fnObstaclesWrong : ChangeSpec := { name := "fnObstacles", fn := fun _ => fun
  | [d1, d2] => { results := [.lit (.bool false)], args := [d1, d2] }
  | _ => none }
def FnObstaclesWrongFalsely : Prop := fnObstaclesRow.holds Tryz.pinned (OpenSpec.ofChange fnObstaclesWrong)

/-- 'laws.FnParity': WHATEVER THE INPUT: true; the input reads as it did. -/
def fnParitySpec : ChangeSpec := { name := "fnParity", fn := fun _ => fun
  | [d1, d2] => { results := [.lit (.bool true)], args := [d1, d2] }
  | _ => none }
def fnParityRow : OpenClaim := { program := "ytjiiflpoiaaccaagreat", sum := "8e80891e9022aacf87fdb77184fc1dbf6672b6a329d53161f459d410906ca2fb", func := "loop.example/g00894/laws.FnParity", spec := "fnParity", recurses := true, apart := false }
def FnParitySaid : Prop := fnParityRow.holds Tryz.pinned (OpenSpec.ofChange fnParitySpec)

/-- ITS FALSE NEIGHBOUR: 'it returns false'. Refute it at one input. -/
def fnParityWrong : ChangeSpec := { name := "fnParity", fn := fun _ => fun
  | [d1, d2] => { results := [.lit (.bool false)], args := [d1, d2] }
  | _ => none }
def FnParityWrongFalsely : Prop := fnParityRow.holds Tryz.pinned (OpenSpec.ofChange fnParityWrong)

/- THE SECOND FORM. 'bulk': how many values and letters a reading holds, each counted each time it is reached (what is shared counts as often as it is met; a slice's spare places count too). A statement '..UptoSaid' is the law's where the arguments, and the package variables that the reading takes, are together of bulk at most 1048576: NARROWER than '..Said'. Prove '..Said' where nothing that the law and all that it calls make is longer than what came in: it says more and counts as full. Else prove '..UptoSaid'. A law counts once. -/
mutual
def uptoBulk {H : Type} : DataW H → Nat
  | .lit (.string bytes) => bytes.length + 1
  | .lit _ => 1
  | .nil => 1
  | .ptr d => uptoBulk d + 1
  | .slice elems spare => uptoBulkAll elems + uptoBulkAll spare + 1
  | .agg parts => uptoBulkAll parts + 1
  | .iface _ d => uptoBulk d + 1
  | .map entries => uptoBulkEntries entries + 1
  | .held _ => 1
def uptoBulkAll {H : Type} : List (DataW H) → Nat
  | [] => 0
  | d :: r => uptoBulk d + uptoBulkAll r
def uptoBulkEntries {H : Type} : List (Lit × DataW H) → Nat
  | [] => 0
  | x :: r => uptoBulkEntry x + uptoBulkEntries r
def uptoBulkEntry {H : Type} : Lit × DataW H → Nat
  | (.string bytes, d) => bytes.length + uptoBulk d + 1
  | (_, d) => uptoBulk d + 1
 end
def uptoSmall : (H : Type) → List (DataW H) → Bool := fun _ ds => decide (uptoBulkAll ds ≤ 1048576)
def OpenSpec.upto (s : _root_.Go.ChangeSpec) : _root_.Go.OpenSpec := { _root_.Go.OpenSpec.ofChange s with cond := some uptoSmall }

/-- 'laws.FnExactMendTouch', WHERE WHAT IT READS IS OF BULK AT MOST 1048576: true; the input reads as it did. -/
def fnExactMendTouchUptoRow : OpenClaim := { program := "ytjiiflpoiaaccaagreat", sum := "8e80891e9022aacf87fdb77184fc1dbf6672b6a329d53161f459d410906ca2fb", func := "loop.example/g00894/laws.FnExactMendTouch", spec := "fnExactMendTouch", recurses := true, apart := false, narrowed := true }
def FnExactMendTouchUptoSaid : Prop := fnExactMendTouchUptoRow.holds Tryz.pinned (OpenSpec.upto fnExactMendTouchSpec)

/-- 'laws.FnAgree', WHERE WHAT IT READS IS OF BULK AT MOST 1048576: true; the input reads as it did. -/
def fnAgreeUptoRow : OpenClaim := { program := "ytjiiflpoiaaccaagreat", sum := "8e80891e9022aacf87fdb77184fc1dbf6672b6a329d53161f459d410906ca2fb", func := "loop.example/g00894/laws.FnAgree", spec := "fnAgree", inPlace := ["internal/bytealg.abigen_runtime_cmpstring", "internal/abi.NoEscape", "internal/bytealg.MakeNoZero"], unfollowed := true, recurses := true, apart := false, narrowed := true }
def FnAgreeUptoSaid : Prop := fnAgreeUptoRow.holds Tryz.pinned (OpenSpec.upto fnAgreeSpec)

/-- 'laws.FnExactStudyOf', WHERE WHAT IT READS IS OF BULK AT MOST 1048576: true; the input reads as it did. -/
def fnExactStudyOfUptoRow : OpenClaim := { program := "ytjiiflpoiaaccaagreat", sum := "8e80891e9022aacf87fdb77184fc1dbf6672b6a329d53161f459d410906ca2fb", func := "loop.example/g00894/laws.FnExactStudyOf", spec := "fnExactStudyOf", inPlace := ["internal/abi.NoEscape", "internal/bytealg.MakeNoZero"], recurses := true, apart := false, narrowed := true }
def FnExactStudyOfUptoSaid : Prop := fnExactStudyOfUptoRow.holds Tryz.pinned (OpenSpec.upto fnExactStudyOfSpec)

/-- 'laws.FnProofs', WHERE WHAT IT READS IS OF BULK AT MOST 1048576: true; the input reads as it did. -/
def fnProofsUptoRow : OpenClaim := { program := "ytjiiflpoiaaccaagreat", sum := "8e80891e9022aacf87fdb77184fc1dbf6672b6a329d53161f459d410906ca2fb", func := "loop.example/g00894/laws.FnProofs", spec := "fnProofs", inPlace := ["internal/bytealg.abigen_runtime_cmpstring"], unfollowed := true, recurses := true, apart := false, narrowed := true }
def FnProofsUptoSaid : Prop := fnProofsUptoRow.holds Tryz.pinned (OpenSpec.upto fnProofsSpec)

/-- 'laws.FnLies', WHERE WHAT IT READS IS OF BULK AT MOST 1048576: true; the input reads as it did. -/
def fnLiesUptoRow : OpenClaim := { program := "ytjiiflpoiaaccaagreat", sum := "8e80891e9022aacf87fdb77184fc1dbf6672b6a329d53161f459d410906ca2fb", func := "loop.example/g00894/laws.FnLies", spec := "fnLies", inPlace := ["internal/bytealg.abigen_runtime_cmpstring"], unfollowed := true, recurses := true, apart := false, narrowed := true }
def FnLiesUptoSaid : Prop := fnLiesUptoRow.holds Tryz.pinned (OpenSpec.upto fnLiesSpec)

/-- 'laws.FnFaultsTold', WHERE WHAT IT READS IS OF BULK AT MOST 1048576: true; the input reads as it did. -/
def fnFaultsToldUptoRow : OpenClaim := { program := "ytjiiflpoiaaccaagreat", sum := "8e80891e9022aacf87fdb77184fc1dbf6672b6a329d53161f459d410906ca2fb", func := "loop.example/g00894/laws.FnFaultsTold", spec := "fnFaultsTold", inPlace := ["internal/bytealg.abigen_runtime_cmpstring"], unfollowed := true, recurses := true, apart := false, narrowed := true }
def FnFaultsToldUptoSaid : Prop := fnFaultsToldUptoRow.holds Tryz.pinned (OpenSpec.upto fnFaultsToldSpec)

/-- 'laws.FnSets', WHERE WHAT IT READS IS OF BULK AT MOST 1048576: true; the input reads as it did. -/
def fnSetsUptoRow : OpenClaim := { program := "ytjiiflpoiaaccaagreat", sum := "8e80891e9022aacf87fdb77184fc1dbf6672b6a329d53161f459d410906ca2fb", func := "loop.example/g00894/laws.FnSets", spec := "fnSets", recurses := true, apart := false, narrowed := true }
def FnSetsUptoSaid : Prop := fnSetsUptoRow.holds Tryz.pinned (OpenSpec.upto fnSetsSpec)

/-- 'laws.FnRings', WHERE WHAT IT READS IS OF BULK AT MOST 1048576: true; the input reads as it did. -/
def fnRingsUptoRow : OpenClaim := { program := "ytjiiflpoiaaccaagreat", sum := "8e80891e9022aacf87fdb77184fc1dbf6672b6a329d53161f459d410906ca2fb", func := "loop.example/g00894/laws.FnRings", spec := "fnRings", recurses := true, apart := false, narrowed := true }
def FnRingsUptoSaid : Prop := fnRingsUptoRow.holds Tryz.pinned (OpenSpec.upto fnRingsSpec)

/-- 'laws.FnJoined', WHERE WHAT IT READS IS OF BULK AT MOST 1048576: true; the input reads as it did. -/
def fnJoinedUptoRow : OpenClaim := { program := "ytjiiflpoiaaccaagreat", sum := "8e80891e9022aacf87fdb77184fc1dbf6672b6a329d53161f459d410906ca2fb", func := "loop.example/g00894/laws.FnJoined", spec := "fnJoined", recurses := true, apart := false, narrowed := true }
def FnJoinedUptoSaid : Prop := fnJoinedUptoRow.holds Tryz.pinned (OpenSpec.upto fnJoinedSpec)

/-- 'laws.FnObstacles', WHERE WHAT IT READS IS OF BULK AT MOST 1048576: true; the input reads as it did. -/
def fnObstaclesUptoRow : OpenClaim := { program := "ytjiiflpoiaaccaagreat", sum := "8e80891e9022aacf87fdb77184fc1dbf6672b6a329d53161f459d410906ca2fb", func := "loop.example/g00894/laws.FnObstacles", spec := "fnObstacles", recurses := true, apart := false, narrowed := true }
def FnObstaclesUptoSaid : Prop := fnObstaclesUptoRow.holds Tryz.pinned (OpenSpec.upto fnObstaclesSpec)

/-- 'laws.FnParity', WHERE WHAT IT READS IS OF BULK AT MOST 1048576: true; the input reads as it did. -/
def fnParityUptoRow : OpenClaim := { program := "ytjiiflpoiaaccaagreat", sum := "8e80891e9022aacf87fdb77184fc1dbf6672b6a329d53161f459d410906ca2fb", func := "loop.example/g00894/laws.FnParity", spec := "fnParity", recurses := true, apart := false, narrowed := true }
def FnParityUptoSaid : Prop := fnParityUptoRow.holds Tryz.pinned (OpenSpec.upto fnParitySpec)

end Rows
end Go.Proofs.YtjiiflpoiaaccaaGreat

/-
  No cell of these rows narrows 'for every input' (looked for: loops, veiled, ifaces, maps, wideKeys, modest, calm, conditions, laid).
  DERIVED. THE GIVEN ROWS OF THIS SEAT. 4 by the template 'for every input the law returns true; each argument reads behind the call as it read before'; 0 by the template 'total and deterministic' (their statements: YtpkpahadjdkafaaTotals.lean).
  GIVEN WITH THE SEED: the statements are not yours to turn. If you find one false, say at which input.
  Laid BY PROGRAM, IN A SANDBOX (cutbox-rows.mjs): the forced cells as the released guide's own fill.sh prints them over the translation 08fa1174031805a6… (all of the seat's roots in one cut). By AI agents, Wed Nov 11 2026. No macro, syntax, notation, axiom, sorry.
-/
import Derived.Test.YtpkpahadjdkafaaChecked
import GoSem.Claim
import GoSem.ClaimJoined
import GoSem.ClaimMapViews
import Derived.JoinedTies
import Derived.KernelRfl
namespace Go.Proofs.Ytpkpahadjdkafaa
/- THE CELL 'sum', in the pinned program and in every row, IS THE sha256 OF THE DUMP (.gsa) THAT YtpkpahadjdkafaaProg.lean LOADS. Nothing in Lean hashes anything: it is a label: what it is worth is what the hold of that sum in a sandbox is worth. -/
noncomputable def Try.pinned : Pinned := { name := "ytpkpahadjdkafaa", sum := "08fa1174031805a6a728552218e2e9ff714798c0758853bbdf9ddc48b489f789", checked := Try.checked }
namespace Rows
def none {H : Type} : Left H := { results := [], args := [] }

/-- 'laws.FnExactItemOf': WHATEVER THE INPUT: true; the input reads as it did. -/
def fnExactItemOfSpec : ChangeSpec := { name := "fnExactItemOf", fn := fun _ => fun
  | [d1, d2, d3, d4] => { results := [.lit (.bool true)], args := [d1, d2, d3, d4] }
  | _ => none }
def fnExactItemOfRow : OpenClaim := { program := "ytpkpahadjdkafaa", sum := "08fa1174031805a6a728552218e2e9ff714798c0758853bbdf9ddc48b489f789", func := "loop.example/g00894/laws.FnExactItemOf", spec := "fnExactItemOf", apart := false }
def FnExactItemOfSaid : Prop := fnExactItemOfRow.holds Try.pinned (OpenSpec.ofChange fnExactItemOfSpec)

/-- ITS FALSE NEIGHBOUR: 'it returns false'. Refute it at one input. -/
def fnExactItemOfWrong : ChangeSpec := { name := "fnExactItemOf", fn := fun _ => fun
  | [d1, d2, d3, d4] => { results := [.lit (.bool false)], args := [d1, d2, d3, d4] }
  | _ => none }
def FnExactItemOfWrongFalsely : Prop := fnExactItemOfRow.holds Try.pinned (OpenSpec.ofChange fnExactItemOfWrong)

/-- 'laws.FnExactJudgeRecord': WHATEVER THE INPUT: true; the input reads as it did. -/
def fnExactJudgeRecordSpec : ChangeSpec := { name := "fnExactJudgeRecord", fn := fun _ => fun
  | [d1, d2, d3, d4] => { results := [.lit (.bool true)], args := [d1, d2, d3, d4] }
  | _ => none }
def fnExactJudgeRecordRow : OpenClaim := { program := "ytpkpahadjdkafaa", sum := "08fa1174031805a6a728552218e2e9ff714798c0758853bbdf9ddc48b489f789", func := "loop.example/g00894/laws.FnExactJudgeRecord", spec := "fnExactJudgeRecord", apart := false }
def FnExactJudgeRecordSaid : Prop := fnExactJudgeRecordRow.holds Try.pinned (OpenSpec.ofChange fnExactJudgeRecordSpec)

/-- ITS FALSE NEIGHBOUR: 'it returns false'. Refute it at one input. -/
def fnExactJudgeRecordWrong : ChangeSpec := { name := "fnExactJudgeRecord", fn := fun _ => fun
  | [d1, d2, d3, d4] => { results := [.lit (.bool false)], args := [d1, d2, d3, d4] }
  | _ => none }
def FnExactJudgeRecordWrongFalsely : Prop := fnExactJudgeRecordRow.holds Try.pinned (OpenSpec.ofChange fnExactJudgeRecordWrong)

/-- 'laws.FnExactKindOf': WHATEVER THE INPUT: true; the input reads as it did. -/
def fnExactKindOfSpec : ChangeSpec := { name := "fnExactKindOf", fn := fun _ => fun
  | [d] => { results := [.lit (.bool true)], args := [d] }
  | _ => none }
def fnExactKindOfRow : OpenClaim := { program := "ytpkpahadjdkafaa", sum := "08fa1174031805a6a728552218e2e9ff714798c0758853bbdf9ddc48b489f789", func := "loop.example/g00894/laws.FnExactKindOf", spec := "fnExactKindOf", inPlace := ["internal/abi.NoEscape", "internal/bytealg.MakeNoZero"], unfollowed := true, recurses := true, apart := false }
def FnExactKindOfSaid : Prop := fnExactKindOfRow.holds Try.pinned (OpenSpec.ofChange fnExactKindOfSpec)

/-- ITS FALSE NEIGHBOUR: 'it returns false'. Refute it at one input. -/
def fnExactKindOfWrong : ChangeSpec := { name := "fnExactKindOf", fn := fun _ => fun
  | [d] => { results := [.lit (.bool false)], args := [d] }
  | _ => none }
def FnExactKindOfWrongFalsely : Prop := fnExactKindOfRow.holds Try.pinned (OpenSpec.ofChange fnExactKindOfWrong)

/-- 'laws.FnKinds': WHATEVER THE INPUT: true; the input reads as it did. -/
def fnKindsSpec : ChangeSpec := { name := "fnKinds", fn := fun _ => fun
  | [d1, d2] => { results := [.lit (.bool true)], args := [d1, d2] }
  | _ => none }
def fnKindsRow : OpenClaim := { program := "ytpkpahadjdkafaa", sum := "08fa1174031805a6a728552218e2e9ff714798c0758853bbdf9ddc48b489f789", func := "loop.example/g00894/laws.FnKinds", spec := "fnKinds", inPlace := ["internal/abi.NoEscape", "internal/bytealg.MakeNoZero"], unfollowed := true, recurses := true, apart := false }
def FnKindsSaid : Prop := fnKindsRow.holds Try.pinned (OpenSpec.ofChange fnKindsSpec)

/-- ITS FALSE NEIGHBOUR: 'it returns false'. Refute it at one input. -/
def fnKindsWrong : ChangeSpec := { name := "fnKinds", fn := fun _ => fun
  | [d1, d2] => { results := [.lit (.bool false)], args := [d1, d2] }
  | _ => none }
def FnKindsWrongFalsely : Prop := fnKindsRow.holds Try.pinned (OpenSpec.ofChange fnKindsWrong)

/- THE SECOND FORM. 'bulk': how many values and letters a reading holds, each counted each time it is reached (what is shared counts as often as it is met; a slice's spare places count too). A statement '..UptoSaid' is the law's where the arguments, and the package variables that the reading takes, are together of bulk at most 1048576: NARROWER than '..Said'. Prove '..Said' where nothing that the law and all that it calls make is longer than what came in: it says more and counts as full. Else prove '..UptoSaid'. A law counts once. -/
mutual
def uptoBulk {H : Type} : DataW H → Nat
  | .lit (.string bytes) => bytes.length + 1
  | .lit _ => 1
  | .nil => 1
  | .ptr d => uptoBulk d + 1
  | .slice elems spare => uptoBulkAll elems + uptoBulkAll spare + 1
  | .agg parts => uptoBulkAll parts + 1
  | .iface _ d => uptoBulk d + 1
  | .map entries => uptoBulkEntries entries + 1
  | .held _ => 1
def uptoBulkAll {H : Type} : List (DataW H) → Nat
  | [] => 0
  | d :: r => uptoBulk d + uptoBulkAll r
def uptoBulkEntries {H : Type} : List (Lit × DataW H) → Nat
  | [] => 0
  | x :: r => uptoBulkEntry x + uptoBulkEntries r
def uptoBulkEntry {H : Type} : Lit × DataW H → Nat
  | (.string bytes, d) => bytes.length + uptoBulk d + 1
  | (_, d) => uptoBulk d + 1
 end
def uptoSmall : (H : Type) → List (DataW H) → Bool := fun _ ds => decide (uptoBulkAll ds ≤ 1048576)
def OpenSpec.upto (s : _root_.Go.ChangeSpec) : _root_.Go.OpenSpec := { _root_.Go.OpenSpec.ofChange s with cond := some uptoSmall }

/-- 'laws.FnExactItemOf', WHERE WHAT IT READS IS OF BULK AT MOST 1048576: true; the input reads as it did. -/
def fnExactItemOfUptoRow : OpenClaim := { program := "ytpkpahadjdkafaa", sum := "08fa1174031805a6a728552218e2e9ff714798c0758853bbdf9ddc48b489f789", func := "loop.example/g00894/laws.FnExactItemOf", spec := "fnExactItemOf", apart := false, narrowed := true }
def FnExactItemOfUptoSaid : Prop := fnExactItemOfUptoRow.holds Try.pinned (OpenSpec.upto fnExactItemOfSpec)

/-- 'laws.FnExactJudgeRecord', WHERE WHAT IT READS IS OF BULK AT MOST 1048576: true; the input reads as it did. -/
def fnExactJudgeRecordUptoRow : OpenClaim := { program := "ytpkpahadjdkafaa", sum := "08fa1174031805a6a728552218e2e9ff714798c0758853bbdf9ddc48b489f789", func := "loop.example/g00894/laws.FnExactJudgeRecord", spec := "fnExactJudgeRecord", apart := false, narrowed := true }
def FnExactJudgeRecordUptoSaid : Prop := fnExactJudgeRecordUptoRow.holds Try.pinned (OpenSpec.upto fnExactJudgeRecordSpec)

/-- 'laws.FnExactKindOf', WHERE WHAT IT READS IS OF BULK AT MOST 1048576: true; the input reads as it did. -/
def fnExactKindOfUptoRow : OpenClaim := { program := "ytpkpahadjdkafaa", sum := "08fa1174031805a6a728552218e2e9ff714798c0758853bbdf9ddc48b489f789", func := "loop.example/g00894/laws.FnExactKindOf", spec := "fnExactKindOf", inPlace := ["internal/abi.NoEscape", "internal/bytealg.MakeNoZero"], unfollowed := true, recurses := true, apart := false, narrowed := true }
def FnExactKindOfUptoSaid : Prop := fnExactKindOfUptoRow.holds Try.pinned (OpenSpec.upto fnExactKindOfSpec)

/-- 'laws.FnKinds', WHERE WHAT IT READS IS OF BULK AT MOST 1048576: true; the input reads as it did. -/
def fnKindsUptoRow : OpenClaim := { program := "ytpkpahadjdkafaa", sum := "08fa1174031805a6a728552218e2e9ff714798c0758853bbdf9ddc48b489f789", func := "loop.example/g00894/laws.FnKinds", spec := "fnKinds", inPlace := ["internal/abi.NoEscape", "internal/bytealg.MakeNoZero"], unfollowed := true, recurses := true, apart := false, narrowed := true }
def FnKindsUptoSaid : Prop := fnKindsUptoRow.holds Try.pinned (OpenSpec.upto fnKindsSpec)

end Rows
end Go.Proofs.Ytpkpahadjdkafaa

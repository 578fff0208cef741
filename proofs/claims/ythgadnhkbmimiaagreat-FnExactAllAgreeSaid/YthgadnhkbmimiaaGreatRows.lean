/-
  No cell of these rows narrows 'for every input' (looked for: loops, veiled, ifaces, maps, wideKeys, modest, calm, conditions, laid).
  DERIVED. THE GIVEN ROWS OF THIS SEAT. 5 by the template 'for every input the law returns true; each argument reads behind the call as it read before'; 0 by the template 'total and deterministic' (their statements: YthgadnhkbmimiaaGreatTotals.lean).
  GIVEN WITH THE SEED: the statements are not yours to turn. If you find one false, say at which input.
  Laid BY PROGRAM, IN A SANDBOX (cutbox-rows.mjs): the forced cells as the released guide's own fill.sh prints them over the translation c7721238e335f1a9… (all of the seat's roots in one cut). By AI agents, Wed Nov 11 2026. No macro, syntax, notation, axiom, sorry.
-/
import Derived.Test.YthgadnhkbmimiaaGreatChecked
import GoSem.Claim
import GoSem.ClaimJoined
import GoSem.ClaimMapViews
import Derived.JoinedTies
import Derived.KernelRfl
namespace Go.Proofs.YthgadnhkbmimiaaGreat
/- THE CELL 'sum', in the pinned program and in every row, IS THE sha256 OF THE DUMP (.gsa) THAT YthgadnhkbmimiaaGreatProg.lean LOADS. Nothing in Lean hashes anything: it is a label: what it is worth is what the hold of that sum in a sandbox is worth. -/
noncomputable def Tryz.pinned : Pinned := { name := "ythgadnhkbmimiaagreat", sum := "c7721238e335f1a924af92a1b822833ec712c352473618ed66c754e42e060900", checked := Tryz.checked }
namespace Rows
def none {H : Type} : Left H := { results := [], args := [] }

/-- 'laws.FnExactMendTouch': WHATEVER THE INPUT: true; the input reads as it did. -/
def fnExactMendTouchSpec : ChangeSpec := { name := "fnExactMendTouch", fn := fun _ => fun
  | [d1, d2, d3, d4, d5, d6] => { results := [.lit (.bool true)], args := [d1, d2, d3, d4, d5, d6] }
  | _ => none }
def fnExactMendTouchRow : OpenClaim := { program := "ythgadnhkbmimiaagreat", sum := "c7721238e335f1a924af92a1b822833ec712c352473618ed66c754e42e060900", func := "loop.example/g00894/laws.FnExactMendTouch", spec := "fnExactMendTouch", recurses := true, apart := false }
def FnExactMendTouchSaid : Prop := fnExactMendTouchRow.holds Tryz.pinned (OpenSpec.ofChange fnExactMendTouchSpec)

/-- ITS FALSE NEIGHBOUR: 'it returns false'. Refute it at one input. -/
def fnExactMendTouchWrong : ChangeSpec := { name := "fnExactMendTouch", fn := fun _ => fun
  | [d1, d2, d3, d4, d5, d6] => { results := [.lit (.bool false)], args := [d1, d2, d3, d4, d5, d6] }
  | _ => none }
def FnExactMendTouchWrongFalsely : Prop := fnExactMendTouchRow.holds Tryz.pinned (OpenSpec.ofChange fnExactMendTouchWrong)

/-- 'laws.FnExactAllAgree': WHATEVER THE INPUT: true; the input reads as it did. -/
def fnExactAllAgreeSpec : ChangeSpec := { name := "fnExactAllAgree", fn := fun _ => fun
  | [d1, d2, d3] => { results := [.lit (.bool true)], args := [d1, d2, d3] }
  | _ => none }
def fnExactAllAgreeRow : OpenClaim := { program := "ythgadnhkbmimiaagreat", sum := "c7721238e335f1a924af92a1b822833ec712c352473618ed66c754e42e060900", func := "loop.example/g00894/laws.FnExactAllAgree", spec := "fnExactAllAgree", inPlace := ["internal/bytealg.abigen_runtime_cmpstring"], unfollowed := true, recurses := true, apart := false }
def FnExactAllAgreeSaid : Prop := fnExactAllAgreeRow.holds Tryz.pinned (OpenSpec.ofChange fnExactAllAgreeSpec)

/-- ITS FALSE NEIGHBOUR: 'it returns false'. Refute it at one input. -/
def fnExactAllAgreeWrong : ChangeSpec := { name := "fnExactAllAgree", fn := fun _ => fun
  | [d1, d2, d3] => { results := [.lit (.bool false)], args := [d1, d2, d3] }
  | _ => none }
def FnExactAllAgreeWrongFalsely : Prop := fnExactAllAgreeRow.holds Tryz.pinned (OpenSpec.ofChange fnExactAllAgreeWrong)

/-- 'laws.FnExactAddSet': WHATEVER THE INPUT: true; the input reads as it did. -/
def fnExactAddSetSpec : ChangeSpec := { name := "fnExactAddSet", fn := fun _ => fun
  | [d1, d2, d3, d4] => { results := [.lit (.bool true)], args := [d1, d2, d3, d4] }
  | _ => none }
def fnExactAddSetRow : OpenClaim := { program := "ythgadnhkbmimiaagreat", sum := "c7721238e335f1a924af92a1b822833ec712c352473618ed66c754e42e060900", func := "loop.example/g00894/laws.FnExactAddSet", spec := "fnExactAddSet", recurses := true, apart := false }
def FnExactAddSetSaid : Prop := fnExactAddSetRow.holds Tryz.pinned (OpenSpec.ofChange fnExactAddSetSpec)

/-- ITS FALSE NEIGHBOUR: 'it returns false'. Refute it at one input. -/
def fnExactAddSetWrong : ChangeSpec := { name := "fnExactAddSet", fn := fun _ => fun
  | [d1, d2, d3, d4] => { results := [.lit (.bool false)], args := [d1, d2, d3, d4] }
  | _ => none }
def FnExactAddSetWrongFalsely : Prop := fnExactAddSetRow.holds Tryz.pinned (OpenSpec.ofChange fnExactAddSetWrong)

/-- 'laws.FnExactRingsIn': WHATEVER THE INPUT: true; the input reads as it did. -/
def fnExactRingsInSpec : ChangeSpec := { name := "fnExactRingsIn", fn := fun _ => fun
  | [d1, d2, d3] => { results := [.lit (.bool true)], args := [d1, d2, d3] }
  | _ => none }
def fnExactRingsInRow : OpenClaim := { program := "ythgadnhkbmimiaagreat", sum := "c7721238e335f1a924af92a1b822833ec712c352473618ed66c754e42e060900", func := "loop.example/g00894/laws.FnExactRingsIn", spec := "fnExactRingsIn", recurses := true, apart := false }
def FnExactRingsInSaid : Prop := fnExactRingsInRow.holds Tryz.pinned (OpenSpec.ofChange fnExactRingsInSpec)

/-- ITS FALSE NEIGHBOUR: 'it returns false'. Refute it at one input. -/
def fnExactRingsInWrong : ChangeSpec := { name := "fnExactRingsIn", fn := fun _ => fun
  | [d1, d2, d3] => { results := [.lit (.bool false)], args := [d1, d2, d3] }
  | _ => none }
def FnExactRingsInWrongFalsely : Prop := fnExactRingsInRow.holds Tryz.pinned (OpenSpec.ofChange fnExactRingsInWrong)

/-- 'laws.FnExactJoinRings': WHATEVER THE INPUT: true; the input reads as it did. -/
def fnExactJoinRingsSpec : ChangeSpec := { name := "fnExactJoinRings", fn := fun _ => fun
  | [d1, d2] => { results := [.lit (.bool true)], args := [d1, d2] }
  | _ => none }
def fnExactJoinRingsRow : OpenClaim := { program := "ythgadnhkbmimiaagreat", sum := "c7721238e335f1a924af92a1b822833ec712c352473618ed66c754e42e060900", func := "loop.example/g00894/laws.FnExactJoinRings", spec := "fnExactJoinRings", recurses := true, apart := false }
def FnExactJoinRingsSaid : Prop := fnExactJoinRingsRow.holds Tryz.pinned (OpenSpec.ofChange fnExactJoinRingsSpec)

/-- ITS FALSE NEIGHBOUR: 'it returns false'. Refute it at one input. -/
def fnExactJoinRingsWrong : ChangeSpec := { name := "fnExactJoinRings", fn := fun _ => fun
  | [d1, d2] => { results := [.lit (.bool false)], args := [d1, d2] }
  | _ => none }
def FnExactJoinRingsWrongFalsely : Prop := fnExactJoinRingsRow.holds Tryz.pinned (OpenSpec.ofChange fnExactJoinRingsWrong)

/- THE SECOND FORM. 'bulk': how many values and letters a reading holds, each counted each time it is reached (what is shared counts as often as it is met; a slice's spare places count too). A statement '..UptoSaid' is the law's where the arguments, and the package variables that the reading takes, are together of bulk at most 1048576: NARROWER than '..Said'. Prove '..Said' where nothing that the law and all that it calls make is longer than what came in: it says more and counts as full. Else prove '..UptoSaid'. A law counts once. -/
mutual
def uptoBulk {H : Type} : DataW H → Nat
  | .lit (.string bytes) => bytes.length + 1
  | .lit _ => 1
  | .nil => 1
  | .ptr d => uptoBulk d + 1
  | .slice elems spare => uptoBulkAll elems + uptoBulkAll spare + 1
  | .agg parts => uptoBulkAll parts + 1
  | .iface _ d => uptoBulk d + 1
  | .map entries => uptoBulkEntries entries + 1
  | .held _ => 1
def uptoBulkAll {H : Type} : List (DataW H) → Nat
  | [] => 0
  | d :: r => uptoBulk d + uptoBulkAll r
def uptoBulkEntries {H : Type} : List (Lit × DataW H) → Nat
  | [] => 0
  | x :: r => uptoBulkEntry x + uptoBulkEntries r
def uptoBulkEntry {H : Type} : Lit × DataW H → Nat
  | (.string bytes, d) => bytes.length + uptoBulk d + 1
  | (_, d) => uptoBulk d + 1
 end
def uptoSmall : (H : Type) → List (DataW H) → Bool := fun _ ds => decide (uptoBulkAll ds ≤ 1048576)
def OpenSpec.upto (s : _root_.Go.ChangeSpec) : _root_.Go.OpenSpec := { _root_.Go.OpenSpec.ofChange s with cond := some uptoSmall }

/-- 'laws.FnExactMendTouch', WHERE WHAT IT READS IS OF BULK AT MOST 1048576: true; the input reads as it did. -/
def fnExactMendTouchUptoRow : OpenClaim := { program := "ythgadnhkbmimiaagreat", sum := "c7721238e335f1a924af92a1b822833ec712c352473618ed66c754e42e060900", func := "loop.example/g00894/laws.FnExactMendTouch", spec := "fnExactMendTouch", recurses := true, apart := false, narrowed := true }
def FnExactMendTouchUptoSaid : Prop := fnExactMendTouchUptoRow.holds Tryz.pinned (OpenSpec.upto fnExactMendTouchSpec)

/-- 'laws.FnExactAllAgree', WHERE WHAT IT READS IS OF BULK AT MOST 1048576: true; the input reads as it did. -/
def fnExactAllAgreeUptoRow : OpenClaim := { program := "ythgadnhkbmimiaagreat", sum := "c7721238e335f1a924af92a1b822833ec712c352473618ed66c754e42e060900", func := "loop.example/g00894/laws.FnExactAllAgree", spec := "fnExactAllAgree", inPlace := ["internal/bytealg.abigen_runtime_cmpstring"], unfollowed := true, recurses := true, apart := false, narrowed := true }
def FnExactAllAgreeUptoSaid : Prop := fnExactAllAgreeUptoRow.holds Tryz.pinned (OpenSpec.upto fnExactAllAgreeSpec)

/-- 'laws.FnExactAddSet', WHERE WHAT IT READS IS OF BULK AT MOST 1048576: true; the input reads as it did. -/
def fnExactAddSetUptoRow : OpenClaim := { program := "ythgadnhkbmimiaagreat", sum := "c7721238e335f1a924af92a1b822833ec712c352473618ed66c754e42e060900", func := "loop.example/g00894/laws.FnExactAddSet", spec := "fnExactAddSet", recurses := true, apart := false, narrowed := true }
def FnExactAddSetUptoSaid : Prop := fnExactAddSetUptoRow.holds Tryz.pinned (OpenSpec.upto fnExactAddSetSpec)

/-- 'laws.FnExactRingsIn', WHERE WHAT IT READS IS OF BULK AT MOST 1048576: true; the input reads as it did. -/
def fnExactRingsInUptoRow : OpenClaim := { program := "ythgadnhkbmimiaagreat", sum := "c7721238e335f1a924af92a1b822833ec712c352473618ed66c754e42e060900", func := "loop.example/g00894/laws.FnExactRingsIn", spec := "fnExactRingsIn", recurses := true, apart := false, narrowed := true }
def FnExactRingsInUptoSaid : Prop := fnExactRingsInUptoRow.holds Tryz.pinned (OpenSpec.upto fnExactRingsInSpec)

/-- 'laws.FnExactJoinRings', WHERE WHAT IT READS IS OF BULK AT MOST 1048576: true; the input reads as it did. -/
def fnExactJoinRingsUptoRow : OpenClaim := { program := "ythgadnhkbmimiaagreat", sum := "c7721238e335f1a924af92a1b822833ec712c352473618ed66c754e42e060900", func := "loop.example/g00894/laws.FnExactJoinRings", spec := "fnExactJoinRings", recurses := true, apart := false, narrowed := true }
def FnExactJoinRingsUptoSaid : Prop := fnExactJoinRingsUptoRow.holds Tryz.pinned (OpenSpec.upto fnExactJoinRingsSpec)

end Rows
end Go.Proofs.YthgadnhkbmimiaaGreat

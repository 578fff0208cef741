/-
  No cell of these rows narrows 'for every input' (looked for: loops, veiled, ifaces, maps, wideKeys, modest, calm, conditions, laid).
  DERIVED. THE GIVEN ROWS OF THIS SEAT. 6 by the template 'for every input the law returns true; each argument reads behind the call as it read before'; 0 by the template 'total and deterministic' (their statements: YtaejpocclfpdcaaTotals.lean).
  GIVEN WITH THE SEED: the statements are not yours to turn. If you find one false, say at which input.
  Laid BY PROGRAM, IN A SANDBOX (cutbox-rows.mjs): the forced cells as the released guide's own fill.sh prints them over the translation e8efbe691025beb4… (all of the seat's roots in one cut). By AI agents, Wed Nov 11 2026. No macro, syntax, notation, axiom, sorry.
-/
import Derived.Test.YtaejpocclfpdcaaChecked
import GoSem.Claim
import GoSem.ClaimJoined
import GoSem.ClaimMapViews
import Derived.JoinedTies
import Derived.KernelRfl
namespace Go.Proofs.Ytaejpocclfpdcaa
/- THE CELL 'sum', in the pinned program and in every row, IS THE sha256 OF THE DUMP (.gsa) THAT YtaejpocclfpdcaaProg.lean LOADS. Nothing in Lean hashes anything: it is a label: what it is worth is what the hold of that sum in a sandbox is worth. -/
noncomputable def Try.pinned : Pinned := { name := "ytaejpocclfpdcaa", sum := "e8efbe691025beb465d4483a0cf44de698028d2903e1f17dc8c686e0dd8368e5", checked := Try.checked }
namespace Rows
def none {H : Type} : Left H := { results := [], args := [] }

/-- 'laws.FnExactGoodEvening': WHATEVER THE INPUT: true; the input reads as it did. -/
def fnExactGoodEveningSpec : ChangeSpec := { name := "fnExactGoodEvening", fn := fun _ => fun
  | [d] => { results := [.lit (.bool true)], args := [d] }
  | _ => none }
def fnExactGoodEveningRow : OpenClaim := { program := "ytaejpocclfpdcaa", sum := "e8efbe691025beb465d4483a0cf44de698028d2903e1f17dc8c686e0dd8368e5", func := "loop.example/g00894/laws.FnExactGoodEvening", spec := "fnExactGoodEvening", apart := false }
def FnExactGoodEveningSaid : Prop := fnExactGoodEveningRow.holds Try.pinned (OpenSpec.ofChange fnExactGoodEveningSpec)

/-- ITS FALSE NEIGHBOUR: 'it returns false'. Refute it at one input. -/
def fnExactGoodEveningWrong : ChangeSpec := { name := "fnExactGoodEvening", fn := fun _ => fun
  | [d] => { results := [.lit (.bool false)], args := [d] }
  | _ => none }
def FnExactGoodEveningWrongFalsely : Prop := fnExactGoodEveningRow.holds Try.pinned (OpenSpec.ofChange fnExactGoodEveningWrong)

/-- 'laws.FnExactGoodItem': WHATEVER THE INPUT: true; the input reads as it did. -/
def fnExactGoodItemSpec : ChangeSpec := { name := "fnExactGoodItem", fn := fun _ => fun
  | [d] => { results := [.lit (.bool true)], args := [d] }
  | _ => none }
def fnExactGoodItemRow : OpenClaim := { program := "ytaejpocclfpdcaa", sum := "e8efbe691025beb465d4483a0cf44de698028d2903e1f17dc8c686e0dd8368e5", func := "loop.example/g00894/laws.FnExactGoodItem", spec := "fnExactGoodItem", apart := false }
def FnExactGoodItemSaid : Prop := fnExactGoodItemRow.holds Try.pinned (OpenSpec.ofChange fnExactGoodItemSpec)

/-- ITS FALSE NEIGHBOUR: 'it returns false'. Refute it at one input. -/
def fnExactGoodItemWrong : ChangeSpec := { name := "fnExactGoodItem", fn := fun _ => fun
  | [d] => { results := [.lit (.bool false)], args := [d] }
  | _ => none }
def FnExactGoodItemWrongFalsely : Prop := fnExactGoodItemRow.holds Try.pinned (OpenSpec.ofChange fnExactGoodItemWrong)

/-- 'laws.FnExactTimeOf': WHATEVER THE INPUT: true; the input reads as it did. -/
def fnExactTimeOfSpec : ChangeSpec := { name := "fnExactTimeOf", fn := fun _ => fun
  | [d1, d2] => { results := [.lit (.bool true)], args := [d1, d2] }
  | _ => none }
def fnExactTimeOfRow : OpenClaim := { program := "ytaejpocclfpdcaa", sum := "e8efbe691025beb465d4483a0cf44de698028d2903e1f17dc8c686e0dd8368e5", func := "loop.example/g00894/laws.FnExactTimeOf", spec := "fnExactTimeOf", apart := false }
def FnExactTimeOfSaid : Prop := fnExactTimeOfRow.holds Try.pinned (OpenSpec.ofChange fnExactTimeOfSpec)

/-- ITS FALSE NEIGHBOUR: 'it returns false'. Refute it at one input. -/
def fnExactTimeOfWrong : ChangeSpec := { name := "fnExactTimeOf", fn := fun _ => fun
  | [d1, d2] => { results := [.lit (.bool false)], args := [d1, d2] }
  | _ => none }
def FnExactTimeOfWrongFalsely : Prop := fnExactTimeOfRow.holds Try.pinned (OpenSpec.ofChange fnExactTimeOfWrong)

/-- 'laws.FnExactTimeIn': WHATEVER THE INPUT: true; the input reads as it did. -/
def fnExactTimeInSpec : ChangeSpec := { name := "fnExactTimeIn", fn := fun _ => fun
  | [d1, d2, d3] => { results := [.lit (.bool true)], args := [d1, d2, d3] }
  | _ => none }
def fnExactTimeInRow : OpenClaim := { program := "ytaejpocclfpdcaa", sum := "e8efbe691025beb465d4483a0cf44de698028d2903e1f17dc8c686e0dd8368e5", func := "loop.example/g00894/laws.FnExactTimeIn", spec := "fnExactTimeIn", apart := false }
def FnExactTimeInSaid : Prop := fnExactTimeInRow.holds Try.pinned (OpenSpec.ofChange fnExactTimeInSpec)

/-- ITS FALSE NEIGHBOUR: 'it returns false'. Refute it at one input. -/
def fnExactTimeInWrong : ChangeSpec := { name := "fnExactTimeIn", fn := fun _ => fun
  | [d1, d2, d3] => { results := [.lit (.bool false)], args := [d1, d2, d3] }
  | _ => none }
def FnExactTimeInWrongFalsely : Prop := fnExactTimeInRow.holds Try.pinned (OpenSpec.ofChange fnExactTimeInWrong)

/-- 'laws.FnExactCheckBest': WHATEVER THE INPUT: true; the input reads as it did. -/
def fnExactCheckBestSpec : ChangeSpec := { name := "fnExactCheckBest", fn := fun _ => fun
  | [d1, d2, d3] => { results := [.lit (.bool true)], args := [d1, d2, d3] }
  | _ => none }
def fnExactCheckBestRow : OpenClaim := { program := "ytaejpocclfpdcaa", sum := "e8efbe691025beb465d4483a0cf44de698028d2903e1f17dc8c686e0dd8368e5", func := "loop.example/g00894/laws.FnExactCheckBest", spec := "fnExactCheckBest", apart := false }
def FnExactCheckBestSaid : Prop := fnExactCheckBestRow.holds Try.pinned (OpenSpec.ofChange fnExactCheckBestSpec)

/-- ITS FALSE NEIGHBOUR: 'it returns false'. Refute it at one input. -/
def fnExactCheckBestWrong : ChangeSpec := { name := "fnExactCheckBest", fn := fun _ => fun
  | [d1, d2, d3] => { results := [.lit (.bool false)], args := [d1, d2, d3] }
  | _ => none }
def FnExactCheckBestWrongFalsely : Prop := fnExactCheckBestRow.holds Try.pinned (OpenSpec.ofChange fnExactCheckBestWrong)

/-- 'laws.FnExactBestPlan': WHATEVER THE INPUT: true; the input reads as it did. -/
def fnExactBestPlanSpec : ChangeSpec := { name := "fnExactBestPlan", fn := fun _ => fun
  | [d1, d2] => { results := [.lit (.bool true)], args := [d1, d2] }
  | _ => none }
def fnExactBestPlanRow : OpenClaim := { program := "ytaejpocclfpdcaa", sum := "e8efbe691025beb465d4483a0cf44de698028d2903e1f17dc8c686e0dd8368e5", func := "loop.example/g00894/laws.FnExactBestPlan", spec := "fnExactBestPlan", apart := false }
def FnExactBestPlanSaid : Prop := fnExactBestPlanRow.holds Try.pinned (OpenSpec.ofChange fnExactBestPlanSpec)

/-- ITS FALSE NEIGHBOUR: 'it returns false'. Refute it at one input. -/
def fnExactBestPlanWrong : ChangeSpec := { name := "fnExactBestPlan", fn := fun _ => fun
  | [d1, d2] => { results := [.lit (.bool false)], args := [d1, d2] }
  | _ => none }
def FnExactBestPlanWrongFalsely : Prop := fnExactBestPlanRow.holds Try.pinned (OpenSpec.ofChange fnExactBestPlanWrong)

/- THE SECOND FORM. 'bulk': how many values and letters a reading holds, each counted each time it is reached (what is shared counts as often as it is met; a slice's spare places count too). A statement '..UptoSaid' is the law's where the arguments, and the package variables that the reading takes, are together of bulk at most 1048576: NARROWER than '..Said'. Prove '..Said' where nothing that the law and all that it calls make is longer than what came in: it says more and counts as full. Else prove '..UptoSaid'. A law counts once. -/
mutual
def uptoBulk {H : Type} : DataW H → Nat
  | .lit (.string bytes) => bytes.length + 1
  | .lit _ => 1
  | .nil => 1
  | .ptr d => uptoBulk d + 1
  | .slice elems spare => uptoBulkAll elems + uptoBulkAll spare + 1
  | .agg parts => uptoBulkAll parts + 1
  | .iface _ d => uptoBulk d + 1
  | .map entries => uptoBulkEntries entries + 1
  | .held _ => 1
def uptoBulkAll {H : Type} : List (DataW H) → Nat
  | [] => 0
  | d :: r => uptoBulk d + uptoBulkAll r
def uptoBulkEntries {H : Type} : List (Lit × DataW H) → Nat
  | [] => 0
  | x :: r => uptoBulkEntry x + uptoBulkEntries r
def uptoBulkEntry {H : Type} : Lit × DataW H → Nat
  | (.string bytes, d) => bytes.length + uptoBulk d + 1
  | (_, d) => uptoBulk d + 1
 end
def uptoSmall : (H : Type) → List (DataW H) → Bool := fun _ ds => decide (uptoBulkAll ds ≤ 1048576)
def OpenSpec.upto (s : _root_.Go.ChangeSpec) : _root_.Go.OpenSpec := { _root_.Go.OpenSpec.ofChange s with cond := some uptoSmall }

/-- 'laws.FnExactGoodEvening', WHERE WHAT IT READS IS OF BULK AT MOST 1048576: true; the input reads as it did. -/
def fnExactGoodEveningUptoRow : OpenClaim := { program := "ytaejpocclfpdcaa", sum := "e8efbe691025beb465d4483a0cf44de698028d2903e1f17dc8c686e0dd8368e5", func := "loop.example/g00894/laws.FnExactGoodEvening", spec := "fnExactGoodEvening", apart := false, narrowed := true }
def FnExactGoodEveningUptoSaid : Prop := fnExactGoodEveningUptoRow.holds Try.pinned (OpenSpec.upto fnExactGoodEveningSpec)

/-- 'laws.FnExactGoodItem', WHERE WHAT IT READS IS OF BULK AT MOST 1048576: true; the input reads as it did. -/
def fnExactGoodItemUptoRow : OpenClaim := { program := "ytaejpocclfpdcaa", sum := "e8efbe691025beb465d4483a0cf44de698028d2903e1f17dc8c686e0dd8368e5", func := "loop.example/g00894/laws.FnExactGoodItem", spec := "fnExactGoodItem", apart := false, narrowed := true }
def FnExactGoodItemUptoSaid : Prop := fnExactGoodItemUptoRow.holds Try.pinned (OpenSpec.upto fnExactGoodItemSpec)

/-- 'laws.FnExactTimeOf', WHERE WHAT IT READS IS OF BULK AT MOST 1048576: true; the input reads as it did. -/
def fnExactTimeOfUptoRow : OpenClaim := { program := "ytaejpocclfpdcaa", sum := "e8efbe691025beb465d4483a0cf44de698028d2903e1f17dc8c686e0dd8368e5", func := "loop.example/g00894/laws.FnExactTimeOf", spec := "fnExactTimeOf", apart := false, narrowed := true }
def FnExactTimeOfUptoSaid : Prop := fnExactTimeOfUptoRow.holds Try.pinned (OpenSpec.upto fnExactTimeOfSpec)

/-- 'laws.FnExactTimeIn', WHERE WHAT IT READS IS OF BULK AT MOST 1048576: true; the input reads as it did. -/
def fnExactTimeInUptoRow : OpenClaim := { program := "ytaejpocclfpdcaa", sum := "e8efbe691025beb465d4483a0cf44de698028d2903e1f17dc8c686e0dd8368e5", func := "loop.example/g00894/laws.FnExactTimeIn", spec := "fnExactTimeIn", apart := false, narrowed := true }
def FnExactTimeInUptoSaid : Prop := fnExactTimeInUptoRow.holds Try.pinned (OpenSpec.upto fnExactTimeInSpec)

/-- 'laws.FnExactCheckBest', WHERE WHAT IT READS IS OF BULK AT MOST 1048576: true; the input reads as it did. -/
def fnExactCheckBestUptoRow : OpenClaim := { program := "ytaejpocclfpdcaa", sum := "e8efbe691025beb465d4483a0cf44de698028d2903e1f17dc8c686e0dd8368e5", func := "loop.example/g00894/laws.FnExactCheckBest", spec := "fnExactCheckBest", apart := false, narrowed := true }
def FnExactCheckBestUptoSaid : Prop := fnExactCheckBestUptoRow.holds Try.pinned (OpenSpec.upto fnExactCheckBestSpec)

/-- 'laws.FnExactBestPlan', WHERE WHAT IT READS IS OF BULK AT MOST 1048576: true; the input reads as it did. -/
def fnExactBestPlanUptoRow : OpenClaim := { program := "ytaejpocclfpdcaa", sum := "e8efbe691025beb465d4483a0cf44de698028d2903e1f17dc8c686e0dd8368e5", func := "loop.example/g00894/laws.FnExactBestPlan", spec := "fnExactBestPlan", apart := false, narrowed := true }
def FnExactBestPlanUptoSaid : Prop := fnExactBestPlanUptoRow.holds Try.pinned (OpenSpec.upto fnExactBestPlanSpec)

end Rows
end Go.Proofs.Ytaejpocclfpdcaa

/-
  No cell of these rows narrows 'for every input' (looked for: loops, veiled, ifaces, maps, wideKeys, modest, calm, conditions, laid).
  DERIVED. THE GIVEN ROWS OF THIS SEAT. 3 by the template 'for every input the law returns true; each argument reads behind the call as it read before'; 0 by the template 'total and deterministic' (their statements: YtamneiffhohleaaTotals.lean).
  GIVEN WITH THE SEED: the statements are not yours to turn. If you find one false, say at which input.
  Laid BY PROGRAM, IN A SANDBOX (cutbox-rows.mjs): the forced cells as the released guide's own fill.sh prints them over the translation d8a747d078d2735a… (all of the seat's roots in one cut). By AI agents, Wed Nov 11 2026. No macro, syntax, notation, axiom, sorry.
-/
import Derived.Test.YtamneiffhohleaaChecked
import GoSem.Claim
import GoSem.ClaimJoined
import GoSem.ClaimMapViews
import Derived.JoinedTies
import Derived.KernelRfl
namespace Go.Proofs.Ytamneiffhohleaa
/- THE CELL 'sum', in the pinned program and in every row, IS THE sha256 OF THE DUMP (.gsa) THAT YtamneiffhohleaaProg.lean LOADS. Nothing in Lean hashes anything: it is a label: what it is worth is what the hold of that sum in a sandbox is worth. -/
noncomputable def Try.pinned : Pinned := { name := "ytamneiffhohleaa", sum := "d8a747d078d2735a7c9527ee06f72cfbc1a58a886bb822dc64882d9dff11b5d4", checked := Try.checked }
namespace Rows
def none {H : Type} : Left H := { results := [], args := [] }

/-- 'laws.FnExactAddRecord': WHATEVER THE INPUT: true; the input reads as it did. -/
def fnExactAddRecordSpec : ChangeSpec := { name := "fnExactAddRecord", fn := fun _ => fun
  | [d1, d2] => { results := [.lit (.bool true)], args := [d1, d2] }
  | _ => none }
def fnExactAddRecordRow : OpenClaim := { program := "ytamneiffhohleaa", sum := "d8a747d078d2735a7c9527ee06f72cfbc1a58a886bb822dc64882d9dff11b5d4", func := "loop.example/g00894/laws.FnExactAddRecord", spec := "fnExactAddRecord", inPlace := ["slices.overlaps[loop.example/g00894/impl.Record]"], unfollowed := true, recurses := true, apart := false }
def FnExactAddRecordSaid : Prop := fnExactAddRecordRow.holds Try.pinned (OpenSpec.ofChange fnExactAddRecordSpec)

/-- ITS FALSE NEIGHBOUR: 'it returns false'. Refute it at one input. -/
def fnExactAddRecordWrong : ChangeSpec := { name := "fnExactAddRecord", fn := fun _ => fun
  | [d1, d2] => { results := [.lit (.bool false)], args := [d1, d2] }
  | _ => none }
def FnExactAddRecordWrongFalsely : Prop := fnExactAddRecordRow.holds Try.pinned (OpenSpec.ofChange fnExactAddRecordWrong)

/-- 'laws.FnExactMergeBooks': WHATEVER THE INPUT: true; the input reads as it did. -/
def fnExactMergeBooksSpec : ChangeSpec := { name := "fnExactMergeBooks", fn := fun _ => fun
  | [d1, d2] => { results := [.lit (.bool true)], args := [d1, d2] }
  | _ => none }
def fnExactMergeBooksRow : OpenClaim := { program := "ytamneiffhohleaa", sum := "d8a747d078d2735a7c9527ee06f72cfbc1a58a886bb822dc64882d9dff11b5d4", func := "loop.example/g00894/laws.FnExactMergeBooks", spec := "fnExactMergeBooks", inPlace := ["slices.overlaps[loop.example/g00894/impl.Record]"], unfollowed := true, recurses := true, apart := false }
def FnExactMergeBooksSaid : Prop := fnExactMergeBooksRow.holds Try.pinned (OpenSpec.ofChange fnExactMergeBooksSpec)

/-- ITS FALSE NEIGHBOUR: 'it returns false'. Refute it at one input. -/
def fnExactMergeBooksWrong : ChangeSpec := { name := "fnExactMergeBooks", fn := fun _ => fun
  | [d1, d2] => { results := [.lit (.bool false)], args := [d1, d2] }
  | _ => none }
def FnExactMergeBooksWrongFalsely : Prop := fnExactMergeBooksRow.holds Try.pinned (OpenSpec.ofChange fnExactMergeBooksWrong)

/-- 'laws.FnAlike': WHATEVER THE INPUT: true; the input reads as it did. -/
def fnAlikeSpec : ChangeSpec := { name := "fnAlike", fn := fun _ => fun
  | [d1, d2] => { results := [.lit (.bool true)], args := [d1, d2] }
  | _ => none }
def fnAlikeRow : OpenClaim := { program := "ytamneiffhohleaa", sum := "d8a747d078d2735a7c9527ee06f72cfbc1a58a886bb822dc64882d9dff11b5d4", func := "loop.example/g00894/laws.FnAlike", spec := "fnAlike", inPlace := ["slices.overlaps[loop.example/g00894/impl.Record]"], unfollowed := true, recurses := true, apart := false }
def FnAlikeSaid : Prop := fnAlikeRow.holds Try.pinned (OpenSpec.ofChange fnAlikeSpec)

/-- ITS FALSE NEIGHBOUR: 'it returns false'. Refute it at one input. -/
def fnAlikeWrong : ChangeSpec := { name := "fnAlike", fn := fun _ => fun
  | [d1, d2] => { results := [.lit (.bool false)], args := [d1, d2] }
  | _ => none }
def FnAlikeWrongFalsely : Prop := fnAlikeRow.holds Try.pinned (OpenSpec.ofChange fnAlikeWrong)

/- THE SECOND FORM. 'bulk': how many values and letters a reading holds, each counted each time it is reached (what is shared counts as often as it is met; a slice's spare places count too). A statement '..UptoSaid' is the law's where the arguments, and the package variables that the reading takes, are together of bulk at most 1048576: NARROWER than '..Said'. Prove '..Said' where nothing that the law and all that it calls make is longer than what came in: it says more and counts as full. Else prove '..UptoSaid'. A law counts once. -/
mutual
def uptoBulk {H : Type} : DataW H → Nat
  | .lit (.string bytes) => bytes.length + 1
  | .lit _ => 1
  | .nil => 1
  | .ptr d => uptoBulk d + 1
  | .slice elems spare => uptoBulkAll elems + uptoBulkAll spare + 1
  | .agg parts => uptoBulkAll parts + 1
  | .iface _ d => uptoBulk d + 1
  | .map entries => uptoBulkEntries entries + 1
  | .held _ => 1
def uptoBulkAll {H : Type} : List (DataW H) → Nat
  | [] => 0
  | d :: r => uptoBulk d + uptoBulkAll r
def uptoBulkEntries {H : Type} : List (Lit × DataW H) → Nat
  | [] => 0
  | x :: r => uptoBulkEntry x + uptoBulkEntries r
def uptoBulkEntry {H : Type} : Lit × DataW H → Nat
  | (.string bytes, d) => bytes.length + uptoBulk d + 1
  | (_, d) => uptoBulk d + 1
 end
def uptoSmall : (H : Type) → List (DataW H) → Bool := fun _ ds => decide (uptoBulkAll ds ≤ 1048576)
def OpenSpec.upto (s : _root_.Go.ChangeSpec) : _root_.Go.OpenSpec := { _root_.Go.OpenSpec.ofChange s with cond := some uptoSmall }

/-- 'laws.FnExactAddRecord', WHERE WHAT IT READS IS OF BULK AT MOST 1048576: true; the input reads as it did. -/
def fnExactAddRecordUptoRow : OpenClaim := { program := "ytamneiffhohleaa", sum := "d8a747d078d2735a7c9527ee06f72cfbc1a58a886bb822dc64882d9dff11b5d4", func := "loop.example/g00894/laws.FnExactAddRecord", spec := "fnExactAddRecord", inPlace := ["slices.overlaps[loop.example/g00894/impl.Record]"], unfollowed := true, recurses := true, apart := false, narrowed := true }
def FnExactAddRecordUptoSaid : Prop := fnExactAddRecordUptoRow.holds Try.pinned (OpenSpec.upto fnExactAddRecordSpec)

/-- 'laws.FnExactMergeBooks', WHERE WHAT IT READS IS OF BULK AT MOST 1048576: true; the input reads as it did. -/
def fnExactMergeBooksUptoRow : OpenClaim := { program := "ytamneiffhohleaa", sum := "d8a747d078d2735a7c9527ee06f72cfbc1a58a886bb822dc64882d9dff11b5d4", func := "loop.example/g00894/laws.FnExactMergeBooks", spec := "fnExactMergeBooks", inPlace := ["slices.overlaps[loop.example/g00894/impl.Record]"], unfollowed := true, recurses := true, apart := false, narrowed := true }
def FnExactMergeBooksUptoSaid : Prop := fnExactMergeBooksUptoRow.holds Try.pinned (OpenSpec.upto fnExactMergeBooksSpec)

/-- 'laws.FnAlike', WHERE WHAT IT READS IS OF BULK AT MOST 1048576: true; the input reads as it did. -/
def fnAlikeUptoRow : OpenClaim := { program := "ytamneiffhohleaa", sum := "d8a747d078d2735a7c9527ee06f72cfbc1a58a886bb822dc64882d9dff11b5d4", func := "loop.example/g00894/laws.FnAlike", spec := "fnAlike", inPlace := ["slices.overlaps[loop.example/g00894/impl.Record]"], unfollowed := true, recurses := true, apart := false, narrowed := true }
def FnAlikeUptoSaid : Prop := fnAlikeUptoRow.holds Try.pinned (OpenSpec.upto fnAlikeSpec)

end Rows
end Go.Proofs.Ytamneiffhohleaa

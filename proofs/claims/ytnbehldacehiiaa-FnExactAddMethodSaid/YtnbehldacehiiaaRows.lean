/-
  No cell of these rows narrows 'for every input' (looked for: loops, veiled, ifaces, maps, wideKeys, modest, calm, conditions, laid).
  DERIVED. THE GIVEN ROWS OF THIS SEAT. 7 by the template 'for every input the law returns true; each argument reads behind the call as it read before'; 0 by the template 'total and deterministic' (their statements: YtnbehldacehiiaaTotals.lean).
  GIVEN WITH THE SEED: the statements are not yours to turn. If you find one false, say at which input.
  Laid BY PROGRAM, IN A SANDBOX (cutbox-rows.mjs): the forced cells as the released guide's own fill.sh prints them over the translation 1d8d7f0a4661ae03… (all of the seat's roots in one cut). By AI agents, Wed Nov 11 2026. No macro, syntax, notation, axiom, sorry.
-/
import Derived.Test.YtnbehldacehiiaaChecked
import GoSem.Claim
import GoSem.ClaimJoined
import GoSem.ClaimMapViews
import Derived.JoinedTies
import Derived.KernelRfl
namespace Go.Proofs.Ytnbehldacehiiaa
/- THE CELL 'sum', in the pinned program and in every row, IS THE sha256 OF THE DUMP (.gsa) THAT YtnbehldacehiiaaProg.lean LOADS. Nothing in Lean hashes anything: it is a label: what it is worth is what the hold of that sum in a sandbox is worth. -/
noncomputable def Try.pinned : Pinned := { name := "ytnbehldacehiiaa", sum := "1d8d7f0a4661ae03c9eb18beeee5dc97f1db0aaefe294b2e661f8a83a2a738df", checked := Try.checked }
namespace Rows
def none {H : Type} : Left H := { results := [], args := [] }

/-- 'laws.FnExactGoodLibrary': WHATEVER THE INPUT: true; the input reads as it did. -/
def fnExactGoodLibrarySpec : ChangeSpec := { name := "fnExactGoodLibrary", fn := fun _ => fun
  | [d] => { results := [.lit (.bool true)], args := [d] }
  | _ => none }
def fnExactGoodLibraryRow : OpenClaim := { program := "ytnbehldacehiiaa", sum := "1d8d7f0a4661ae03c9eb18beeee5dc97f1db0aaefe294b2e661f8a83a2a738df", func := "loop.example/g00894/laws.FnExactGoodLibrary", spec := "fnExactGoodLibrary", apart := false }
def FnExactGoodLibrarySaid : Prop := fnExactGoodLibraryRow.holds Try.pinned (OpenSpec.ofChange fnExactGoodLibrarySpec)

/-- ITS FALSE NEIGHBOUR: 'it returns false'. Refute it at one input. -/
def fnExactGoodLibraryWrong : ChangeSpec := { name := "fnExactGoodLibrary", fn := fun _ => fun
  | [d] => { results := [.lit (.bool false)], args := [d] }
  | _ => none }
def FnExactGoodLibraryWrongFalsely : Prop := fnExactGoodLibraryRow.holds Try.pinned (OpenSpec.ofChange fnExactGoodLibraryWrong)

/-- 'laws.FnExactFindName': WHATEVER THE INPUT: true; the input reads as it did. -/
def fnExactFindNameSpec : ChangeSpec := { name := "fnExactFindName", fn := fun _ => fun
  | [d1, d2] => { results := [.lit (.bool true)], args := [d1, d2] }
  | _ => none }
def fnExactFindNameRow : OpenClaim := { program := "ytnbehldacehiiaa", sum := "1d8d7f0a4661ae03c9eb18beeee5dc97f1db0aaefe294b2e661f8a83a2a738df", func := "loop.example/g00894/laws.FnExactFindName", spec := "fnExactFindName", unfollowed := true, recurses := true, apart := false }
def FnExactFindNameSaid : Prop := fnExactFindNameRow.holds Try.pinned (OpenSpec.ofChange fnExactFindNameSpec)

/-- ITS FALSE NEIGHBOUR: 'it returns false'. Refute it at one input. -/
def fnExactFindNameWrong : ChangeSpec := { name := "fnExactFindName", fn := fun _ => fun
  | [d1, d2] => { results := [.lit (.bool false)], args := [d1, d2] }
  | _ => none }
def FnExactFindNameWrongFalsely : Prop := fnExactFindNameRow.holds Try.pinned (OpenSpec.ofChange fnExactFindNameWrong)

/-- 'laws.FnExactNormalMethod': WHATEVER THE INPUT: true; the input reads as it did. -/
def fnExactNormalMethodSpec : ChangeSpec := { name := "fnExactNormalMethod", fn := fun _ => fun
  | [d] => { results := [.lit (.bool true)], args := [d] }
  | _ => none }
def fnExactNormalMethodRow : OpenClaim := { program := "ytnbehldacehiiaa", sum := "1d8d7f0a4661ae03c9eb18beeee5dc97f1db0aaefe294b2e661f8a83a2a738df", func := "loop.example/g00894/laws.FnExactNormalMethod", spec := "fnExactNormalMethod", apart := false }
def FnExactNormalMethodSaid : Prop := fnExactNormalMethodRow.holds Try.pinned (OpenSpec.ofChange fnExactNormalMethodSpec)

/-- ITS FALSE NEIGHBOUR: 'it returns false'. Refute it at one input. -/
def fnExactNormalMethodWrong : ChangeSpec := { name := "fnExactNormalMethod", fn := fun _ => fun
  | [d] => { results := [.lit (.bool false)], args := [d] }
  | _ => none }
def FnExactNormalMethodWrongFalsely : Prop := fnExactNormalMethodRow.holds Try.pinned (OpenSpec.ofChange fnExactNormalMethodWrong)

/-- 'laws.FnExactAlikeMethods': WHATEVER THE INPUT: true; the input reads as it did. -/
def fnExactAlikeMethodsSpec : ChangeSpec := { name := "fnExactAlikeMethods", fn := fun _ => fun
  | [d1, d2] => { results := [.lit (.bool true)], args := [d1, d2] }
  | _ => none }
def fnExactAlikeMethodsRow : OpenClaim := { program := "ytnbehldacehiiaa", sum := "1d8d7f0a4661ae03c9eb18beeee5dc97f1db0aaefe294b2e661f8a83a2a738df", func := "loop.example/g00894/laws.FnExactAlikeMethods", spec := "fnExactAlikeMethods", apart := false }
def FnExactAlikeMethodsSaid : Prop := fnExactAlikeMethodsRow.holds Try.pinned (OpenSpec.ofChange fnExactAlikeMethodsSpec)

/-- ITS FALSE NEIGHBOUR: 'it returns false'. Refute it at one input. -/
def fnExactAlikeMethodsWrong : ChangeSpec := { name := "fnExactAlikeMethods", fn := fun _ => fun
  | [d1, d2] => { results := [.lit (.bool false)], args := [d1, d2] }
  | _ => none }
def FnExactAlikeMethodsWrongFalsely : Prop := fnExactAlikeMethodsRow.holds Try.pinned (OpenSpec.ofChange fnExactAlikeMethodsWrong)

/-- 'laws.FnExactAddMethod': WHATEVER THE INPUT: true; the input reads as it did. -/
def fnExactAddMethodSpec : ChangeSpec := { name := "fnExactAddMethod", fn := fun _ => fun
  | [d1, d2] => { results := [.lit (.bool true)], args := [d1, d2] }
  | _ => none }
def fnExactAddMethodRow : OpenClaim := { program := "ytnbehldacehiiaa", sum := "1d8d7f0a4661ae03c9eb18beeee5dc97f1db0aaefe294b2e661f8a83a2a738df", func := "loop.example/g00894/laws.FnExactAddMethod", spec := "fnExactAddMethod", inPlace := ["slices.overlaps[loop.example/g00894/impl.Method]"], apart := false }
def FnExactAddMethodSaid : Prop := fnExactAddMethodRow.holds Try.pinned (OpenSpec.ofChange fnExactAddMethodSpec)

/-- ITS FALSE NEIGHBOUR: 'it returns false'. Refute it at one input. -/
def fnExactAddMethodWrong : ChangeSpec := { name := "fnExactAddMethod", fn := fun _ => fun
  | [d1, d2] => { results := [.lit (.bool false)], args := [d1, d2] }
  | _ => none }
def FnExactAddMethodWrongFalsely : Prop := fnExactAddMethodRow.holds Try.pinned (OpenSpec.ofChange fnExactAddMethodWrong)

/-- 'laws.FnExactFindAlike': WHATEVER THE INPUT: true; the input reads as it did. -/
def fnExactFindAlikeSpec : ChangeSpec := { name := "fnExactFindAlike", fn := fun _ => fun
  | [d1, d2] => { results := [.lit (.bool true)], args := [d1, d2] }
  | _ => none }
def fnExactFindAlikeRow : OpenClaim := { program := "ytnbehldacehiiaa", sum := "1d8d7f0a4661ae03c9eb18beeee5dc97f1db0aaefe294b2e661f8a83a2a738df", func := "loop.example/g00894/laws.FnExactFindAlike", spec := "fnExactFindAlike", apart := false }
def FnExactFindAlikeSaid : Prop := fnExactFindAlikeRow.holds Try.pinned (OpenSpec.ofChange fnExactFindAlikeSpec)

/-- ITS FALSE NEIGHBOUR: 'it returns false'. Refute it at one input. -/
def fnExactFindAlikeWrong : ChangeSpec := { name := "fnExactFindAlike", fn := fun _ => fun
  | [d1, d2] => { results := [.lit (.bool false)], args := [d1, d2] }
  | _ => none }
def FnExactFindAlikeWrongFalsely : Prop := fnExactFindAlikeRow.holds Try.pinned (OpenSpec.ofChange fnExactFindAlikeWrong)

/-- 'laws.FnAlikeMethods': WHATEVER THE INPUT: true; the input reads as it did. -/
def fnAlikeMethodsSpec : ChangeSpec := { name := "fnAlikeMethods", fn := fun _ => fun
  | [d1, d2] => { results := [.lit (.bool true)], args := [d1, d2] }
  | _ => none }
def fnAlikeMethodsRow : OpenClaim := { program := "ytnbehldacehiiaa", sum := "1d8d7f0a4661ae03c9eb18beeee5dc97f1db0aaefe294b2e661f8a83a2a738df", func := "loop.example/g00894/laws.FnAlikeMethods", spec := "fnAlikeMethods", recurses := true, apart := false }
def FnAlikeMethodsSaid : Prop := fnAlikeMethodsRow.holds Try.pinned (OpenSpec.ofChange fnAlikeMethodsSpec)

/-- ITS FALSE NEIGHBOUR: 'it returns false'. Refute it at one input. -/
def fnAlikeMethodsWrong : ChangeSpec := { name := "fnAlikeMethods", fn := fun _ => fun
  | [d1, d2] => { results := [.lit (.bool false)], args := [d1, d2] }
  | _ => none }
def FnAlikeMethodsWrongFalsely : Prop := fnAlikeMethodsRow.holds Try.pinned (OpenSpec.ofChange fnAlikeMethodsWrong)

/- THE SECOND FORM. 'bulk': how many values and letters a reading holds, each counted each time it is reached (what is shared counts as often as it is met; a slice's spare places count too). A statement '..UptoSaid' is the law's where the arguments, and the package variables that the reading takes, are together of bulk at most 1048576: NARROWER than '..Said'. Prove '..Said' where nothing that the law and all that it calls make is longer than what came in: it says more and counts as full. Else prove '..UptoSaid'. A law counts once. -/
mutual
def uptoBulk {H : Type} : DataW H → Nat
  | .lit (.string bytes) => bytes.length + 1
  | .lit _ => 1
  | .nil => 1
  | .ptr d => uptoBulk d + 1
  | .slice elems spare => uptoBulkAll elems + uptoBulkAll spare + 1
  | .agg parts => uptoBulkAll parts + 1
  | .iface _ d => uptoBulk d + 1
  | .map entries => uptoBulkEntries entries + 1
  | .held _ => 1
def uptoBulkAll {H : Type} : List (DataW H) → Nat
  | [] => 0
  | d :: r => uptoBulk d + uptoBulkAll r
def uptoBulkEntries {H : Type} : List (Lit × DataW H) → Nat
  | [] => 0
  | x :: r => uptoBulkEntry x + uptoBulkEntries r
def uptoBulkEntry {H : Type} : Lit × DataW H → Nat
  | (.string bytes, d) => bytes.length + uptoBulk d + 1
  | (_, d) => uptoBulk d + 1
 end
def uptoSmall : (H : Type) → List (DataW H) → Bool := fun _ ds => decide (uptoBulkAll ds ≤ 1048576)
def OpenSpec.upto (s : _root_.Go.ChangeSpec) : _root_.Go.OpenSpec := { _root_.Go.OpenSpec.ofChange s with cond := some uptoSmall }

/-- 'laws.FnExactGoodLibrary', WHERE WHAT IT READS IS OF BULK AT MOST 1048576: true; the input reads as it did. -/
def fnExactGoodLibraryUptoRow : OpenClaim := { program := "ytnbehldacehiiaa", sum := "1d8d7f0a4661ae03c9eb18beeee5dc97f1db0aaefe294b2e661f8a83a2a738df", func := "loop.example/g00894/laws.FnExactGoodLibrary", spec := "fnExactGoodLibrary", apart := false, narrowed := true }
def FnExactGoodLibraryUptoSaid : Prop := fnExactGoodLibraryUptoRow.holds Try.pinned (OpenSpec.upto fnExactGoodLibrarySpec)

/-- 'laws.FnExactFindName', WHERE WHAT IT READS IS OF BULK AT MOST 1048576: true; the input reads as it did. -/
def fnExactFindNameUptoRow : OpenClaim := { program := "ytnbehldacehiiaa", sum := "1d8d7f0a4661ae03c9eb18beeee5dc97f1db0aaefe294b2e661f8a83a2a738df", func := "loop.example/g00894/laws.FnExactFindName", spec := "fnExactFindName", unfollowed := true, recurses := true, apart := false, narrowed := true }
def FnExactFindNameUptoSaid : Prop := fnExactFindNameUptoRow.holds Try.pinned (OpenSpec.upto fnExactFindNameSpec)

/-- 'laws.FnExactNormalMethod', WHERE WHAT IT READS IS OF BULK AT MOST 1048576: true; the input reads as it did. -/
def fnExactNormalMethodUptoRow : OpenClaim := { program := "ytnbehldacehiiaa", sum := "1d8d7f0a4661ae03c9eb18beeee5dc97f1db0aaefe294b2e661f8a83a2a738df", func := "loop.example/g00894/laws.FnExactNormalMethod", spec := "fnExactNormalMethod", apart := false, narrowed := true }
def FnExactNormalMethodUptoSaid : Prop := fnExactNormalMethodUptoRow.holds Try.pinned (OpenSpec.upto fnExactNormalMethodSpec)

/-- 'laws.FnExactAlikeMethods', WHERE WHAT IT READS IS OF BULK AT MOST 1048576: true; the input reads as it did. -/
def fnExactAlikeMethodsUptoRow : OpenClaim := { program := "ytnbehldacehiiaa", sum := "1d8d7f0a4661ae03c9eb18beeee5dc97f1db0aaefe294b2e661f8a83a2a738df", func := "loop.example/g00894/laws.FnExactAlikeMethods", spec := "fnExactAlikeMethods", apart := false, narrowed := true }
def FnExactAlikeMethodsUptoSaid : Prop := fnExactAlikeMethodsUptoRow.holds Try.pinned (OpenSpec.upto fnExactAlikeMethodsSpec)

/-- 'laws.FnExactAddMethod', WHERE WHAT IT READS IS OF BULK AT MOST 1048576: true; the input reads as it did. -/
def fnExactAddMethodUptoRow : OpenClaim := { program := "ytnbehldacehiiaa", sum := "1d8d7f0a4661ae03c9eb18beeee5dc97f1db0aaefe294b2e661f8a83a2a738df", func := "loop.example/g00894/laws.FnExactAddMethod", spec := "fnExactAddMethod", inPlace := ["slices.overlaps[loop.example/g00894/impl.Method]"], apart := false, narrowed := true }
def FnExactAddMethodUptoSaid : Prop := fnExactAddMethodUptoRow.holds Try.pinned (OpenSpec.upto fnExactAddMethodSpec)

/-- 'laws.FnExactFindAlike', WHERE WHAT IT READS IS OF BULK AT MOST 1048576: true; the input reads as it did. -/
def fnExactFindAlikeUptoRow : OpenClaim := { program := "ytnbehldacehiiaa", sum := "1d8d7f0a4661ae03c9eb18beeee5dc97f1db0aaefe294b2e661f8a83a2a738df", func := "loop.example/g00894/laws.FnExactFindAlike", spec := "fnExactFindAlike", apart := false, narrowed := true }
def FnExactFindAlikeUptoSaid : Prop := fnExactFindAlikeUptoRow.holds Try.pinned (OpenSpec.upto fnExactFindAlikeSpec)

/-- 'laws.FnAlikeMethods', WHERE WHAT IT READS IS OF BULK AT MOST 1048576: true; the input reads as it did. -/
def fnAlikeMethodsUptoRow : OpenClaim := { program := "ytnbehldacehiiaa", sum := "1d8d7f0a4661ae03c9eb18beeee5dc97f1db0aaefe294b2e661f8a83a2a738df", func := "loop.example/g00894/laws.FnAlikeMethods", spec := "fnAlikeMethods", recurses := true, apart := false, narrowed := true }
def FnAlikeMethodsUptoSaid : Prop := fnAlikeMethodsUptoRow.holds Try.pinned (OpenSpec.upto fnAlikeMethodsSpec)

end Rows
end Go.Proofs.Ytnbehldacehiiaa

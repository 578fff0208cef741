/- Contracts: slices of items and of numbers; the total time of a choice. -/
import Derived.Test.YtimeecimaokldaaC1
namespace Go.Proofs.Ytimeecimaokldaa
open Go Go.RowKit
set_option linter.unusedVariables false
set_option linter.unusedSimpArgs false

theorem szAfter_le {k : Int} {m : Nat} (h : k ≤ 1048576) : szAfter k m ≤ 1048576 := by unfold szAfter; split <;> omega
end Go.Proofs.Ytimeecimaokldaa

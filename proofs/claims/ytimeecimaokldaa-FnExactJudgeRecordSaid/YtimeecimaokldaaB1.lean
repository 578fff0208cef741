/- Contracts: evenings and items. -/
import Derived.Test.YtimeecimaokldaaA1
namespace Go.Proofs.Ytimeecimaokldaa
open Go Go.RowKit
set_option linter.unusedVariables false
set_option linter.unusedSimpArgs false

def evB (a b c d : Int) : Bool := decide (3 ≤ a ∧ a ≤ 8) && decide (1 ≤ b ∧ b ≤ 100) && decide (0 ≤ c ∧ c ≤ 20000) && decide (0 ≤ d ∧ d ≤ 1000)

end Go.Proofs.Ytimeecimaokldaa

/- Contracts: a method that begins with its change k; a method turned. -/
import Derived.Test.YtpkpahadjdkafaaT6
namespace Go.Proofs.Ytpkpahadjdkafaa
open Go Go.RowKit
set_option linter.unusedVariables false
set_option linter.unusedSimpArgs false

end Go.Proofs.Ytpkpahadjdkafaa

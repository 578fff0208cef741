/- Contracts: room for a slice of strings; two slices joined. -/
import Derived.Test.YtpkpahadjdkafaaT3
import Derived.Lib.AppendZeros
namespace Go.Proofs.Ytpkpahadjdkafaa
open Go Go.RowKit
set_option linter.unusedVariables false
set_option linter.unusedSimpArgs false

end Go.Proofs.Ytpkpahadjdkafaa

/- Contracts: room for a slice of strings; two slices joined. -/
import Derived.Test.YtamneiffhohleaaDoorT3
import Derived.Lib.AppendZeros
namespace Go.Proofs.YtamneiffhohleaaDoor
open Go Go.RowKit
set_option linter.unusedVariables false
set_option linter.unusedSimpArgs false

end Go.Proofs.YtamneiffhohleaaDoor

/- The law GoodLibrary, walked. -/
import Derived.Test.YtamneiffhohleaaDoorS4
namespace Go.Proofs.YtamneiffhohleaaDoor
open Go Go.RowKit
set_option linter.unusedVariables false
set_option linter.unusedSimpArgs false

end Go.Proofs.YtamneiffhohleaaDoor

/- The law Records, as the row calls it. -/
import Derived.Test.YtpkpahadjdkafaaDoorZ6
namespace Go.Proofs.YtpkpahadjdkafaaDoor
open Go Go.RowKit
set_option linter.unusedVariables false

theorem lawRecords_row (V : Value) (zV : Nat) (U : Value) (zU : Nat) (w : World) (hV : BytesAt w w.heap.size V) (hU : BytesAt w w.heap.size U) (ht : Tab10 w) (hm : MaxOk w) : Calls Tryd.prog 4 #[V, U] w fun e w' => e = .returned (.bool true) ∧ Below w.heap.size w w' :=
  lawRecords_any V U w hV hU ht hm
end Go.Proofs.YtpkpahadjdkafaaDoor

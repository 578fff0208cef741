/- The law Book, as the row calls it. -/
import Derived.Test.YtpkpahadjdkafaaGreatDoorZB
namespace Go.Proofs.YtpkpahadjdkafaaGreatDoor
open Go Go.RowKit
set_option linter.unusedVariables false

theorem lawBook_row (V : Value) (zV : Nat) (U : Value) (zU : Nat) (w : World) (hV : BytesAt w w.heap.size V) (hU : BytesAt w w.heap.size U) (ht : Tab10 w) (hm : MaxOk w) : Calls Tryz.prog 3 #[V, U] w fun e w' => e = .returned (.bool true) ∧ Below w.heap.size w w' :=
  lawBook_any V U w hV hU ht hm
end Go.Proofs.YtpkpahadjdkafaaGreatDoor

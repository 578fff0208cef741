/- ReadRecord of the reference; the law ReadRecord, walked. -/
import Derived.Test.YtpkpahadjdkafaaGreatDoorY3
namespace Go.Proofs.YtpkpahadjdkafaaGreatDoor
open Go Go.RowKit
set_option linter.unusedVariables false
set_option linter.unusedSimpArgs false

/-- The library's own bound for short texts: some number. -/
def MaxOk (w : World) : Prop := ∀ w', Below w.heap.size w w' → ∃ m, w'.cell? ⟨0, 0, none⟩ = some (.int .i64 m)
theorem MaxOk.to {w w' : World} (h : MaxOk w) (hb : Below w.heap.size w w') : MaxOk w' := fun W hW => h W (bw_to hb hW)
end Go.Proofs.YtpkpahadjdkafaaGreatDoor

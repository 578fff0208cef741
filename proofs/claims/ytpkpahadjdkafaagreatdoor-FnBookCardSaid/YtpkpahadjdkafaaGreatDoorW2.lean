/- Contracts: a record added to a book, both sides. -/
import Derived.Test.YtpkpahadjdkafaaGreatDoorI1
import Derived.Test.YtpkpahadjdkafaaGreatDoorP6
namespace Go.Proofs.YtpkpahadjdkafaaGreatDoor
open Go Go.RowKit
set_option linter.unusedVariables false
set_option linter.unusedSimpArgs false

theorem bsz {a w : World} (h : Below a.heap.size a w) : a.heap.size ≤ w.heap.size := h.size
theorem rc_one1 (r : Rc) : ∀ u ∈ [Value.int .i64 r.day, .string r.meth, .string r.touch, .int .i64 r.rows, .string r.note], u.oneCell' = true := fun u hu => rc_one [r] u (by simpa [Rc.cells] using hu)
theorem take_leG {xs : List Rc} {r : Rc} {k : Nat} (hk : k < xs.length) (h : ∀ x ∈ xs.take k, x.day ≤ r.day) (h1 : (xs[k]'hk).day ≤ r.day) : ∀ x ∈ xs.take (k + 1), x.day ≤ r.day := take_allG (p := fun x => x.day ≤ r.day) hk h h1
end Go.Proofs.YtpkpahadjdkafaaGreatDoor

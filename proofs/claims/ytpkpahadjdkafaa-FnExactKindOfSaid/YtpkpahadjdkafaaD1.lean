/- Contracts: slices of items and of numbers; the total time of a choice. -/
import Derived.Test.YtpkpahadjdkafaaC1
namespace Go.Proofs.Ytpkpahadjdkafaa
open Go Go.RowKit
set_option linter.unusedVariables false
set_option linter.unusedSimpArgs false

theorem szAfter_le {k : Int} {m : Nat} (h : k ≤ 1048576) : szAfter k m ≤ 1048576 := by unfold szAfter; split <;> omega
theorem eqItem_same (x : It) (w : World) : Calls Try.prog 13 #[.agg #[.string x.name, .int .i64 x.stage, .int .i64 x.rows, .int .i64 x.worth], .agg #[.string x.name, .int .i64 x.stage, .int .i64 x.rows, .int .i64 x.worth]] w fun e w' =>
    e = .returned (.bool true) ∧ Below w.heap.size w w' := by
  go_enter Try.func13, Try.ntmps13
  go_wp2
  go_ret
  exact ⟨rfl, bw_al (bw_al (Below.refl _ _) _) _⟩
end Go.Proofs.Ytpkpahadjdkafaa

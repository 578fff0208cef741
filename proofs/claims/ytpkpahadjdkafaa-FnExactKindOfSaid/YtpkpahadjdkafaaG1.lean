/- Contracts: slices of numbers compared. -/
import Derived.Test.YtpkpahadjdkafaaD1
import Derived.Test.YtpkpahadjdkafaaP2
namespace Go.Proofs.Ytpkpahadjdkafaa
open Go Go.RowKit
set_option linter.unusedVariables false
set_option linter.unusedSimpArgs false

theorem eq_no_len {α : Type} [DecidableEq α] {x y : List α} (h : x.length ≠ y.length) : decide (x = y) = false := by
  rw [decide_eq_false_iff_not]; rintro rfl; exact h rfl
theorem eq_no_at {α : Type} [DecidableEq α] {x y : List α} {k : Nat} (hx : k < x.length) (hy : k < y.length) (h : x[k] ≠ y[k]) : decide (x = y) = false := by
  rw [decide_eq_false_iff_not]; rintro rfl; exact h rfl
theorem eq_yes {α : Type} [DecidableEq α] {x y : List α} {k : Nat} (h : x.take k = y.take k) (hx : ¬ k < x.length) (hl : x.length = y.length) : decide (x = y) = true := by
  rw [decide_eq_true_eq]
  rwa [List.take_of_length_le (by omega), List.take_of_length_le (by omega)] at h
theorem takes_step {α : Type} {x y : List α} {k : Nat} (h : x.take k = y.take k) (hx : k < x.length) (hy : k < y.length) (he : x[k] = y[k]) : x.take (k + 1) = y.take (k + 1) := by
  rw [List.take_succ_eq_append_getElem hx, List.take_succ_eq_append_getElem hy, h, he]

def cmpI (a b : Int) : Int := if a < b then -1 else if b < a then 1 else 0
end Go.Proofs.Ytpkpahadjdkafaa

/- A law's arguments opened: calls. -/
import Derived.Test.YtpkpahadjdkafaaO0
import Derived.Test.YtpkpahadjdkafaaJ4
import Derived.Deep.Slices
import Derived.Deep.Fields
import Derived.Lib.SmallJoins
namespace Go.Proofs.Ytpkpahadjdkafaa
open Go Go.RowKit Go.WideShapes Go.ChangeShapes Go.ChangeAt Go.Joins Go.Deep
set_option linter.unusedVariables false
set_option linter.unusedSimpArgs false
set_option maxRecDepth 100000

section
variable {H : Type} {enc : TypeId × Value → H} {w : World} {base : Nat} {spare : Nat → Bool} {held : Bool}
theorem cells_Calls : Try.prog.cellsOf 26 = 2 := by kernel_rfl
theorem op_Calls {b0 : Nat} {r : Reach} {v : Value} {d : DataW H} {p : List MemPlace} (hv : Value.okWide Try.prog w r b0 26 v) (h : DataW.Trod enc Try.prog w base spare held 26 v d p) :
    ∃ k : Cl, v = k.v ∧ ClFit k := by
  obtain ⟨cs, n, rfl, hn⟩ := agg_of Try.underlying26 hv h
  obtain ⟨hl, m, hf⟩ := rd_struct Try.underlying26 hn
  rw [cells_Calls] at hl
  match cs, hl with
  | ⟨[c0, c1]⟩, _ =>
    obtain ⟨y0, h0⟩ : ∃ y', DataW.trod enc Try.prog w base spare held m 9 [c0] = some y' := by simpa [cells_string] using hf 0 _ rfl
    obtain ⟨y1, h1⟩ : ∃ y', DataW.trod enc Try.prog w base spare held m 9 [c1] = some y' := by simpa [cells_string] using hf 1 _ rfl
    obtain ⟨s, e0, _, hs⟩ := DataW.trod_string Try.underlying9 h0
    obtain ⟨s', e1, _, hs'⟩ := DataW.trod_string Try.underlying9 h1
    simp only [List.cons.injEq, and_true] at e0 e1
    subst e0 e1
    exact ⟨⟨s, s'⟩, rfl, hs, hs'⟩
end
end Go.Proofs.Ytpkpahadjdkafaa

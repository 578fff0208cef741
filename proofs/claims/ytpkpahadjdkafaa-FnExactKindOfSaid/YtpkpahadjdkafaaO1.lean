/- A law's arguments opened: what they read as, in this proof's own words. -/
import Derived.Test.YtpkpahadjdkafaaO0
import Derived.Test.YtpkpahadjdkafaaS3
import Derived.Deep.Slices
import Derived.Deep.Fields
import Derived.Lib.SmallJoins
namespace Go.Proofs.Ytpkpahadjdkafaa
open Go Go.RowKit Go.WideShapes Go.ChangeShapes Go.ChangeAt Go.Joins Go.Deep
set_option linter.unusedVariables false
set_option linter.unusedSimpArgs false
set_option maxRecDepth 100000

section
variable {H : Type} {enc : TypeId × Value → H} {w : World} {base : Nat} {spare : Nat → Bool} {held : Bool}


theorem cells_Method : Try.prog.cellsOf 24 = 3 := by kernel_rfl
theorem rd_Method {fuel : Nat} {cs : List Value} {y : DataW H × List MemPlace} (h : DataW.trod enc Try.prog w base spare held fuel 24 cs = some y) : ∃ x : Mt × Value, cs = mcells x ∧ MethAt w x.1 x.2 := by
  obtain ⟨hl, m, hf⟩ := rd_struct Try.underlying24 h
  rw [cells_Method] at hl
  match cs, hl with
  | [c0, c1, c2], _ =>
    obtain ⟨y0, h0⟩ : ∃ y', DataW.trod enc Try.prog w base spare held m 9 [c0] = some y' := by simpa [cells_string] using hf 0 _ rfl
    obtain ⟨y1, h1⟩ : ∃ y', DataW.trod enc Try.prog w base spare held m 3 [c1] = some y' := by simpa [cells_int] using hf 1 _ rfl
    obtain ⟨y2, h2⟩ : ∃ y', DataW.trod enc Try.prog w base spare held m 22 [c2] = some y' := by simpa [cells_Strs] using hf 2 _ rfl
    obtain ⟨s, e0, _, hs⟩ := DataW.trod_string Try.underlying9 h0
    obtain ⟨b, e1, _, _⟩ := DataW.trod_int Try.underlying3 h1
    obtain ⟨v, e2, ss, hss, hfit⟩ := rd_Strs h2
    simp only [List.cons.injEq, and_true] at e0 e1 e2
    subst e0 e1 e2
    exact ⟨(⟨s, b, ss⟩, _), rfl, hss, hs, hfit⟩
theorem op_Method {b0 : Nat} {r : Reach} {v : Value} {d : DataW H} {p : List MemPlace} (hv : Value.okWide Try.prog w r b0 24 v) (h : DataW.Trod enc Try.prog w base spare held 24 v d p) :
    ∃ (m : Mt) (u : Value), v = m.v u ∧ MethAt w m u := by
  obtain ⟨cs, n, rfl, hn⟩ := agg_of Try.underlying24 hv h
  obtain ⟨x, e, hx⟩ := rd_Method hn
  exact ⟨x.1, x.2, agg_eq e, hx⟩
end
end Go.Proofs.Ytpkpahadjdkafaa

/- A law's arguments opened: records. -/
import Derived.Test.YtamneiffhohleaaO0
import Derived.Test.YtamneiffhohleaaV1
namespace Go.Proofs.Ytamneiffhohleaa
open Go Go.RowKit Go.WideShapes Go.ChangeShapes Go.ChangeAt Go.Joins Go.Deep
set_option linter.unusedVariables false
set_option linter.unusedSimpArgs false
set_option maxRecDepth 100000
section
variable {H : Type} {enc : TypeId × Value → H} {w : World} {base : Nat} {spare : Nat → Bool} {held : Bool}
theorem cells_Record : Try.prog.cellsOf 24 = 5 := by kernel_rfl
theorem rd_Record {fuel : Nat} {cs : List Value} {y : DataW H × List MemPlace} (h : DataW.trod enc Try.prog w base spare held fuel 24 cs = some y) : ∃ x : Rc, cs = x.cells ∧ RcFit x := by
  obtain ⟨hl, m, hf⟩ := rd_struct Try.underlying24 h
  rw [cells_Record] at hl
  match cs, hl with
  | [c0, c1, c2, c3, c4], _ =>
    obtain ⟨y0, h0⟩ : ∃ y', DataW.trod enc Try.prog w base spare held m 3 [c0] = some y' := by simpa [cells_int] using hf 0 _ rfl
    obtain ⟨y1, h1⟩ : ∃ y', DataW.trod enc Try.prog w base spare held m 9 [c1] = some y' := by simpa [cells_string] using hf 1 _ rfl
    obtain ⟨y2, h2⟩ : ∃ y', DataW.trod enc Try.prog w base spare held m 9 [c2] = some y' := by simpa [cells_string] using hf 2 _ rfl
    obtain ⟨y3, h3⟩ : ∃ y', DataW.trod enc Try.prog w base spare held m 3 [c3] = some y' := by simpa [cells_int] using hf 3 _ rfl
    obtain ⟨y4, h4⟩ : ∃ y', DataW.trod enc Try.prog w base spare held m 9 [c4] = some y' := by simpa [cells_string] using hf 4 _ rfl
    obtain ⟨a, e0, _, _⟩ := DataW.trod_int Try.underlying3 h0
    obtain ⟨s, e1, _, z1⟩ := DataW.trod_string Try.underlying9 h1
    obtain ⟨t, e2, _, z2⟩ := DataW.trod_string Try.underlying9 h2
    obtain ⟨b, e3, _, _⟩ := DataW.trod_int Try.underlying3 h3
    obtain ⟨n, e4, _, z4⟩ := DataW.trod_string Try.underlying9 h4
    simp only [List.cons.injEq, and_true] at e0 e1 e2 e3 e4
    subst e0 e1 e2 e3 e4
    exact ⟨⟨a, s, t, b, n⟩, rfl, z1, z2, z4⟩
theorem op_Record {b0 : Nat} {r : Reach} {v : Value} {d : DataW H} {p : List MemPlace} (hv : Value.okWide Try.prog w r b0 24 v) (h : DataW.Trod enc Try.prog w base spare held 24 v d p) :
    ∃ x : Rc, v = x.v ∧ RcFit x := by
  obtain ⟨cs, n, rfl, hn⟩ := agg_of Try.underlying24 hv h
  obtain ⟨x, e, hx⟩ := rd_Record hn
  exact ⟨x, agg_eq e, hx⟩
def RecsIn (w : World) (v : Value) (xs : List Rc) : Prop := Recs w v xs ∧ ∀ x ∈ xs, RcFit x
theorem op_Records {b0 : Nat} {r : Reach} {v : Value} {d : DataW H} {p : List MemPlace} (hv : Value.okWide Try.prog w r b0 22 v) (h : DataW.Trod enc Try.prog w base spare held 22 v d p) :
    ∃ xs : List Rc, RecsIn w v xs := by
  obtain ⟨a, l, c, rfl⟩ := okWide_slice Try.underlying22 hv
  obtain ⟨n, hn⟩ := h
  obtain ⟨v', e, xs, hsl, hg⟩ := rd_slice (C := Rc.cells) (good := RcFit) Try.underlying22 cells_Record (by omega) (fun n cs y hy => rd_Record hy) hn
  simp only [Value.cells, List.cons.injEq, and_true] at e
  subst e
  exact ⟨xs, hsl, hg⟩
end
end Go.Proofs.Ytamneiffhohleaa

/- A law's arguments opened: a beat, a slice of strikes. -/
import Derived.Test.YtimeecimaokldaaO0
import Derived.Test.YtimeecimaokldaaED
import Derived.Deep.Slices
import Derived.Deep.Fields
import Derived.Lib.SmallJoins
namespace Go.Proofs.Ytimeecimaokldaa
open Go Go.RowKit Go.WideShapes Go.ChangeShapes Go.ChangeAt Go.Joins Go.Deep
set_option linter.unusedVariables false
set_option linter.unusedSimpArgs false
set_option maxRecDepth 100000

section
variable {H : Type} {enc : TypeId × Value → H} {w : World} {base : Nat} {spare : Nat → Bool} {held : Bool}
theorem cells_Beat : Try.prog.cellsOf 23 = 3 := by kernel_rfl
theorem rd_Beat {fuel : Nat} {cs : List Value} {y : DataW H × List MemPlace} (h : DataW.trod enc Try.prog w base spare held fuel 23 cs = some y) : ∃ b : Bt, cs = [.int .i64 b.st, .int .i64 b.gap, .int .i64 b.hand] := by
  obtain ⟨hl, m, hf⟩ := rd_struct Try.underlying23 h
  rw [cells_Beat] at hl
  match cs, hl with
  | [c0, c1, c2], _ =>
    obtain ⟨y0, h0⟩ : ∃ y', DataW.trod enc Try.prog w base spare held m 3 [c0] = some y' := by simpa [cells_int] using hf 0 _ rfl
    obtain ⟨y1, h1⟩ : ∃ y', DataW.trod enc Try.prog w base spare held m 3 [c1] = some y' := by simpa [cells_int] using hf 1 _ rfl
    obtain ⟨y2, h2⟩ : ∃ y', DataW.trod enc Try.prog w base spare held m 3 [c2] = some y' := by simpa [cells_int] using hf 2 _ rfl
    obtain ⟨a, e0, _, _⟩ := DataW.trod_int Try.underlying3 h0
    obtain ⟨b, e1, _, _⟩ := DataW.trod_int Try.underlying3 h1
    obtain ⟨c, e2, _, _⟩ := DataW.trod_int Try.underlying3 h2
    simp only [List.cons.injEq, and_true] at e0 e1 e2
    subst e0 e1 e2
    exact ⟨⟨a, b, c⟩, rfl⟩
theorem op_Beat {b0 : Nat} {r : Reach} {v : Value} {d : DataW H} {p : List MemPlace} (hv : Value.okWide Try.prog w r b0 23 v) (h : DataW.Trod enc Try.prog w base spare held 23 v d p) :
    ∃ b : Bt, v = b.v := by
  obtain ⟨cs, n, rfl, hn⟩ := agg_of Try.underlying23 hv h
  obtain ⟨b, e⟩ := rd_Beat hn
  exact ⟨b, agg_eq e⟩
theorem cells_Strike : Try.prog.cellsOf 55 = 2 := by kernel_rfl
theorem rd_Strike {fuel : Nat} {cs : List Value} {y : DataW H × List MemPlace} (h : DataW.trod enc Try.prog w base spare held fuel 55 cs = some y) : ∃ x : Int × Int, cs = skC x ∧ True := by
  obtain ⟨hl, m, hf⟩ := rd_struct Try.underlying55 h
  rw [cells_Strike] at hl
  match cs, hl with
  | [c0, c1], _ =>
    obtain ⟨y0, h0⟩ : ∃ y', DataW.trod enc Try.prog w base spare held m 3 [c0] = some y' := by simpa [cells_int] using hf 0 _ rfl
    obtain ⟨y1, h1⟩ : ∃ y', DataW.trod enc Try.prog w base spare held m 3 [c1] = some y' := by simpa [cells_int] using hf 1 _ rfl
    obtain ⟨a, e0, _, _⟩ := DataW.trod_int Try.underlying3 h0
    obtain ⟨b, e1, _, _⟩ := DataW.trod_int Try.underlying3 h1
    simp only [List.cons.injEq, and_true] at e0 e1
    subst e0 e1
    exact ⟨(a, b), rfl, trivial⟩
theorem op_Strikes {b0 : Nat} {r : Reach} {v : Value} {d : DataW H} {p : List MemPlace} (hv : Value.okWide Try.prog w r b0 25 v) (h : DataW.Trod enc Try.prog w base spare held 25 v d p) :
    ∃ xs : List (Int × Int), Sks w v xs := by
  obtain ⟨a, l, c, rfl⟩ := okWide_slice Try.underlying25 hv
  obtain ⟨n, hn⟩ := h
  obtain ⟨v', e, xs, hsl, hg⟩ := rd_slice (C := skC) (good := fun _ => True) Try.underlying25 cells_Strike (by omega) (fun n cs y hy => rd_Strike hy) hn
  simp only [Value.cells, List.cons.injEq, and_true] at e
  subst e
  exact ⟨xs, hsl⟩
end
end Go.Proofs.Ytimeecimaokldaa

/- A study that came in, opened. (Not beside O1: the same names.) -/
import Derived.Test.YtamneiffhohleaaDoorL1
import Derived.Test.YtamneiffhohleaaDoorM1
import Derived.Deep.Slices
import Derived.Deep.Fields
import Derived.Lib.SmallJoins
namespace Go.Proofs.YtamneiffhohleaaDoor
open Go Go.RowKit Go.WideShapes Go.ChangeShapes Go.ChangeAt Go.Joins Go.Deep
set_option linter.unusedVariables false
set_option linter.unusedSimpArgs false
set_option maxRecDepth 100000

theorem own : ownKnob Tryd.prog.godebug = none := by kernel_rfl
theorem laidOut : laidOutB Tryd.prog = true := by kernel_rfl
theorem cells_int : Tryd.prog.cellsOf 3 = 1 := by kernel_rfl
theorem cells_bool : Tryd.prog.cellsOf 4 = 1 := by kernel_rfl
theorem cells_Study : Tryd.prog.cellsOf 23 = 6 := by kernel_rfl
section
variable {H : Type} {enc : TypeId × Value → H} {w : World} {base : Nat} {spare : Nat → Bool} {held : Bool}
theorem rd_struct {P : Program} {t : TypeId} {fs : Array Field} {fuel : Nat} {cs : List Value} {y : DataW H × List MemPlace} (ht : P.underlying t = some (.struct fs)) (h : DataW.trod enc P w base spare held fuel t cs = some y) :
    cs.length = P.cellsOf t ∧ ∃ m, ∀ (i : Nat) (f : Field), fs[i]? = some f → ∃ y', DataW.trod enc P w base spare held m f.type ((cs.drop f.offset).take (P.cellsOf f.type)) = some y' := by
  obtain ⟨xs, n, _, _, hl, hlen, hf⟩ := DataW.trod_struct ht h
  refine ⟨hl, n, fun i f hi => ?_⟩
  have hlt : i < fs.size := (Array.getElem?_eq_some_iff.1 hi).1
  rw [hf i f hi]
  exact ⟨_, List.getElem?_eq_getElem (by omega)⟩
theorem agg_eq {cs : Array Value} {l : List Value} (h : cs.toList = l) : Value.agg cs = .agg l.toArray := by subst h; rfl
theorem op_Study {b0 : Nat} {r : Reach} {v : Value} {d : DataW H} {p : List MemPlace} (hv : Value.okWide Tryd.prog w r b0 23 v) (h : DataW.Trod enc Tryd.prog w base spare held 23 v d p) :
    ∃ (a b : Int) (p q r : Bool) (s : Int), v = .agg #[.int .i64 a, .int .i64 b, .bool p, .bool q, .bool r, .int .i64 s] := by
  obtain ⟨cs, rfl, _⟩ := okWide_struct Tryd.underlying23 hv
  obtain ⟨n, hn⟩ := h
  have hn' : DataW.trod enc Tryd.prog w base spare held n 23 cs.toList = some (d, p) := hn
  obtain ⟨hl, m, hf⟩ := rd_struct Tryd.underlying23 hn'
  rw [cells_Study] at hl
  match e : cs.toList, hl with
  | [c0, c1, c2, c3, c4, c5], _ =>
    rw [e] at hf
    obtain ⟨y0, h0⟩ : ∃ y', DataW.trod enc Tryd.prog w base spare held m 3 [c0] = some y' := by simpa [cells_int] using hf 0 _ rfl
    obtain ⟨y1, h1⟩ : ∃ y', DataW.trod enc Tryd.prog w base spare held m 3 [c1] = some y' := by simpa [cells_int] using hf 1 _ rfl
    obtain ⟨y2, h2⟩ : ∃ y', DataW.trod enc Tryd.prog w base spare held m 4 [c2] = some y' := by simpa [cells_bool] using hf 2 _ rfl
    obtain ⟨y3, h3⟩ : ∃ y', DataW.trod enc Tryd.prog w base spare held m 4 [c3] = some y' := by simpa [cells_bool] using hf 3 _ rfl
    obtain ⟨y4, h4⟩ : ∃ y', DataW.trod enc Tryd.prog w base spare held m 4 [c4] = some y' := by simpa [cells_bool] using hf 4 _ rfl
    obtain ⟨y5, h5⟩ : ∃ y', DataW.trod enc Tryd.prog w base spare held m 3 [c5] = some y' := by simpa [cells_int] using hf 5 _ rfl
    obtain ⟨a, e0, _, _⟩ := DataW.trod_int Tryd.underlying3 h0
    obtain ⟨b, e1, _, _⟩ := DataW.trod_int Tryd.underlying3 h1
    obtain ⟨x, e2, _⟩ := DataW.trod_bool Tryd.underlying4 h2
    obtain ⟨y, e3, _⟩ := DataW.trod_bool Tryd.underlying4 h3
    obtain ⟨z, e4, _⟩ := DataW.trod_bool Tryd.underlying4 h4
    obtain ⟨s, e5, _, _⟩ := DataW.trod_int Tryd.underlying3 h5
    simp only [List.cons.injEq, and_true] at e0 e1 e2 e3 e4 e5
    subst e0 e1 e2 e3 e4 e5
    exact ⟨a, b, x, y, z, s, agg_eq e⟩
end
end Go.Proofs.YtamneiffhohleaaDoor

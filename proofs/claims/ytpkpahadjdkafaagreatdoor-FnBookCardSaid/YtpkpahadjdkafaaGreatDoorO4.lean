/- A law's arguments opened: bytes. -/
import Derived.Test.YtpkpahadjdkafaaGreatDoorO0
import Derived.Test.YtpkpahadjdkafaaGreatDoorX1
namespace Go.Proofs.YtpkpahadjdkafaaGreatDoor
open Go Go.RowKit Go.WideShapes Go.ChangeShapes Go.ChangeAt Go.Joins Go.Deep
set_option linter.unusedVariables false
set_option linter.unusedSimpArgs false
set_option maxRecDepth 100000
section
variable {H : Type} {enc : TypeId × Value → H} {w : World} {base : Nat} {spare : Nat → Bool} {held : Bool}
theorem cells_u8 : Tryz.prog.cellsOf 5 = 1 := by kernel_rfl
theorem u8_bd {n : Int} (h : (Lit.int .u8 n).wf = true) : 0 ≤ n ∧ n ≤ 255 := by
  simpa [Lit.wf, IntKind.min, IntKind.max, IntKind.signed, IntKind.bits] using h
theorem op_Bytes {b0 : Nat} {r : Reach} {v : Value} {d : DataW H} {p : List MemPlace} (hv : Value.okWide Tryz.prog w r b0 22 v) (h : DataW.Trod enc Tryz.prog w base spare held 22 v d p) :
    ∃ k : Nat, BytesAt w w.heap.size v := by
  obtain ⟨a, l, c, rfl⟩ := okWide_slice Tryz.underlying22 hv
  obtain ⟨n, hn⟩ := h
  obtain ⟨v', e, xs, hsl, hg⟩ := rd_slice (C := fun z : Int => [Value.int .u8 z]) (good := fun z => 0 ≤ z ∧ z ≤ 255) Tryz.underlying22 cells_u8 (by omega)
    (fun n cs y hy => by obtain ⟨z, e, _, wf⟩ := DataW.trod_int Tryz.underlying5 hy; exact ⟨z, e, u8_bd wf⟩) hn
  simp only [Value.cells, List.cons.injEq, and_true] at e
  subst e
  obtain ⟨A, c', e, h1, h2, hr⟩ := hsl
  refine ⟨0, A, _, c', xs, e, rfl, h1, h2, ?_, hg⟩
  rw [← List.flatMap_singleton' (xs.map _), List.flatMap_map]
  exact hr
end
end Go.Proofs.YtpkpahadjdkafaaGreatDoor

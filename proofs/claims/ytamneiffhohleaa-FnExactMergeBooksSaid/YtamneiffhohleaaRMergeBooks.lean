/- laws.FnExactMergeBooks answers true at every input, and leaves its arguments as they were. No condition. -/
import Derived.Test.YtamneiffhohleaaO3
import Derived.Test.YtamneiffhohleaaW7
import Derived.Test.YtamneiffhohleaaL1
namespace Go.Proofs.Ytamneiffhohleaa
open Go Go.RowKit Go.WideShapes Go.ChangeShapes Go.ChangeAt

set_option maxRecDepth 100000 in
set_option maxHeartbeats 1000000 in
theorem fnExactMergeBooks_lifted (os : Os) (started : os.Started) (H : Type) (enc : TypeId × Value → H) :
    ReturnsInHanded {} Try.checked os 4 .any (Rows.fnExactMergeBooksSpec.pre6 enc Try.prog Try.f4 Rows.fnExactMergeBooksRow.domain false) (Rows.fnExactMergeBooksSpec.post enc Try.prog Try.f4 false true false false) := by
  refine returnsInHanded_of_change (C := Try.checked) own started (by kernel_rfl) Try.func4
    (ChangeSpec.witness6 (enc := enc) (C := Try.checked) false ⟨#[], #[.slice none 0 0, .slice none 0 0], []⟩ 8 (by kernel_rfl) (by kernel_rfl) (by kernel_rfl) (by kernel_rfl)) ?_
  intro W base args ds gs before hval0 hW _ _
  have hval : ∀ (j : Nat) t v, Try.f4.params[j]? = some t → args[j]? = some v → Value.okWide Try.prog W .any base t v := hval0
  have hW' := hW
  obtain ⟨p, q, hA0, hV, rfl, _, _⟩ := hW
  have hA : DataW.TrodAll enc Try.prog W 0 (fun _ => true) true Try.f4.params.toList args.toList ds p := hA0
  rw [Try.params4] at hA hval
  obtain ⟨v0, v1, d0, d1, p0, p1, rfl, rfl, rfl, h0, h1⟩ := trodAll_two hA
  obtain ⟨rfl, rfl⟩ := trodVars_none hV
  obtain ⟨rs0, hrs0⟩ := op_Records (hval 0 22 v0 rfl rfl) h0
  obtain ⟨rs1, hrs1⟩ := op_Records (hval 1 22 v1 rfl rfl) h1
  clear hA0 hval0
  exact (lawMergeBooks_any v0 rs0 v1 rs1 W hrs0 hrs1).mono fun e W' ⟨he, hb⟩ => ⟨_, he, law_post laidOut (by kernel_rfl) rfl rfl rfl rfl rfl Try.underlying4 hW' hb⟩

theorem fnExactMergeBooks_holds : Rows.FnExactMergeBooksSaid :=
  OpenClaim.holds_of_wide 4 Try.f4 rfl rfl rfl rfl rfl rfl rfl ⟨rfl, rfl, rfl, rfl, rfl⟩ rfl rfl rfl rfl rfl (by kernel_rfl) Try.func4 (by kernel_rfl)
    (of_decide_eq_true (by kernel_rfl)) (by unfold Func.isWrapper; rw [if_neg (of_decide_eq_false (by kernel_rfl))]; exact ⟨rfl, rfl⟩)
    (fun os started H enc _ => fnExactMergeBooks_lifted os started H enc)
end Go.Proofs.Ytamneiffhohleaa

/- laws.FnExactJoinRings answers true at every input, and leaves its arguments as they were. No condition. -/
import Derived.Test.YthgadnhkbmimiaaGreatPk4
import Derived.Test.YthgadnhkbmimiaaGreatPk10
import Derived.Test.YthgadnhkbmimiaaGreatPk39
import Derived.Test.YthgadnhkbmimiaaGreatPk0
namespace Go.Proofs.YthgadnhkbmimiaaGreat
open Go Go.RowKit Go.WideShapes Go.ChangeShapes Go.ChangeAt

set_option maxRecDepth 100000 in
set_option maxHeartbeats 1000000 in
theorem fnExactJoinRings_lifted (os : Os) (started : os.Started) (H : Type) (enc : TypeId × Value → H) :
    ReturnsInHanded {} Tryz.checked os 7 .any (Rows.fnExactJoinRingsSpec.pre6 enc Tryz.prog Tryz.f7 Rows.fnExactJoinRingsRow.domain false) (Rows.fnExactJoinRingsSpec.post enc Tryz.prog Tryz.f7 false true false false) := by
  refine returnsInHanded_of_change (C := Tryz.checked) own started (by kernel_rfl) Tryz.func7
    (ChangeSpec.witness6 (enc := enc) (C := Tryz.checked) false ⟨#[], #[.agg #[.string ⟨#[]⟩, .int .i64 0, .slice none 0 0], .agg #[.string ⟨#[]⟩, .string ⟨#[]⟩]], []⟩ 8 (by kernel_rfl) (by kernel_rfl) (by kernel_rfl) (by kernel_rfl)) ?_
  intro W base args ds gs before hval0 hW _ _
  have hval : ∀ (j : Nat) t v, Tryz.f7.params[j]? = some t → args[j]? = some v → Value.okWide Tryz.prog W .any base t v := hval0
  have hW' := hW
  obtain ⟨p, q, hA0, hV, rfl, _, _⟩ := hW
  have hA : DataW.TrodAll enc Tryz.prog W 0 (fun _ => true) true Tryz.f7.params.toList args.toList ds p := hA0
  rw [Tryz.params7] at hA hval
  obtain ⟨v0, v1, d0, d1, p0, p1, rfl, rfl, rfl, h0, h1⟩ := trodAll_two hA
  obtain ⟨rfl, rfl⟩ := trodVars_none hV
  obtain ⟨m0, u0, rfl, hm0⟩ := op_Method (hval 0 24 v0 rfl rfl) h0
  obtain ⟨k1, rfl, hk1⟩ := op_Calls (hval 1 26 v1 rfl rfl) h1
  clear hA0 hval0
  exact (lawJoinRings_row m0 u0 k1 W hm0 hk1).mono fun e W' ⟨he, hb⟩ => ⟨_, he, law_post laidOut (by kernel_rfl) rfl rfl rfl rfl rfl Tryz.underlying4 hW' hb⟩

theorem fnExactJoinRings_holds : Rows.FnExactJoinRingsSaid :=
  OpenClaim.holds_of_wide 7 Tryz.f7 rfl rfl rfl rfl rfl rfl rfl ⟨rfl, rfl, rfl, rfl, rfl⟩ rfl rfl rfl rfl rfl (by kernel_rfl) Tryz.func7 (by kernel_rfl)
    (of_decide_eq_true (by kernel_rfl)) (by unfold Func.isWrapper; rw [if_neg (of_decide_eq_false (by kernel_rfl))]; exact ⟨rfl, rfl⟩)
    (fun os started H enc _ => fnExactJoinRings_lifted os started H enc)
end Go.Proofs.YthgadnhkbmimiaaGreat

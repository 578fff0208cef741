/- laws.FnExactAllAgree answers true at every input, and leaves its arguments as they were. No condition. -/
import Derived.Test.YthgadnhkbmimiaaGreatPk5
import Derived.Test.YthgadnhkbmimiaaGreatPk13
import Derived.Test.YthgadnhkbmimiaaGreatPk39
import Derived.Test.YthgadnhkbmimiaaGreatPk0
namespace Go.Proofs.YthgadnhkbmimiaaGreat
open Go Go.RowKit Go.WideShapes Go.ChangeShapes Go.ChangeAt

set_option maxRecDepth 100000 in
set_option maxHeartbeats 1000000 in
theorem fnExactAllAgree_lifted (os : Os) (started : os.Started) (H : Type) (enc : TypeId × Value → H) :
    ReturnsInHanded {} Tryz.checked os 4 .any (Rows.fnExactAllAgreeSpec.pre6 enc Tryz.prog Tryz.f4 Rows.fnExactAllAgreeRow.domain false) (Rows.fnExactAllAgreeSpec.post enc Tryz.prog Tryz.f4 false true false false) := by
  refine returnsInHanded_of_change (C := Tryz.checked) own started (by kernel_rfl) Tryz.func4
    (ChangeSpec.witness6 (enc := enc) (C := Tryz.checked) false ⟨#[], #[.agg #[.string ⟨#[]⟩, .int .i64 0, .slice none 0 0], .agg #[.string ⟨#[]⟩, .string ⟨#[]⟩], .string ⟨#[]⟩], []⟩ 8 (by kernel_rfl) (by kernel_rfl) (by kernel_rfl) (by kernel_rfl)) ?_
  intro W base args ds gs before hval0 hW _ _
  have hval : ∀ (j : Nat) t v, Tryz.f4.params[j]? = some t → args[j]? = some v → Value.okWide Tryz.prog W .any base t v := hval0
  have hW' := hW
  obtain ⟨p, q, hA0, hV, rfl, _, _⟩ := hW
  have hA : DataW.TrodAll enc Tryz.prog W 0 (fun _ => true) true Tryz.f4.params.toList args.toList ds p := hA0
  rw [Tryz.params4] at hA hval
  obtain ⟨v0, v1, v2, d0, d1, d2, p0, p1, p2, rfl, rfl, rfl, h0, h1, h2⟩ := trodAll_three hA
  obtain ⟨rfl, rfl⟩ := trodVars_none hV
  obtain ⟨m0, u0, rfl, hm0⟩ := op_Method (hval 0 24 v0 rfl rfl) h0
  obtain ⟨k1, rfl, hk1⟩ := op_Calls (hval 1 26 v1 rfl rfl) h1
  obtain ⟨s2, rfl, hs2⟩ := op_string (hval 2 9 v2 rfl rfl) h2
  clear hA0 hval0
  exact (lawAllAgree_row m0 u0 k1 s2 W hm0 hk1 hs2).mono fun e W' ⟨he, hb⟩ => ⟨_, he, law_post laidOut (by kernel_rfl) rfl rfl rfl rfl rfl Tryz.underlying4 hW' hb⟩

theorem fnExactAllAgree_holds : Rows.FnExactAllAgreeSaid :=
  OpenClaim.holds_of_wide 4 Tryz.f4 rfl rfl rfl rfl rfl rfl rfl ⟨rfl, rfl, rfl, rfl, rfl⟩ rfl rfl rfl rfl rfl (by kernel_rfl) Tryz.func4 (by kernel_rfl)
    (of_decide_eq_true (by kernel_rfl)) (by unfold Func.isWrapper; rw [if_neg (of_decide_eq_false (by kernel_rfl))]; exact ⟨rfl, rfl⟩)
    (fun os started H enc _ => fnExactAllAgree_lifted os started H enc)
end Go.Proofs.YthgadnhkbmimiaaGreat

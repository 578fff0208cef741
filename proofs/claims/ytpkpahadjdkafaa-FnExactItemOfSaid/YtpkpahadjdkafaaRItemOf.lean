/- laws.FnExactItemOf answers true at every input, and leaves its arguments as they were. No condition. -/
import Derived.Test.YtpkpahadjdkafaaO1
import Derived.Test.YtpkpahadjdkafaaO5
import Derived.Test.YtpkpahadjdkafaaJ8
import Derived.Test.YtpkpahadjdkafaaL1
namespace Go.Proofs.Ytpkpahadjdkafaa
open Go Go.RowKit Go.WideShapes Go.ChangeShapes Go.ChangeAt

set_option maxRecDepth 100000 in
set_option maxHeartbeats 1000000 in
theorem fnExactItemOf_lifted (os : Os) (started : os.Started) (H : Type) (enc : TypeId × Value → H) :
    ReturnsInHanded {} Try.checked os 3 .any (Rows.fnExactItemOfSpec.pre6 enc Try.prog Try.f3 Rows.fnExactItemOfRow.domain false) (Rows.fnExactItemOfSpec.post enc Try.prog Try.f3 false true false false) := by
  refine returnsInHanded_of_change (C := Try.checked) own started (by kernel_rfl) Try.func3
    (ChangeSpec.witness6 (enc := enc) (C := Try.checked) false ⟨#[], #[.agg #[.string ⟨#[]⟩, .int .i64 0, .slice none 0 0], .agg #[.string ⟨#[]⟩, .string ⟨#[]⟩], .string ⟨#[]⟩, .int .i64 0], []⟩ 8 (by kernel_rfl) (by kernel_rfl) (by kernel_rfl) (by kernel_rfl)) ?_
  intro W base args ds gs before hval0 hW _ _
  have hval : ∀ (j : Nat) t v, Try.f3.params[j]? = some t → args[j]? = some v → Value.okWide Try.prog W .any base t v := hval0
  have hW' := hW
  obtain ⟨p, q, hA0, hV, rfl, _, _⟩ := hW
  have hA : DataW.TrodAll enc Try.prog W 0 (fun _ => true) true Try.f3.params.toList args.toList ds p := hA0
  rw [Try.params3] at hA hval
  obtain ⟨v0, v1, v2, v3, d0, d1, d2, d3, p0, p1, p2, p3, rfl, rfl, rfl, h0, h1, h2, h3⟩ := trodAll_four hA
  obtain ⟨rfl, rfl⟩ := trodVars_none hV
  obtain ⟨m0, u0, rfl, hm0⟩ := op_Method (hval 0 24 v0 rfl rfl) h0
  obtain ⟨k1, rfl, hk1⟩ := op_Calls (hval 1 26 v1 rfl rfl) h1
  obtain ⟨s2, rfl, hs2⟩ := op_string (hval 2 9 v2 rfl rfl) h2
  obtain ⟨n3, rfl, hn3⟩ := op_int (hval 3 3 v3 rfl rfl) h3
  clear hA0 hval0
  exact (lawItemOf_any m0 u0 k1 s2 n3 W hm0 hk1 hs2).mono fun e W' ⟨he, hb⟩ => ⟨_, he, law_post laidOut (by kernel_rfl) rfl rfl rfl rfl rfl Try.underlying4 hW' hb⟩

theorem fnExactItemOf_holds : Rows.FnExactItemOfSaid :=
  OpenClaim.holds_of_wide 3 Try.f3 rfl rfl rfl rfl rfl rfl rfl ⟨rfl, rfl, rfl, rfl, rfl⟩ rfl rfl rfl rfl rfl (by kernel_rfl) Try.func3 (by kernel_rfl)
    (of_decide_eq_true (by kernel_rfl)) (by unfold Func.isWrapper; rw [if_neg (of_decide_eq_false (by kernel_rfl))]; exact ⟨rfl, rfl⟩)
    (fun os started H enc _ => fnExactItemOf_lifted os started H enc)
end Go.Proofs.Ytpkpahadjdkafaa

/- laws.FnExactJudgeRecord answers true at every input, and leaves its arguments as they were. No condition. -/
import Derived.Test.YtimeecimaokldaaO5
import Derived.Test.YtimeecimaokldaaER
import Derived.Test.YtimeecimaokldaaL1
namespace Go.Proofs.Ytimeecimaokldaa
open Go Go.RowKit Go.WideShapes Go.ChangeShapes Go.ChangeAt

set_option maxRecDepth 100000 in
set_option maxHeartbeats 1000000 in
theorem fnExactJudgeRecord_lifted (os : Os) (started : os.Started) (H : Type) (enc : TypeId × Value → H) :
    ReturnsInHanded {} Try.checked os 3 .any (Rows.fnExactJudgeRecordSpec.pre6 enc Try.prog Try.f3 Rows.fnExactJudgeRecordRow.domain false) (Rows.fnExactJudgeRecordSpec.post enc Try.prog Try.f3 false true false false) := by
  refine returnsInHanded_of_change (C := Try.checked) own started (by kernel_rfl) Try.func3
    (ChangeSpec.witness6 (enc := enc) (C := Try.checked) false ⟨#[], #[.agg #[.int .i64 0, .int .i64 0, .int .i64 0], .slice none 0 0, .slice none 0 0, .int .i64 0], []⟩ 8 (by kernel_rfl) (by kernel_rfl) (by kernel_rfl) (by kernel_rfl)) ?_
  intro W base args ds gs before hval0 hW _ _
  have hval : ∀ (j : Nat) t v, Try.f3.params[j]? = some t → args[j]? = some v → Value.okWide Try.prog W .any base t v := hval0
  have hW' := hW
  obtain ⟨p, q, hA0, hV, rfl, _, _⟩ := hW
  have hA : DataW.TrodAll enc Try.prog W 0 (fun _ => true) true Try.f3.params.toList args.toList ds p := hA0
  rw [Try.params3] at hA hval
  obtain ⟨v0, v1, v2, v3, d0, d1, d2, d3, p0, p1, p2, p3, rfl, rfl, rfl, h0, h1, h2, h3⟩ := trodAll_four hA
  obtain ⟨rfl, rfl⟩ := trodVars_none hV
  obtain ⟨b0, rfl⟩ := op_Beat (hval 0 23 v0 rfl rfl) h0
  obtain ⟨z1, hz1⟩ := op_Strs (hval 1 24 v1 rfl rfl) h1
  obtain ⟨xs2, hxs2⟩ := op_Strikes (hval 2 25 v2 rfl rfl) h2
  obtain ⟨n3, rfl, hn3⟩ := op_int (hval 3 3 v3 rfl rfl) h3
  clear hA0 hval0
  exact (lawJudgeRow_any b0 v1 z1 v2 xs2 n3 W hz1 hxs2 hn3).mono fun e W' ⟨he, hb⟩ => ⟨_, he, law_post laidOut (by kernel_rfl) rfl rfl rfl rfl rfl Try.underlying4 hW' hb⟩

theorem fnExactJudgeRecord_holds : Rows.FnExactJudgeRecordSaid :=
  OpenClaim.holds_of_wide 3 Try.f3 rfl rfl rfl rfl rfl rfl rfl ⟨rfl, rfl, rfl, rfl, rfl⟩ rfl rfl rfl rfl rfl (by kernel_rfl) Try.func3 (by kernel_rfl)
    (of_decide_eq_true (by kernel_rfl)) (by unfold Func.isWrapper; rw [if_neg (of_decide_eq_false (by kernel_rfl))]; exact ⟨rfl, rfl⟩)
    (fun os started H enc _ => fnExactJudgeRecord_lifted os started H enc)
end Go.Proofs.Ytimeecimaokldaa

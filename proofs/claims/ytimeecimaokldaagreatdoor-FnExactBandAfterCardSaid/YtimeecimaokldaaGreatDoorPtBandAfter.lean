/- laws.FnExactBandAfter answers true at every input, and leaves its arguments as they were. No condition. -/
import Derived.Test.YtimeecimaokldaaGreatDoorPk4
import Derived.Test.YtimeecimaokldaaGreatDoorPk11
import Derived.Test.YtimeecimaokldaaGreatDoorPk39
import Derived.Test.YtimeecimaokldaaGreatDoorPk0
import Derived.Test.YtimeecimaokldaaGreatDoorCards
import Derived.Test.YtimeecimaokldaaGreatDoorTie
import Derived.Lay
namespace Go.Proofs.YtimeecimaokldaaGreatDoor
open Go Go.RowKit Go.WideShapes Go.ChangeShapes Go.ChangeAt

set_option maxRecDepth 100000 in
set_option maxHeartbeats 1000000 in
theorem fnExactBandAfter_lifted (os : Os) (started : os.Started) (H : Type) (enc : TypeId × Value → H) :
    ReturnsInHanded {} Tryz.checked os 3 .any (fun w args => (Rows.fnExactBandAfterSpec.pre enc Tryz.prog Tryz.f3 Rows.fnExactBandAfterRow.domain false w args ∧ laidMetH Tryz.prog Rows.fnExactBandAfterRow.laid w) ∧ sizedMet enc Tryz.prog Tryz.f3 (OpenSpec.ofChange Rows.fnExactBandAfterSpec) false w args)
      (Rows.fnExactBandAfterSpec.post enc Tryz.prog Tryz.f3 false true false false) := by
  refine returnsInHanded_of_change_and (C := Tryz.checked) (X := fun w _ => laidMetH Tryz.prog Rows.fnExactBandAfterRow.laid w) (fun _ _ _ hh h => h.of_heap hh) own started (by kernel_rfl) Tryz.func3
    (ChangeSpec.witness_shaped (enc := enc) (C := Tryz.checked) (os := os) (X := fun w _ => laidMetH Tryz.prog Rows.fnExactBandAfterRow.laid w) false (World.laidAll Tryz.prog os Rows.fnExactBandAfterRow.laid) #[.agg #[.string ⟨#[]⟩, .int .i64 0, .slice none 0 0], .agg #[.string ⟨#[]⟩, .string ⟨#[]⟩], .string ⟨#[]⟩, .int .i64 0] 8 (World.laidAll_os _ _ _)
      (World.shaped_of_ZipB (by kernel_rfl) (by kernel_rfl)) (by kernel_rfl) (by kernel_rfl) (by kernel_rfl)
      (by rw [MakeChecks.laidMetH_plain _ _ _ (by kernel_rfl)]; exact laidMet_laidAll _ (by kernel_rfl) (by kernel_rfl))) ?_
  intro W base args ds gs before hval0 hW _ _ hL _
  rw [MakeChecks.laidMetH_plain _ _ _ (by kernel_rfl)] at hL
  have hT : Tab10 W := tab_of hL
  have hval : ∀ (j : Nat) t v, Tryz.f3.params[j]? = some t → args[j]? = some v → Value.okWide Tryz.prog W .any base t v := hval0
  have hW' := hW
  obtain ⟨p, q, hA0, hV, rfl, _, _⟩ := hW
  have hA : DataW.TrodAll enc Tryz.prog W 0 (fun _ => true) true Tryz.f3.params.toList args.toList ds p := hA0
  rw [Tryz.params3] at hA hval
  obtain ⟨v0, v1, v2, v3, d0, d1, d2, d3, p0, p1, p2, p3, rfl, rfl, rfl, h0, h1, h2, h3⟩ := trodAll_four hA
  obtain ⟨rfl, rfl⟩ := trodVars_none hV
  obtain ⟨m0, u0, rfl, hm0⟩ := op_Method (hval 0 24 v0 rfl rfl) h0
  obtain ⟨k1, rfl, hk1⟩ := op_Calls (hval 1 26 v1 rfl rfl) h1
  obtain ⟨s2, rfl, hs2⟩ := op_string (hval 2 9 v2 rfl rfl) h2
  obtain ⟨n3, rfl, hn3⟩ := op_int (hval 3 3 v3 rfl rfl) h3
  clear hA0 hval0
  exact (lawBandAfter_row m0 u0 k1 s2 n3 W hm0 hk1 hs2 hT).mono fun e W' ⟨he, hb⟩ => ⟨_, he, law_post laidOut (by kernel_rfl) rfl rfl rfl rfl rfl Tryz.underlying4 hW' hb⟩

theorem fnExactBandAfter_holds : Rows.FnExactBandAfterSaid :=
  OpenClaim.holds_of_wide 3 Tryz.f3 rfl rfl rfl rfl rfl rfl rfl ⟨rfl, rfl, rfl, rfl, rfl⟩ rfl rfl rfl rfl rfl (by kernel_rfl) Tryz.func3 (by kernel_rfl)
    (of_decide_eq_true (by kernel_rfl)) (by unfold Func.isWrapper; rw [if_neg (of_decide_eq_false (by kernel_rfl))]; exact ⟨rfl, rfl⟩)
    (fun os started H enc _ => fnExactBandAfter_lifted os started H enc)

theorem fnExactBandAfter_card : Rows.FnExactBandAfterCardSaid :=
  Claim7.holds_tied_plain_at .later [] _ _ _ _ fnExactBandAfter_holds (fun _ h => by cases h) (by kernel_rfl) (fun _ h => by cases h) fnExactBandAfter_row_tie rfl ⟨rfl, rfl⟩ (by kernel_rfl) rfl
    (fun f fn hf hfn => by
      obtain rfl : f = 3 := Option.some.inj ((show Tryz.prog.funcNamed Rows.fnExactBandAfterRow.func = some 3 by kernel_rfl).symm.trans hf) |>.symm
      obtain rfl : fn = Tryz.f3 := (Option.some.inj (Tryz.func3.symm.trans hfn)).symm
      refine ⟨by kernel_rfl, fun j t ht => ?_⟩
      rw [Tryz.params3] at ht
      have hm : t ∈ [24, 26, 9, 3] := by simpa using Array.mem_of_getElem? ht
      have hall : ([24, 26, 9, 3].all fun u => !Tryz.prog.wantsStandIn u) = true := by kernel_rfl
      exact (show Tryz.prog.wantsStandIn t = false by simpa using List.all_eq_true.1 hall t hm))
    (by kernel_rfl)
end Go.Proofs.YtimeecimaokldaaGreatDoor

/- laws.FnRecords answers true at every input, and leaves its arguments as they were. No condition. -/
import Derived.Test.YtpkpahadjdkafaaDoorO4
import Derived.Test.YtpkpahadjdkafaaDoorZ7
import Derived.Test.YtpkpahadjdkafaaDoorL1
import Derived.Test.YtpkpahadjdkafaaDoorT0
import Derived.Test.YtpkpahadjdkafaaDoorT9S
import Derived.Test.YtpkpahadjdkafaaDoorCards
import Derived.Test.YtpkpahadjdkafaaDoorTie
import Derived.Lay
namespace Go.Proofs.YtpkpahadjdkafaaDoor
open Go Go.RowKit Go.WideShapes Go.ChangeShapes Go.ChangeAt

set_option maxRecDepth 100000 in
set_option maxHeartbeats 1000000 in
theorem fnRecords_lifted (os : Os) (started : os.Started) (H : Type) (enc : TypeId × Value → H) :
    ReturnsInHanded {} Tryd.checked os 4 .any (fun w args => (Rows.fnRecordsSpec.pre enc Tryd.prog Tryd.f4 Rows.fnRecordsRow.domain false w args ∧ laidMetH Tryd.prog Rows.fnRecordsRow.laid w) ∧ sizedMet enc Tryd.prog Tryd.f4 (OpenSpec.ofChange Rows.fnRecordsSpec) false w args)
      (Rows.fnRecordsSpec.post enc Tryd.prog Tryd.f4 false true false false) := by
  refine handed_shaped (C := Tryd.checked) (X := fun w _ => laidMetH Tryd.prog Rows.fnRecordsRow.laid w) (fun _ _ _ hh h => h.of_heap hh) own started (by kernel_rfl) Tryd.func4
    (ChangeSpec.witness_shaped (enc := enc) (C := Tryd.checked) (os := os) (X := fun w _ => laidMetH Tryd.prog Rows.fnRecordsRow.laid w) false (World.laidAll Tryd.prog os Rows.fnRecordsRow.laid) #[.slice none 0 0, .slice none 0 0] 8 (World.laidAll_os _ _ _)
      (World.shaped_of_ZipB (by kernel_rfl) (by kernel_rfl)) (by kernel_rfl) (by kernel_rfl) (by kernel_rfl)
      (by rw [MakeChecks.laidMetH_plain _ _ _ (by kernel_rfl)]; exact laidMet_laidAll _ (by kernel_rfl) (by kernel_rfl))) ?_
  intro W base args ds gs before hSh hL hval0 hW
  have hM := maxOk_shaped hSh
  rw [MakeChecks.laidMetH_plain _ _ _ (by kernel_rfl)] at hL
  have hT : Tab10 W := tab_of hL
  have hval : ∀ (j : Nat) t v, Tryd.f4.params[j]? = some t → args[j]? = some v → Value.okWide Tryd.prog W .any base t v := hval0
  have hW' := hW
  obtain ⟨p, q, hA0, hV, rfl, _, _⟩ := hW
  have hA : DataW.TrodAll enc Tryd.prog W 0 (fun _ => true) true Tryd.f4.params.toList args.toList ds p := hA0
  rw [Tryd.params4] at hA hval
  obtain ⟨v0, v1, d0, d1, p0, p1, rfl, rfl, rfl, h0, h1⟩ := trodAll_two hA
  obtain ⟨rfl, rfl⟩ := trodVars_none hV
  obtain ⟨z0, hz0⟩ := op_Bytes (hval 0 28 v0 rfl rfl) h0
  obtain ⟨z1, hz1⟩ := op_Bytes (hval 1 28 v1 rfl rfl) h1
  clear hA0 hval0
  exact (lawRecords_row v0 z0 v1 z1 W hz0 hz1 hT hM).mono fun e W' ⟨he, hb⟩ => ⟨_, he, law_post laidOut (by kernel_rfl) rfl rfl rfl rfl rfl Tryd.underlying4 hW' hb⟩

theorem fnRecords_holds : Rows.FnRecordsSaid :=
  OpenClaim.holds_of_wide 4 Tryd.f4 rfl rfl rfl rfl rfl rfl rfl ⟨rfl, rfl, rfl, rfl, rfl⟩ rfl rfl rfl rfl rfl (by kernel_rfl) Tryd.func4 (by kernel_rfl)
    (of_decide_eq_true (by kernel_rfl)) (by unfold Func.isWrapper; rw [if_neg (of_decide_eq_false (by kernel_rfl))]; exact ⟨rfl, rfl⟩)
    (fun os started H enc _ => fnRecords_lifted os started H enc)

theorem fnRecords_card : Rows.FnRecordsCardSaid :=
  Claim7.holds_tied_plain_at .later [] _ _ _ _ fnRecords_holds (fun _ h => by cases h) (by kernel_rfl) (fun _ h => by cases h) fnRecords_row_tie rfl ⟨rfl, rfl⟩ (by kernel_rfl) rfl
    (fun f fn hf hfn => by
      obtain rfl : f = 4 := Option.some.inj ((show Tryd.prog.funcNamed Rows.fnRecordsRow.func = some 4 by kernel_rfl).symm.trans hf) |>.symm
      obtain rfl : fn = Tryd.f4 := (Option.some.inj (Tryd.func4.symm.trans hfn)).symm
      refine ⟨by kernel_rfl, fun j t ht => ?_⟩
      rw [Tryd.params4] at ht
      have hm : t ∈ [28, 28] := by simpa using Array.mem_of_getElem? ht
      have hall : ([28, 28].all fun u => !Tryd.prog.wantsStandIn u) = true := by kernel_rfl
      exact (show Tryd.prog.wantsStandIn t = false by simpa using List.all_eq_true.1 hall t hm))
    (by kernel_rfl)
end Go.Proofs.YtpkpahadjdkafaaDoor

/- laws.FnExactReadBook answers true at every input, and leaves its arguments as they were. No condition. -/
import Derived.Test.YtpkpahadjdkafaaDoorO0
import Derived.Test.YtpkpahadjdkafaaDoorZ3
import Derived.Test.YtpkpahadjdkafaaDoorL1
import Derived.Test.YtpkpahadjdkafaaDoorT0
import Derived.Test.YtpkpahadjdkafaaDoorT9S
import Derived.Test.YtpkpahadjdkafaaDoorCards
import Derived.Test.YtpkpahadjdkafaaDoorTie
import Derived.Lay
namespace Go.Proofs.YtpkpahadjdkafaaDoor
open Go Go.RowKit Go.WideShapes Go.ChangeShapes Go.ChangeAt

set_option maxRecDepth 100000 in
set_option maxHeartbeats 1000000 in
theorem fnExactReadBook_lifted (os : Os) (started : os.Started) (H : Type) (enc : TypeId × Value → H) :
    ReturnsInHanded {} Tryd.checked os 5 .any (fun w args => (Rows.fnExactReadBookSpec.pre enc Tryd.prog Tryd.f5 Rows.fnExactReadBookRow.domain false w args ∧ laidMetH Tryd.prog Rows.fnExactReadBookRow.laid w) ∧ sizedMet enc Tryd.prog Tryd.f5 (OpenSpec.ofChange Rows.fnExactReadBookSpec) false w args)
      (Rows.fnExactReadBookSpec.post enc Tryd.prog Tryd.f5 false true false false) := by
  refine handed_shaped (C := Tryd.checked) (X := fun w _ => laidMetH Tryd.prog Rows.fnExactReadBookRow.laid w) (fun _ _ _ hh h => h.of_heap hh) own started (by kernel_rfl) Tryd.func5
    (ChangeSpec.witness_shaped (enc := enc) (C := Tryd.checked) (os := os) (X := fun w _ => laidMetH Tryd.prog Rows.fnExactReadBookRow.laid w) false (World.laidAll Tryd.prog os Rows.fnExactReadBookRow.laid) #[.string ⟨#[]⟩] 8 (World.laidAll_os _ _ _)
      (World.shaped_of_ZipB (by kernel_rfl) (by kernel_rfl)) (by kernel_rfl) (by kernel_rfl) (by kernel_rfl)
      (by rw [MakeChecks.laidMetH_plain _ _ _ (by kernel_rfl)]; exact laidMet_laidAll _ (by kernel_rfl) (by kernel_rfl))) ?_
  intro W base args ds gs before hSh hL hval0 hW
  have hM := maxOk_shaped hSh
  rw [MakeChecks.laidMetH_plain _ _ _ (by kernel_rfl)] at hL
  have hT : Tab10 W := tab_of hL
  have hval : ∀ (j : Nat) t v, Tryd.f5.params[j]? = some t → args[j]? = some v → Value.okWide Tryd.prog W .any base t v := hval0
  have hW' := hW
  obtain ⟨p, q, hA0, hV, rfl, _, _⟩ := hW
  have hA : DataW.TrodAll enc Tryd.prog W 0 (fun _ => true) true Tryd.f5.params.toList args.toList ds p := hA0
  rw [Tryd.params5] at hA hval
  obtain ⟨v0, d0, rfl, rfl, h0⟩ := trodAll_one hA
  obtain ⟨rfl, rfl⟩ := trodVars_none hV
  obtain ⟨s0, rfl, hs0⟩ := op_string (hval 0 9 v0 rfl rfl) h0
  clear hA0 hval0
  exact (lawReadBook_any s0 W hs0 hT hM).mono fun e W' ⟨he, hb⟩ => ⟨_, he, law_post laidOut (by kernel_rfl) rfl rfl rfl rfl rfl Tryd.underlying4 hW' hb⟩

theorem fnExactReadBook_holds : Rows.FnExactReadBookSaid :=
  OpenClaim.holds_of_wide 5 Tryd.f5 rfl rfl rfl rfl rfl rfl rfl ⟨rfl, rfl, rfl, rfl, rfl⟩ rfl rfl rfl rfl rfl (by kernel_rfl) Tryd.func5 (by kernel_rfl)
    (of_decide_eq_true (by kernel_rfl)) (by unfold Func.isWrapper; rw [if_neg (of_decide_eq_false (by kernel_rfl))]; exact ⟨rfl, rfl⟩)
    (fun os started H enc _ => fnExactReadBook_lifted os started H enc)

theorem fnExactReadBook_card : Rows.FnExactReadBookCardSaid :=
  Claim7.holds_tied_plain_at .later [] _ _ _ _ fnExactReadBook_holds (fun _ h => by cases h) (by kernel_rfl) (fun _ h => by cases h) fnExactReadBook_row_tie rfl ⟨rfl, rfl⟩ (by kernel_rfl) rfl
    (fun f fn hf hfn => by
      obtain rfl : f = 5 := Option.some.inj ((show Tryd.prog.funcNamed Rows.fnExactReadBookRow.func = some 5 by kernel_rfl).symm.trans hf) |>.symm
      obtain rfl : fn = Tryd.f5 := (Option.some.inj (Tryd.func5.symm.trans hfn)).symm
      refine ⟨by kernel_rfl, fun j t ht => ?_⟩
      rw [Tryd.params5] at ht
      have hm : t ∈ [9] := by simpa using Array.mem_of_getElem? ht
      have hall : ([9].all fun u => !Tryd.prog.wantsStandIn u) = true := by kernel_rfl
      exact (show Tryd.prog.wantsStandIn t = false by simpa using List.all_eq_true.1 hall t hm))
    (by kernel_rfl)
end Go.Proofs.YtpkpahadjdkafaaDoor

/- The closed facts of the row of laws.FnFaultsTold, one by one. -/
import Derived.Test.YtbdioapgekaejaaGreatRows
import Derived.Test.YtbdioapgekaejaaGreatPk0
import Derived.Test.YtbdioapgekaejaaGreatPk2
import Derived.Test.YtbdioapgekaejaaGreatPk44
namespace Go.Proofs.YtbdioapgekaejaaGreat
open Go Go.RowKit Go.WideShapes Go.ChangeShapes Go.ChangeAt
theorem fnFaultsTold_cf0 : (Rows.fnFaultsToldRow.wf (OpenSpec.ofChange Rows.fnFaultsToldSpec)) = true := by kernel_rfl
theorem fnFaultsTold_cf1 : (laidOutB Tryz.prog) = true := by kernel_rfl
theorem fnFaultsTold_cf2 : (mapsRowed Tryz.prog) = true := by kernel_rfl
theorem fnFaultsTold_cf3 : (Tryz.f5.params.all (Tryz.prog.readableRec ·)) = true := by kernel_rfl
theorem fnFaultsTold_cf4 : (namedTie Tryz.prog Rows.fnFaultsToldRow.named Rows.fnFaultsToldSpec.vars) = true := by kernel_rfl
theorem fnFaultsTold_cf5 : (Rows.fnFaultsToldRow.stops == []) = true := by kernel_rfl
theorem fnFaultsTold_cf6 : (Tryz.prog.stops == []) = true := by kernel_rfl
theorem fnFaultsTold_cf7 : (Rows.fnFaultsToldRow.knobs == []) = true := by kernel_rfl
theorem fnFaultsTold_cf8 : (Tryz.prog.stopKnobs == []) = true := by kernel_rfl
theorem fnFaultsTold_cf9 : (Rows.fnFaultsToldRow.inPlace == Tryz.prog.inPlace 5) = true := by kernel_rfl
theorem fnFaultsTold_cf10 : (Rows.fnFaultsToldRow.unfollowed == Tryz.prog.unfollowed 5) = true := by kernel_rfl
theorem fnFaultsTold_cf11 : (Rows.fnFaultsToldRow.recurses == Tryz.prog.recurses 5) = true := by kernel_rfl
theorem fnFaultsTold_cf12 : (Rows.fnFaultsToldRow.named == Tryz.prog.varsNamed 5) = true := by kernel_rfl
theorem fnFaultsTold_cf13 : (Rows.fnFaultsToldRow.maps == (Tryz.f5.params.toList ++ Rows.fnFaultsToldSpec.plain.varTypes Tryz.prog).any (Tryz.prog.mapsRec ·)) = true := by kernel_rfl
theorem fnFaultsTold_cf14 : (Rows.fnFaultsToldRow.ifaces == (Tryz.f5.params.toList ++ Rows.fnFaultsToldSpec.plain.varTypes Tryz.prog).any (Tryz.prog.ifacesRec ·)) = true := by kernel_rfl
theorem fnFaultsTold_cf15 : (Rows.fnFaultsToldRow.mapsOut == Tryz.prog.mapsAmong Tryz.f5.resultTypes.toList) = true := by kernel_rfl
theorem fnFaultsTold_cf16 : (Rows.fnFaultsToldRow.loops == (Tryz.f5.params.toList ++ Rows.fnFaultsToldSpec.plain.varTypes Tryz.prog).any (Tryz.prog.loopsFrom ·)) = true := by kernel_rfl
theorem fnFaultsTold_cf17 : (Rows.fnFaultsToldRow.wideKeys == (Tryz.f5.params.toList ++ Rows.fnFaultsToldSpec.plain.varTypes Tryz.prog ++ Tryz.f5.resultTypes.toList).any (Tryz.prog.wideKeysFrom ·)) = true := by kernel_rfl
theorem fnFaultsTold_cf18 : (Rows.fnFaultsToldSpec.vars.all (Tryz.prog.varReadable ·)) = true := by kernel_rfl
theorem fnFaultsTold_cf19 : (Tryz.f5.resultTypes.all (fun t => Tryz.prog.readableRec t && decide (t < Tryz.prog.types.size))) = true := by kernel_rfl
theorem fnFaultsTold_cf20 : (Rows.fnFaultsToldRow.ifacesOut == Tryz.f5.resultTypes.toList.any (Tryz.prog.ifacesRec ·)) = true := by kernel_rfl
theorem fnFaultsTold_cf21 : (Rows.fnFaultsToldRow.loopsOut == Tryz.f5.resultTypes.toList.any (Tryz.prog.loopsFrom ·)) = true := by kernel_rfl
theorem fnFaultsTold_cf22 : (Rows.fnFaultsToldRow.plainKeys == Tryz.prog.plainKeys) = true := by kernel_rfl
theorem fnFaultsTold_cf23 : (Rows.fnFaultsToldRow.shortTexts.isNone) = true := by kernel_rfl
theorem fnFaultsTold_cf24 : (Tryz.prog.stopsHeard) = true := by kernel_rfl
theorem fnFaultsTold_cf25 : (Tryz.prog.mayEnter) = true := by kernel_rfl
theorem fnFaultsTold_cf26 : (Rows.fnFaultsToldRow.lifted == Tryz.prog.liftsFinal) = true := by kernel_rfl
theorem fnFaultsTold_cf27 : (Tryz.prog.make == some Rows.fnFaultsToldRow.make) = true := by kernel_rfl
theorem fnFaultsTold_cf28 : (Rows.fnFaultsToldRow.kinds == (if Rows.fnFaultsToldRow.domain.isEmpty then [] else Tryz.f5.params.toList.map fun t => match Tryz.prog.underlying t with | some (.int k) => some k | _ => none)) = true := by kernel_rfl
theorem fnFaultsTold_cf29 : (Rows.fnFaultsToldRow.pinned == Rows.fnFaultsToldRow.pinnedBy) = true := by kernel_rfl
theorem fnFaultsTold_cf30 : (Rows.fnFaultsToldRow.veiled == (Tryz.f5.params.toList ++ Rows.fnFaultsToldSpec.plain.varTypes Tryz.prog ++ Tryz.f5.resultTypes.toList).any (Tryz.prog.veiledRec ·)) = true := by kernel_rfl
theorem fnFaultsTold_cf31 : (Rows.fnFaultsToldRow.veiledFits Tryz.prog Tryz.f5.params.toList (Tryz.f5.params.toList ++ Rows.fnFaultsToldSpec.plain.varTypes Tryz.prog ++ Tryz.f5.resultTypes.toList)) = true := by kernel_rfl
theorem fnFaultsTold_and {a b : Bool} (h1 : a = true) (h2 : b = true) : (a && b) = true := by rw [h1, h2]; rfl
theorem fnFaultsTold_cf : joinedFacts Tryz.prog 5 Tryz.f5 Rows.fnFaultsToldSpec Rows.fnFaultsToldRow = true := by
  unfold joinedFacts
  exact fnFaultsTold_and (fnFaultsTold_and (fnFaultsTold_and (fnFaultsTold_and (fnFaultsTold_and (fnFaultsTold_and (fnFaultsTold_and (fnFaultsTold_and (fnFaultsTold_and (fnFaultsTold_and (fnFaultsTold_and (fnFaultsTold_and (fnFaultsTold_and (fnFaultsTold_and (fnFaultsTold_and (fnFaultsTold_and (fnFaultsTold_and (fnFaultsTold_and (fnFaultsTold_and (fnFaultsTold_and (fnFaultsTold_and (fnFaultsTold_and (fnFaultsTold_and (fnFaultsTold_and (fnFaultsTold_and (fnFaultsTold_and (fnFaultsTold_and (fnFaultsTold_and (fnFaultsTold_and (fnFaultsTold_and (fnFaultsTold_and (fnFaultsTold_cf0) fnFaultsTold_cf1) fnFaultsTold_cf2) fnFaultsTold_cf3) fnFaultsTold_cf4) fnFaultsTold_cf5) fnFaultsTold_cf6) fnFaultsTold_cf7) fnFaultsTold_cf8) fnFaultsTold_cf9) fnFaultsTold_cf10) fnFaultsTold_cf11) fnFaultsTold_cf12) fnFaultsTold_cf13) fnFaultsTold_cf14) fnFaultsTold_cf15) fnFaultsTold_cf16) fnFaultsTold_cf17) fnFaultsTold_cf18) fnFaultsTold_cf19) fnFaultsTold_cf20) fnFaultsTold_cf21) fnFaultsTold_cf22) fnFaultsTold_cf23) fnFaultsTold_cf24) fnFaultsTold_cf25) fnFaultsTold_cf26) fnFaultsTold_cf27) (by kernel_rfl)) fnFaultsTold_cf29) fnFaultsTold_cf30) fnFaultsTold_cf31

end Go.Proofs.YtbdioapgekaejaaGreat

/- laws.FnFaultsTold answers true at every input, and leaves its arguments as they were. No condition. -/
namespace Go.Proofs.YtbdioapgekaejaaGreat
open Go Go.RowKit Go.WideShapes Go.ChangeShapes Go.ChangeAt

set_option maxRecDepth 100000 in
set_option maxHeartbeats 1000000 in
theorem fnFaultsTold_lifted (os : Os) (started : os.Started) (H : Type) (enc : TypeId × Value → H) :
    ReturnsInHanded {} Tryz.checked os 5 .any (Rows.fnFaultsToldSpec.pre6 enc Tryz.prog Tryz.f5 Rows.fnFaultsToldRow.domain false) (Rows.fnFaultsToldSpec.post enc Tryz.prog Tryz.f5 false true false false) := by
  refine returnsInHanded_of_change (C := Tryz.checked) own started (by kernel_rfl) Tryz.func5
    (ChangeSpec.witness6 (enc := enc) (C := Tryz.checked) false ⟨#[], #[.slice none 0 0, .slice none 0 0], []⟩ 8 (by kernel_rfl) (by kernel_rfl) (by kernel_rfl) (by kernel_rfl)) ?_
  intro W base args ds gs before hval0 hW _ _
  have hval : ∀ (j : Nat) t v, Tryz.f5.params[j]? = some t → args[j]? = some v → Value.okWide Tryz.prog W .any base t v := hval0
  have hW' := hW
  obtain ⟨p, q, hA0, hV, rfl, _, _⟩ := hW
  have hA : DataW.TrodAll enc Tryz.prog W 0 (fun _ => true) true Tryz.f5.params.toList args.toList ds p := hA0
  rw [Tryz.params5] at hA hval
  obtain ⟨v0, v1, d0, d1, p0, p1, rfl, rfl, rfl, h0, h1⟩ := trodAll_two hA
  obtain ⟨rfl, rfl⟩ := trodVars_none hV
  obtain ⟨z0, hz0⟩ := op_Bytes (hval 0 22 v0 rfl rfl) h0
  obtain ⟨z1, hz1⟩ := op_Bytes (hval 1 22 v1 rfl rfl) h1
  clear hA0 hval0
  exact (lawFaultsTold_any v0 z0 v1 z1 W hz0 hz1).mono fun e W' ⟨he, hb⟩ => ⟨_, he, law_post laidOut (by kernel_rfl) rfl rfl rfl rfl rfl Tryz.underlying4 hW' hb⟩

theorem fnFaultsTold_holds : Rows.FnFaultsToldSaid :=
  OpenClaim.holds_of_wide 5 Tryz.f5 rfl rfl rfl rfl rfl rfl rfl ⟨rfl, rfl, rfl, rfl, rfl⟩ rfl rfl rfl rfl rfl (by kernel_rfl) Tryz.func5 fnFaultsTold_cf
    (of_decide_eq_true (by kernel_rfl)) (by unfold Func.isWrapper; rw [if_neg (of_decide_eq_false (by kernel_rfl))]; exact ⟨rfl, rfl⟩)
    (fun os started H enc _ => fnFaultsTold_lifted os started H enc)
end Go.Proofs.YtbdioapgekaejaaGreat

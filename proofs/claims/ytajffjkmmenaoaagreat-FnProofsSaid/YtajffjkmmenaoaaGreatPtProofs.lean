/- The closed facts of the row of laws.FnProofs, one by one. -/
import Derived.Test.YtajffjkmmenaoaaGreatRows
import Derived.Test.YtajffjkmmenaoaaGreatPk0
import Derived.Test.YtajffjkmmenaoaaGreatPk2
import Derived.Test.YtajffjkmmenaoaaGreatPk49
namespace Go.Proofs.YtajffjkmmenaoaaGreat
open Go Go.RowKit Go.WideShapes Go.ChangeShapes Go.ChangeAt
theorem fnProofs_cf0 : (Rows.fnProofsRow.wf (OpenSpec.ofChange Rows.fnProofsSpec)) = true := by kernel_rfl
theorem fnProofs_cf1 : (laidOutB Tryz.prog) = true := by kernel_rfl
theorem fnProofs_cf2 : (mapsRowed Tryz.prog) = true := by kernel_rfl
theorem fnProofs_cf3 : (Tryz.f3.params.all (Tryz.prog.readableRec ·)) = true := by kernel_rfl
theorem fnProofs_cf4 : (namedTie Tryz.prog Rows.fnProofsRow.named Rows.fnProofsSpec.vars) = true := by kernel_rfl
theorem fnProofs_cf5 : (Rows.fnProofsRow.stops == []) = true := by kernel_rfl
theorem fnProofs_cf6 : (Tryz.prog.stops == []) = true := by kernel_rfl
theorem fnProofs_cf7 : (Rows.fnProofsRow.knobs == []) = true := by kernel_rfl
theorem fnProofs_cf8 : (Tryz.prog.stopKnobs == []) = true := by kernel_rfl
theorem fnProofs_cf9 : (Rows.fnProofsRow.inPlace == Tryz.prog.inPlace 3) = true := by kernel_rfl
theorem fnProofs_cf10 : (Rows.fnProofsRow.unfollowed == Tryz.prog.unfollowed 3) = true := by kernel_rfl
theorem fnProofs_cf11 : (Rows.fnProofsRow.recurses == Tryz.prog.recurses 3) = true := by kernel_rfl
theorem fnProofs_cf12 : (Rows.fnProofsRow.named == Tryz.prog.varsNamed 3) = true := by kernel_rfl
theorem fnProofs_cf13 : (Rows.fnProofsRow.maps == (Tryz.f3.params.toList ++ Rows.fnProofsSpec.plain.varTypes Tryz.prog).any (Tryz.prog.mapsRec ·)) = true := by kernel_rfl
theorem fnProofs_cf14 : (Rows.fnProofsRow.ifaces == (Tryz.f3.params.toList ++ Rows.fnProofsSpec.plain.varTypes Tryz.prog).any (Tryz.prog.ifacesRec ·)) = true := by kernel_rfl
theorem fnProofs_cf15 : (Rows.fnProofsRow.mapsOut == Tryz.prog.mapsAmong Tryz.f3.resultTypes.toList) = true := by kernel_rfl
theorem fnProofs_cf16 : (Rows.fnProofsRow.loops == (Tryz.f3.params.toList ++ Rows.fnProofsSpec.plain.varTypes Tryz.prog).any (Tryz.prog.loopsFrom ·)) = true := by kernel_rfl
theorem fnProofs_cf17 : (Rows.fnProofsRow.wideKeys == (Tryz.f3.params.toList ++ Rows.fnProofsSpec.plain.varTypes Tryz.prog ++ Tryz.f3.resultTypes.toList).any (Tryz.prog.wideKeysFrom ·)) = true := by kernel_rfl
theorem fnProofs_cf18 : (Rows.fnProofsSpec.vars.all (Tryz.prog.varReadable ·)) = true := by kernel_rfl
theorem fnProofs_cf19 : (Tryz.f3.resultTypes.all (fun t => Tryz.prog.readableRec t && decide (t < Tryz.prog.types.size))) = true := by kernel_rfl
theorem fnProofs_cf20 : (Rows.fnProofsRow.ifacesOut == Tryz.f3.resultTypes.toList.any (Tryz.prog.ifacesRec ·)) = true := by kernel_rfl
theorem fnProofs_cf21 : (Rows.fnProofsRow.loopsOut == Tryz.f3.resultTypes.toList.any (Tryz.prog.loopsFrom ·)) = true := by kernel_rfl
theorem fnProofs_cf22 : (Rows.fnProofsRow.plainKeys == Tryz.prog.plainKeys) = true := by kernel_rfl
theorem fnProofs_cf23 : (Rows.fnProofsRow.shortTexts.isNone) = true := by kernel_rfl
theorem fnProofs_cf24 : (Tryz.prog.stopsHeard) = true := by kernel_rfl
theorem fnProofs_cf25 : (Tryz.prog.mayEnter) = true := by kernel_rfl
theorem fnProofs_cf26 : (Rows.fnProofsRow.lifted == Tryz.prog.liftsFinal) = true := by kernel_rfl
theorem fnProofs_cf27 : (Tryz.prog.make == some Rows.fnProofsRow.make) = true := by kernel_rfl
theorem fnProofs_cf28 : (Rows.fnProofsRow.kinds == (if Rows.fnProofsRow.domain.isEmpty then [] else Tryz.f3.params.toList.map fun t => match Tryz.prog.underlying t with | some (.int k) => some k | _ => none)) = true := by kernel_rfl
theorem fnProofs_cf29 : (Rows.fnProofsRow.pinned == Rows.fnProofsRow.pinnedBy) = true := by kernel_rfl
theorem fnProofs_cf30 : (Rows.fnProofsRow.veiled == (Tryz.f3.params.toList ++ Rows.fnProofsSpec.plain.varTypes Tryz.prog ++ Tryz.f3.resultTypes.toList).any (Tryz.prog.veiledRec ·)) = true := by kernel_rfl
theorem fnProofs_cf31 : (Rows.fnProofsRow.veiledFits Tryz.prog Tryz.f3.params.toList (Tryz.f3.params.toList ++ Rows.fnProofsSpec.plain.varTypes Tryz.prog ++ Tryz.f3.resultTypes.toList)) = true := by kernel_rfl
theorem fnProofs_and {a b : Bool} (h1 : a = true) (h2 : b = true) : (a && b) = true := by rw [h1, h2]; rfl
theorem fnProofs_cf : joinedFacts Tryz.prog 3 Tryz.f3 Rows.fnProofsSpec Rows.fnProofsRow = true := by
  unfold joinedFacts
  exact fnProofs_and (fnProofs_and (fnProofs_and (fnProofs_and (fnProofs_and (fnProofs_and (fnProofs_and (fnProofs_and (fnProofs_and (fnProofs_and (fnProofs_and (fnProofs_and (fnProofs_and (fnProofs_and (fnProofs_and (fnProofs_and (fnProofs_and (fnProofs_and (fnProofs_and (fnProofs_and (fnProofs_and (fnProofs_and (fnProofs_and (fnProofs_and (fnProofs_and (fnProofs_and (fnProofs_and (fnProofs_and (fnProofs_and (fnProofs_and (fnProofs_and (fnProofs_cf0) fnProofs_cf1) fnProofs_cf2) fnProofs_cf3) fnProofs_cf4) fnProofs_cf5) fnProofs_cf6) fnProofs_cf7) fnProofs_cf8) fnProofs_cf9) fnProofs_cf10) fnProofs_cf11) fnProofs_cf12) fnProofs_cf13) fnProofs_cf14) fnProofs_cf15) fnProofs_cf16) fnProofs_cf17) fnProofs_cf18) fnProofs_cf19) fnProofs_cf20) fnProofs_cf21) fnProofs_cf22) fnProofs_cf23) fnProofs_cf24) fnProofs_cf25) fnProofs_cf26) fnProofs_cf27) (by kernel_rfl)) fnProofs_cf29) fnProofs_cf30) fnProofs_cf31

end Go.Proofs.YtajffjkmmenaoaaGreat

/- laws.FnProofs answers true at every input, and leaves its arguments as they were. No condition. -/
namespace Go.Proofs.YtajffjkmmenaoaaGreat
open Go Go.RowKit Go.WideShapes Go.ChangeShapes Go.ChangeAt

set_option maxRecDepth 100000 in
set_option maxHeartbeats 1000000 in
theorem fnProofs_lifted (os : Os) (started : os.Started) (H : Type) (enc : TypeId × Value → H) :
    ReturnsInHanded {} Tryz.checked os 3 .any (Rows.fnProofsSpec.pre6 enc Tryz.prog Tryz.f3 Rows.fnProofsRow.domain false) (Rows.fnProofsSpec.post enc Tryz.prog Tryz.f3 false true false false) := by
  refine returnsInHanded_of_change (C := Tryz.checked) own started (by kernel_rfl) Tryz.func3
    (ChangeSpec.witness6 (enc := enc) (C := Tryz.checked) false ⟨#[], #[.slice none 0 0, .slice none 0 0], []⟩ 8 (by kernel_rfl) (by kernel_rfl) (by kernel_rfl) (by kernel_rfl)) ?_
  intro W base args ds gs before hval0 hW _ _
  have hval : ∀ (j : Nat) t v, Tryz.f3.params[j]? = some t → args[j]? = some v → Value.okWide Tryz.prog W .any base t v := hval0
  have hW' := hW
  obtain ⟨p, q, hA0, hV, rfl, _, _⟩ := hW
  have hA : DataW.TrodAll enc Tryz.prog W 0 (fun _ => true) true Tryz.f3.params.toList args.toList ds p := hA0
  rw [Tryz.params3] at hA hval
  obtain ⟨v0, v1, d0, d1, p0, p1, rfl, rfl, rfl, h0, h1⟩ := trodAll_two hA
  obtain ⟨rfl, rfl⟩ := trodVars_none hV
  obtain ⟨z0, hz0⟩ := op_Bytes (hval 0 22 v0 rfl rfl) h0
  obtain ⟨z1, hz1⟩ := op_Bytes (hval 1 22 v1 rfl rfl) h1
  clear hA0 hval0
  exact (lawProofs_any v0 z0 v1 z1 W hz0 hz1).mono fun e W' ⟨he, hb⟩ => ⟨_, he, law_post laidOut (by kernel_rfl) rfl rfl rfl rfl rfl Tryz.underlying4 hW' hb⟩

theorem fnProofs_holds : Rows.FnProofsSaid :=
  OpenClaim.holds_of_wide 3 Tryz.f3 rfl rfl rfl rfl rfl rfl rfl ⟨rfl, rfl, rfl, rfl, rfl⟩ rfl rfl rfl rfl rfl (by kernel_rfl) Tryz.func3 fnProofs_cf
    (of_decide_eq_true (by kernel_rfl)) (by unfold Func.isWrapper; rw [if_neg (of_decide_eq_false (by kernel_rfl))]; exact ⟨rfl, rfl⟩)
    (fun os started H enc _ => fnProofs_lifted os started H enc)
end Go.Proofs.YtajffjkmmenaoaaGreat

/- The closed facts of the row of laws.FnSets, one by one. -/
import Derived.Test.YtheppimoncokcaaGreatRows
import Derived.Test.YtheppimoncokcaaGreatPk0
import Derived.Test.YtheppimoncokcaaGreatPk2
import Derived.Test.YtheppimoncokcaaGreatPk43
namespace Go.Proofs.YtheppimoncokcaaGreat
open Go Go.RowKit Go.WideShapes Go.ChangeShapes Go.ChangeAt
theorem fnSets_cf0 : (Rows.fnSetsRow.wf (OpenSpec.ofChange Rows.fnSetsSpec)) = true := by kernel_rfl
theorem fnSets_cf1 : (laidOutB Tryz.prog) = true := by kernel_rfl
theorem fnSets_cf2 : (mapsRowed Tryz.prog) = true := by kernel_rfl
theorem fnSets_cf3 : (Tryz.f3.params.all (Tryz.prog.readableRec ·)) = true := by kernel_rfl
theorem fnSets_cf4 : (namedTie Tryz.prog Rows.fnSetsRow.named Rows.fnSetsSpec.vars) = true := by kernel_rfl
theorem fnSets_cf5 : (Rows.fnSetsRow.stops == []) = true := by kernel_rfl
theorem fnSets_cf6 : (Tryz.prog.stops == []) = true := by kernel_rfl
theorem fnSets_cf7 : (Rows.fnSetsRow.knobs == []) = true := by kernel_rfl
theorem fnSets_cf8 : (Tryz.prog.stopKnobs == []) = true := by kernel_rfl
theorem fnSets_cf9 : (Rows.fnSetsRow.inPlace == Tryz.prog.inPlace 3) = true := by kernel_rfl
theorem fnSets_cf10 : (Rows.fnSetsRow.unfollowed == Tryz.prog.unfollowed 3) = true := by kernel_rfl
theorem fnSets_cf11 : (Rows.fnSetsRow.recurses == Tryz.prog.recurses 3) = true := by kernel_rfl
theorem fnSets_cf12 : (Rows.fnSetsRow.named == Tryz.prog.varsNamed 3) = true := by kernel_rfl
theorem fnSets_cf13 : (Rows.fnSetsRow.maps == (Tryz.f3.params.toList ++ Rows.fnSetsSpec.plain.varTypes Tryz.prog).any (Tryz.prog.mapsRec ·)) = true := by kernel_rfl
theorem fnSets_cf14 : (Rows.fnSetsRow.ifaces == (Tryz.f3.params.toList ++ Rows.fnSetsSpec.plain.varTypes Tryz.prog).any (Tryz.prog.ifacesRec ·)) = true := by kernel_rfl
theorem fnSets_cf15 : (Rows.fnSetsRow.mapsOut == Tryz.prog.mapsAmong Tryz.f3.resultTypes.toList) = true := by kernel_rfl
theorem fnSets_cf16 : (Rows.fnSetsRow.loops == (Tryz.f3.params.toList ++ Rows.fnSetsSpec.plain.varTypes Tryz.prog).any (Tryz.prog.loopsFrom ·)) = true := by kernel_rfl
theorem fnSets_cf17 : (Rows.fnSetsRow.wideKeys == (Tryz.f3.params.toList ++ Rows.fnSetsSpec.plain.varTypes Tryz.prog ++ Tryz.f3.resultTypes.toList).any (Tryz.prog.wideKeysFrom ·)) = true := by kernel_rfl
theorem fnSets_cf18 : (Rows.fnSetsSpec.vars.all (Tryz.prog.varReadable ·)) = true := by kernel_rfl
theorem fnSets_cf19 : (Tryz.f3.resultTypes.all (fun t => Tryz.prog.readableRec t && decide (t < Tryz.prog.types.size))) = true := by kernel_rfl
theorem fnSets_cf20 : (Rows.fnSetsRow.ifacesOut == Tryz.f3.resultTypes.toList.any (Tryz.prog.ifacesRec ·)) = true := by kernel_rfl
theorem fnSets_cf21 : (Rows.fnSetsRow.loopsOut == Tryz.f3.resultTypes.toList.any (Tryz.prog.loopsFrom ·)) = true := by kernel_rfl
theorem fnSets_cf22 : (Rows.fnSetsRow.plainKeys == Tryz.prog.plainKeys) = true := by kernel_rfl
theorem fnSets_cf23 : (Rows.fnSetsRow.shortTexts.isNone) = true := by kernel_rfl
theorem fnSets_cf24 : (Tryz.prog.stopsHeard) = true := by kernel_rfl
theorem fnSets_cf25 : (Tryz.prog.mayEnter) = true := by kernel_rfl
theorem fnSets_cf26 : (Rows.fnSetsRow.lifted == Tryz.prog.liftsFinal) = true := by kernel_rfl
theorem fnSets_cf27 : (Tryz.prog.make == some Rows.fnSetsRow.make) = true := by kernel_rfl
theorem fnSets_cf28 : (Rows.fnSetsRow.kinds == (if Rows.fnSetsRow.domain.isEmpty then [] else Tryz.f3.params.toList.map fun t => match Tryz.prog.underlying t with | some (.int k) => some k | _ => none)) = true := by kernel_rfl
theorem fnSets_cf29 : (Rows.fnSetsRow.pinned == Rows.fnSetsRow.pinnedBy) = true := by kernel_rfl
theorem fnSets_cf30 : (Rows.fnSetsRow.veiled == (Tryz.f3.params.toList ++ Rows.fnSetsSpec.plain.varTypes Tryz.prog ++ Tryz.f3.resultTypes.toList).any (Tryz.prog.veiledRec ·)) = true := by kernel_rfl
theorem fnSets_cf31 : (Rows.fnSetsRow.veiledFits Tryz.prog Tryz.f3.params.toList (Tryz.f3.params.toList ++ Rows.fnSetsSpec.plain.varTypes Tryz.prog ++ Tryz.f3.resultTypes.toList)) = true := by kernel_rfl
theorem fnSets_and {a b : Bool} (h1 : a = true) (h2 : b = true) : (a && b) = true := by rw [h1, h2]; rfl
theorem fnSets_cf : joinedFacts Tryz.prog 3 Tryz.f3 Rows.fnSetsSpec Rows.fnSetsRow = true := by
  unfold joinedFacts
  exact fnSets_and (fnSets_and (fnSets_and (fnSets_and (fnSets_and (fnSets_and (fnSets_and (fnSets_and (fnSets_and (fnSets_and (fnSets_and (fnSets_and (fnSets_and (fnSets_and (fnSets_and (fnSets_and (fnSets_and (fnSets_and (fnSets_and (fnSets_and (fnSets_and (fnSets_and (fnSets_and (fnSets_and (fnSets_and (fnSets_and (fnSets_and (fnSets_and (fnSets_and (fnSets_and (fnSets_and (fnSets_cf0) fnSets_cf1) fnSets_cf2) fnSets_cf3) fnSets_cf4) fnSets_cf5) fnSets_cf6) fnSets_cf7) fnSets_cf8) fnSets_cf9) fnSets_cf10) fnSets_cf11) fnSets_cf12) fnSets_cf13) fnSets_cf14) fnSets_cf15) fnSets_cf16) fnSets_cf17) fnSets_cf18) fnSets_cf19) fnSets_cf20) fnSets_cf21) fnSets_cf22) fnSets_cf23) fnSets_cf24) fnSets_cf25) fnSets_cf26) fnSets_cf27) (by kernel_rfl)) fnSets_cf29) fnSets_cf30) fnSets_cf31

end Go.Proofs.YtheppimoncokcaaGreat

/- laws.FnSets answers true at every input, and leaves its arguments as they were. No condition. -/
namespace Go.Proofs.YtheppimoncokcaaGreat
open Go Go.RowKit Go.WideShapes Go.ChangeShapes Go.ChangeAt

set_option maxRecDepth 100000 in
set_option maxHeartbeats 1000000 in
theorem fnSets_lifted (os : Os) (started : os.Started) (H : Type) (enc : TypeId × Value → H) :
    ReturnsInHanded {} Tryz.checked os 3 .any (Rows.fnSetsSpec.pre6 enc Tryz.prog Tryz.f3 Rows.fnSetsRow.domain false) (Rows.fnSetsSpec.post enc Tryz.prog Tryz.f3 false true false false) := by
  refine returnsInHanded_of_change (C := Tryz.checked) own started (by kernel_rfl) Tryz.func3
    (ChangeSpec.witness6 (enc := enc) (C := Tryz.checked) false ⟨#[], #[.slice none 0 0, .slice none 0 0], []⟩ 8 (by kernel_rfl) (by kernel_rfl) (by kernel_rfl) (by kernel_rfl)) ?_
  intro W base args ds gs before hval0 hW _ _
  have hval : ∀ (j : Nat) t v, Tryz.f3.params[j]? = some t → args[j]? = some v → Value.okWide Tryz.prog W .any base t v := hval0
  have hW' := hW
  obtain ⟨p, q, hA0, hV, rfl, _, _⟩ := hW
  have hA : DataW.TrodAll enc Tryz.prog W 0 (fun _ => true) true Tryz.f3.params.toList args.toList ds p := hA0
  rw [Tryz.params3] at hA hval
  obtain ⟨v0, v1, d0, d1, p0, p1, rfl, rfl, rfl, h0, h1⟩ := trodAll_two hA
  obtain ⟨rfl, rfl⟩ := trodVars_none hV
  obtain ⟨z0, hz0⟩ := op_Bytes (hval 0 22 v0 rfl rfl) h0
  obtain ⟨z1, hz1⟩ := op_Bytes (hval 1 22 v1 rfl rfl) h1
  clear hA0 hval0
  exact (lawSets_any v0 z0 v1 z1 W hz0 hz1).mono fun e W' ⟨he, hb⟩ => ⟨_, he, law_post laidOut (by kernel_rfl) rfl rfl rfl rfl rfl Tryz.underlying4 hW' hb⟩

theorem fnSets_holds : Rows.FnSetsSaid :=
  OpenClaim.holds_of_wide 3 Tryz.f3 rfl rfl rfl rfl rfl rfl rfl ⟨rfl, rfl, rfl, rfl, rfl⟩ rfl rfl rfl rfl rfl (by kernel_rfl) Tryz.func3 fnSets_cf
    (of_decide_eq_true (by kernel_rfl)) (by unfold Func.isWrapper; rw [if_neg (of_decide_eq_false (by kernel_rfl))]; exact ⟨rfl, rfl⟩)
    (fun os started H enc _ => fnSets_lifted os started H enc)
end Go.Proofs.YtheppimoncokcaaGreat

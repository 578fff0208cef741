/- The closed facts of the row of laws.FnJoined, one by one. -/
import Derived.Test.YtheppimoncokcaaGreatRows
import Derived.Test.YtheppimoncokcaaGreatPk0
import Derived.Test.YtheppimoncokcaaGreatPk2
import Derived.Test.YtheppimoncokcaaGreatPk46
namespace Go.Proofs.YtheppimoncokcaaGreat
open Go Go.RowKit Go.WideShapes Go.ChangeShapes Go.ChangeAt
theorem fnJoined_cf0 : (Rows.fnJoinedRow.wf (OpenSpec.ofChange Rows.fnJoinedSpec)) = true := by kernel_rfl
theorem fnJoined_cf1 : (laidOutB Tryz.prog) = true := by kernel_rfl
theorem fnJoined_cf2 : (mapsRowed Tryz.prog) = true := by kernel_rfl
theorem fnJoined_cf3 : (Tryz.f5.params.all (Tryz.prog.readableRec ·)) = true := by kernel_rfl
theorem fnJoined_cf4 : (namedTie Tryz.prog Rows.fnJoinedRow.named Rows.fnJoinedSpec.vars) = true := by kernel_rfl
theorem fnJoined_cf5 : (Rows.fnJoinedRow.stops == []) = true := by kernel_rfl
theorem fnJoined_cf6 : (Tryz.prog.stops == []) = true := by kernel_rfl
theorem fnJoined_cf7 : (Rows.fnJoinedRow.knobs == []) = true := by kernel_rfl
theorem fnJoined_cf8 : (Tryz.prog.stopKnobs == []) = true := by kernel_rfl
theorem fnJoined_cf9 : (Rows.fnJoinedRow.inPlace == Tryz.prog.inPlace 5) = true := by kernel_rfl
theorem fnJoined_cf10 : (Rows.fnJoinedRow.unfollowed == Tryz.prog.unfollowed 5) = true := by kernel_rfl
theorem fnJoined_cf11 : (Rows.fnJoinedRow.recurses == Tryz.prog.recurses 5) = true := by kernel_rfl
theorem fnJoined_cf12 : (Rows.fnJoinedRow.named == Tryz.prog.varsNamed 5) = true := by kernel_rfl
theorem fnJoined_cf13 : (Rows.fnJoinedRow.maps == (Tryz.f5.params.toList ++ Rows.fnJoinedSpec.plain.varTypes Tryz.prog).any (Tryz.prog.mapsRec ·)) = true := by kernel_rfl
theorem fnJoined_cf14 : (Rows.fnJoinedRow.ifaces == (Tryz.f5.params.toList ++ Rows.fnJoinedSpec.plain.varTypes Tryz.prog).any (Tryz.prog.ifacesRec ·)) = true := by kernel_rfl
theorem fnJoined_cf15 : (Rows.fnJoinedRow.mapsOut == Tryz.prog.mapsAmong Tryz.f5.resultTypes.toList) = true := by kernel_rfl
theorem fnJoined_cf16 : (Rows.fnJoinedRow.loops == (Tryz.f5.params.toList ++ Rows.fnJoinedSpec.plain.varTypes Tryz.prog).any (Tryz.prog.loopsFrom ·)) = true := by kernel_rfl
theorem fnJoined_cf17 : (Rows.fnJoinedRow.wideKeys == (Tryz.f5.params.toList ++ Rows.fnJoinedSpec.plain.varTypes Tryz.prog ++ Tryz.f5.resultTypes.toList).any (Tryz.prog.wideKeysFrom ·)) = true := by kernel_rfl
theorem fnJoined_cf18 : (Rows.fnJoinedSpec.vars.all (Tryz.prog.varReadable ·)) = true := by kernel_rfl
theorem fnJoined_cf19 : (Tryz.f5.resultTypes.all (fun t => Tryz.prog.readableRec t && decide (t < Tryz.prog.types.size))) = true := by kernel_rfl
theorem fnJoined_cf20 : (Rows.fnJoinedRow.ifacesOut == Tryz.f5.resultTypes.toList.any (Tryz.prog.ifacesRec ·)) = true := by kernel_rfl
theorem fnJoined_cf21 : (Rows.fnJoinedRow.loopsOut == Tryz.f5.resultTypes.toList.any (Tryz.prog.loopsFrom ·)) = true := by kernel_rfl
theorem fnJoined_cf22 : (Rows.fnJoinedRow.plainKeys == Tryz.prog.plainKeys) = true := by kernel_rfl
theorem fnJoined_cf23 : (Rows.fnJoinedRow.shortTexts.isNone) = true := by kernel_rfl
theorem fnJoined_cf24 : (Tryz.prog.stopsHeard) = true := by kernel_rfl
theorem fnJoined_cf25 : (Tryz.prog.mayEnter) = true := by kernel_rfl
theorem fnJoined_cf26 : (Rows.fnJoinedRow.lifted == Tryz.prog.liftsFinal) = true := by kernel_rfl
theorem fnJoined_cf27 : (Tryz.prog.make == some Rows.fnJoinedRow.make) = true := by kernel_rfl
theorem fnJoined_cf28 : (Rows.fnJoinedRow.kinds == (if Rows.fnJoinedRow.domain.isEmpty then [] else Tryz.f5.params.toList.map fun t => match Tryz.prog.underlying t with | some (.int k) => some k | _ => none)) = true := by kernel_rfl
theorem fnJoined_cf29 : (Rows.fnJoinedRow.pinned == Rows.fnJoinedRow.pinnedBy) = true := by kernel_rfl
theorem fnJoined_cf30 : (Rows.fnJoinedRow.veiled == (Tryz.f5.params.toList ++ Rows.fnJoinedSpec.plain.varTypes Tryz.prog ++ Tryz.f5.resultTypes.toList).any (Tryz.prog.veiledRec ·)) = true := by kernel_rfl
theorem fnJoined_cf31 : (Rows.fnJoinedRow.veiledFits Tryz.prog Tryz.f5.params.toList (Tryz.f5.params.toList ++ Rows.fnJoinedSpec.plain.varTypes Tryz.prog ++ Tryz.f5.resultTypes.toList)) = true := by kernel_rfl
theorem fnJoined_and {a b : Bool} (h1 : a = true) (h2 : b = true) : (a && b) = true := by rw [h1, h2]; rfl
theorem fnJoined_cf : joinedFacts Tryz.prog 5 Tryz.f5 Rows.fnJoinedSpec Rows.fnJoinedRow = true := by
  unfold joinedFacts
  exact fnJoined_and (fnJoined_and (fnJoined_and (fnJoined_and (fnJoined_and (fnJoined_and (fnJoined_and (fnJoined_and (fnJoined_and (fnJoined_and (fnJoined_and (fnJoined_and (fnJoined_and (fnJoined_and (fnJoined_and (fnJoined_and (fnJoined_and (fnJoined_and (fnJoined_and (fnJoined_and (fnJoined_and (fnJoined_and (fnJoined_and (fnJoined_and (fnJoined_and (fnJoined_and (fnJoined_and (fnJoined_and (fnJoined_and (fnJoined_and (fnJoined_and (fnJoined_cf0) fnJoined_cf1) fnJoined_cf2) fnJoined_cf3) fnJoined_cf4) fnJoined_cf5) fnJoined_cf6) fnJoined_cf7) fnJoined_cf8) fnJoined_cf9) fnJoined_cf10) fnJoined_cf11) fnJoined_cf12) fnJoined_cf13) fnJoined_cf14) fnJoined_cf15) fnJoined_cf16) fnJoined_cf17) fnJoined_cf18) fnJoined_cf19) fnJoined_cf20) fnJoined_cf21) fnJoined_cf22) fnJoined_cf23) fnJoined_cf24) fnJoined_cf25) fnJoined_cf26) fnJoined_cf27) (by kernel_rfl)) fnJoined_cf29) fnJoined_cf30) fnJoined_cf31

end Go.Proofs.YtheppimoncokcaaGreat

/- laws.FnJoined answers true at every input, and leaves its arguments as they were. No condition. -/
namespace Go.Proofs.YtheppimoncokcaaGreat
open Go Go.RowKit Go.WideShapes Go.ChangeShapes Go.ChangeAt

set_option maxRecDepth 100000 in
set_option maxHeartbeats 1000000 in
theorem fnJoined_lifted (os : Os) (started : os.Started) (H : Type) (enc : TypeId × Value → H) :
    ReturnsInHanded {} Tryz.checked os 5 .any (Rows.fnJoinedSpec.pre6 enc Tryz.prog Tryz.f5 Rows.fnJoinedRow.domain false) (Rows.fnJoinedSpec.post enc Tryz.prog Tryz.f5 false true false false) := by
  refine returnsInHanded_of_change (C := Tryz.checked) own started (by kernel_rfl) Tryz.func5
    (ChangeSpec.witness6 (enc := enc) (C := Tryz.checked) false ⟨#[], #[.slice none 0 0, .slice none 0 0], []⟩ 8 (by kernel_rfl) (by kernel_rfl) (by kernel_rfl) (by kernel_rfl)) ?_
  intro W base args ds gs before hval0 hW _ _
  have hval : ∀ (j : Nat) t v, Tryz.f5.params[j]? = some t → args[j]? = some v → Value.okWide Tryz.prog W .any base t v := hval0
  have hW' := hW
  obtain ⟨p, q, hA0, hV, rfl, _, _⟩ := hW
  have hA : DataW.TrodAll enc Tryz.prog W 0 (fun _ => true) true Tryz.f5.params.toList args.toList ds p := hA0
  rw [Tryz.params5] at hA hval
  obtain ⟨v0, v1, d0, d1, p0, p1, rfl, rfl, rfl, h0, h1⟩ := trodAll_two hA
  obtain ⟨rfl, rfl⟩ := trodVars_none hV
  obtain ⟨z0, hz0⟩ := op_Bytes (hval 0 22 v0 rfl rfl) h0
  obtain ⟨z1, hz1⟩ := op_Bytes (hval 1 22 v1 rfl rfl) h1
  clear hA0 hval0
  exact (lawJoined_any v0 z0 v1 z1 W hz0 hz1).mono fun e W' ⟨he, hb⟩ => ⟨_, he, law_post laidOut (by kernel_rfl) rfl rfl rfl rfl rfl Tryz.underlying4 hW' hb⟩

theorem fnJoined_holds : Rows.FnJoinedSaid :=
  OpenClaim.holds_of_wide 5 Tryz.f5 rfl rfl rfl rfl rfl rfl rfl ⟨rfl, rfl, rfl, rfl, rfl⟩ rfl rfl rfl rfl rfl (by kernel_rfl) Tryz.func5 fnJoined_cf
    (of_decide_eq_true (by kernel_rfl)) (by unfold Func.isWrapper; rw [if_neg (of_decide_eq_false (by kernel_rfl))]; exact ⟨rfl, rfl⟩)
    (fun os started H enc _ => fnJoined_lifted os started H enc)
end Go.Proofs.YtheppimoncokcaaGreat

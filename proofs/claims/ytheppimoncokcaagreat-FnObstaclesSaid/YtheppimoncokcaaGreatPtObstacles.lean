/- The closed facts of the row of laws.FnObstacles, one by one. -/
import Derived.Test.YtheppimoncokcaaGreatRows
import Derived.Test.YtheppimoncokcaaGreatPk0
import Derived.Test.YtheppimoncokcaaGreatPk2
import Derived.Test.YtheppimoncokcaaGreatPk49
namespace Go.Proofs.YtheppimoncokcaaGreat
open Go Go.RowKit Go.WideShapes Go.ChangeShapes Go.ChangeAt
theorem fnObstacles_cf0 : (Rows.fnObstaclesRow.wf (OpenSpec.ofChange Rows.fnObstaclesSpec)) = true := by kernel_rfl
theorem fnObstacles_cf1 : (laidOutB Tryz.prog) = true := by kernel_rfl
theorem fnObstacles_cf2 : (mapsRowed Tryz.prog) = true := by kernel_rfl
theorem fnObstacles_cf3 : (Tryz.f6.params.all (Tryz.prog.readableRec ·)) = true := by kernel_rfl
theorem fnObstacles_cf4 : (namedTie Tryz.prog Rows.fnObstaclesRow.named Rows.fnObstaclesSpec.vars) = true := by kernel_rfl
theorem fnObstacles_cf5 : (Rows.fnObstaclesRow.stops == []) = true := by kernel_rfl
theorem fnObstacles_cf6 : (Tryz.prog.stops == []) = true := by kernel_rfl
theorem fnObstacles_cf7 : (Rows.fnObstaclesRow.knobs == []) = true := by kernel_rfl
theorem fnObstacles_cf8 : (Tryz.prog.stopKnobs == []) = true := by kernel_rfl
theorem fnObstacles_cf9 : (Rows.fnObstaclesRow.inPlace == Tryz.prog.inPlace 6) = true := by kernel_rfl
theorem fnObstacles_cf10 : (Rows.fnObstaclesRow.unfollowed == Tryz.prog.unfollowed 6) = true := by kernel_rfl
theorem fnObstacles_cf11 : (Rows.fnObstaclesRow.recurses == Tryz.prog.recurses 6) = true := by kernel_rfl
theorem fnObstacles_cf12 : (Rows.fnObstaclesRow.named == Tryz.prog.varsNamed 6) = true := by kernel_rfl
theorem fnObstacles_cf13 : (Rows.fnObstaclesRow.maps == (Tryz.f6.params.toList ++ Rows.fnObstaclesSpec.plain.varTypes Tryz.prog).any (Tryz.prog.mapsRec ·)) = true := by kernel_rfl
theorem fnObstacles_cf14 : (Rows.fnObstaclesRow.ifaces == (Tryz.f6.params.toList ++ Rows.fnObstaclesSpec.plain.varTypes Tryz.prog).any (Tryz.prog.ifacesRec ·)) = true := by kernel_rfl
theorem fnObstacles_cf15 : (Rows.fnObstaclesRow.mapsOut == Tryz.prog.mapsAmong Tryz.f6.resultTypes.toList) = true := by kernel_rfl
theorem fnObstacles_cf16 : (Rows.fnObstaclesRow.loops == (Tryz.f6.params.toList ++ Rows.fnObstaclesSpec.plain.varTypes Tryz.prog).any (Tryz.prog.loopsFrom ·)) = true := by kernel_rfl
theorem fnObstacles_cf17 : (Rows.fnObstaclesRow.wideKeys == (Tryz.f6.params.toList ++ Rows.fnObstaclesSpec.plain.varTypes Tryz.prog ++ Tryz.f6.resultTypes.toList).any (Tryz.prog.wideKeysFrom ·)) = true := by kernel_rfl
theorem fnObstacles_cf18 : (Rows.fnObstaclesSpec.vars.all (Tryz.prog.varReadable ·)) = true := by kernel_rfl
theorem fnObstacles_cf19 : (Tryz.f6.resultTypes.all (fun t => Tryz.prog.readableRec t && decide (t < Tryz.prog.types.size))) = true := by kernel_rfl
theorem fnObstacles_cf20 : (Rows.fnObstaclesRow.ifacesOut == Tryz.f6.resultTypes.toList.any (Tryz.prog.ifacesRec ·)) = true := by kernel_rfl
theorem fnObstacles_cf21 : (Rows.fnObstaclesRow.loopsOut == Tryz.f6.resultTypes.toList.any (Tryz.prog.loopsFrom ·)) = true := by kernel_rfl
theorem fnObstacles_cf22 : (Rows.fnObstaclesRow.plainKeys == Tryz.prog.plainKeys) = true := by kernel_rfl
theorem fnObstacles_cf23 : (Rows.fnObstaclesRow.shortTexts.isNone) = true := by kernel_rfl
theorem fnObstacles_cf24 : (Tryz.prog.stopsHeard) = true := by kernel_rfl
theorem fnObstacles_cf25 : (Tryz.prog.mayEnter) = true := by kernel_rfl
theorem fnObstacles_cf26 : (Rows.fnObstaclesRow.lifted == Tryz.prog.liftsFinal) = true := by kernel_rfl
theorem fnObstacles_cf27 : (Tryz.prog.make == some Rows.fnObstaclesRow.make) = true := by kernel_rfl
theorem fnObstacles_cf28 : (Rows.fnObstaclesRow.kinds == (if Rows.fnObstaclesRow.domain.isEmpty then [] else Tryz.f6.params.toList.map fun t => match Tryz.prog.underlying t with | some (.int k) => some k | _ => none)) = true := by kernel_rfl
theorem fnObstacles_cf29 : (Rows.fnObstaclesRow.pinned == Rows.fnObstaclesRow.pinnedBy) = true := by kernel_rfl
theorem fnObstacles_cf30 : (Rows.fnObstaclesRow.veiled == (Tryz.f6.params.toList ++ Rows.fnObstaclesSpec.plain.varTypes Tryz.prog ++ Tryz.f6.resultTypes.toList).any (Tryz.prog.veiledRec ·)) = true := by kernel_rfl
theorem fnObstacles_cf31 : (Rows.fnObstaclesRow.veiledFits Tryz.prog Tryz.f6.params.toList (Tryz.f6.params.toList ++ Rows.fnObstaclesSpec.plain.varTypes Tryz.prog ++ Tryz.f6.resultTypes.toList)) = true := by kernel_rfl
theorem fnObstacles_and {a b : Bool} (h1 : a = true) (h2 : b = true) : (a && b) = true := by rw [h1, h2]; rfl
theorem fnObstacles_cf : joinedFacts Tryz.prog 6 Tryz.f6 Rows.fnObstaclesSpec Rows.fnObstaclesRow = true := by
  unfold joinedFacts
  exact fnObstacles_and (fnObstacles_and (fnObstacles_and (fnObstacles_and (fnObstacles_and (fnObstacles_and (fnObstacles_and (fnObstacles_and (fnObstacles_and (fnObstacles_and (fnObstacles_and (fnObstacles_and (fnObstacles_and (fnObstacles_and (fnObstacles_and (fnObstacles_and (fnObstacles_and (fnObstacles_and (fnObstacles_and (fnObstacles_and (fnObstacles_and (fnObstacles_and (fnObstacles_and (fnObstacles_and (fnObstacles_and (fnObstacles_and (fnObstacles_and (fnObstacles_and (fnObstacles_and (fnObstacles_and (fnObstacles_and (fnObstacles_cf0) fnObstacles_cf1) fnObstacles_cf2) fnObstacles_cf3) fnObstacles_cf4) fnObstacles_cf5) fnObstacles_cf6) fnObstacles_cf7) fnObstacles_cf8) fnObstacles_cf9) fnObstacles_cf10) fnObstacles_cf11) fnObstacles_cf12) fnObstacles_cf13) fnObstacles_cf14) fnObstacles_cf15) fnObstacles_cf16) fnObstacles_cf17) fnObstacles_cf18) fnObstacles_cf19) fnObstacles_cf20) fnObstacles_cf21) fnObstacles_cf22) fnObstacles_cf23) fnObstacles_cf24) fnObstacles_cf25) fnObstacles_cf26) fnObstacles_cf27) (by kernel_rfl)) fnObstacles_cf29) fnObstacles_cf30) fnObstacles_cf31

end Go.Proofs.YtheppimoncokcaaGreat

/- laws.FnObstacles answers true at every input, and leaves its arguments as they were. No condition. -/
namespace Go.Proofs.YtheppimoncokcaaGreat
open Go Go.RowKit Go.WideShapes Go.ChangeShapes Go.ChangeAt

set_option maxRecDepth 100000 in
set_option maxHeartbeats 1000000 in
theorem fnObstacles_lifted (os : Os) (started : os.Started) (H : Type) (enc : TypeId × Value → H) :
    ReturnsInHanded {} Tryz.checked os 6 .any (Rows.fnObstaclesSpec.pre6 enc Tryz.prog Tryz.f6 Rows.fnObstaclesRow.domain false) (Rows.fnObstaclesSpec.post enc Tryz.prog Tryz.f6 false true false false) := by
  refine returnsInHanded_of_change (C := Tryz.checked) own started (by kernel_rfl) Tryz.func6
    (ChangeSpec.witness6 (enc := enc) (C := Tryz.checked) false ⟨#[], #[.slice none 0 0, .slice none 0 0], []⟩ 8 (by kernel_rfl) (by kernel_rfl) (by kernel_rfl) (by kernel_rfl)) ?_
  intro W base args ds gs before hval0 hW _ _
  have hval : ∀ (j : Nat) t v, Tryz.f6.params[j]? = some t → args[j]? = some v → Value.okWide Tryz.prog W .any base t v := hval0
  have hW' := hW
  obtain ⟨p, q, hA0, hV, rfl, _, _⟩ := hW
  have hA : DataW.TrodAll enc Tryz.prog W 0 (fun _ => true) true Tryz.f6.params.toList args.toList ds p := hA0
  rw [Tryz.params6] at hA hval
  obtain ⟨v0, v1, d0, d1, p0, p1, rfl, rfl, rfl, h0, h1⟩ := trodAll_two hA
  obtain ⟨rfl, rfl⟩ := trodVars_none hV
  obtain ⟨z0, hz0⟩ := op_Bytes (hval 0 22 v0 rfl rfl) h0
  obtain ⟨z1, hz1⟩ := op_Bytes (hval 1 22 v1 rfl rfl) h1
  clear hA0 hval0
  exact (lawObstacles_any v0 z0 v1 z1 W hz0 hz1).mono fun e W' ⟨he, hb⟩ => ⟨_, he, law_post laidOut (by kernel_rfl) rfl rfl rfl rfl rfl Tryz.underlying4 hW' hb⟩

theorem fnObstacles_holds : Rows.FnObstaclesSaid :=
  OpenClaim.holds_of_wide 6 Tryz.f6 rfl rfl rfl rfl rfl rfl rfl ⟨rfl, rfl, rfl, rfl, rfl⟩ rfl rfl rfl rfl rfl (by kernel_rfl) Tryz.func6 fnObstacles_cf
    (of_decide_eq_true (by kernel_rfl)) (by unfold Func.isWrapper; rw [if_neg (of_decide_eq_false (by kernel_rfl))]; exact ⟨rfl, rfl⟩)
    (fun os started H enc _ => fnObstacles_lifted os started H enc)
end Go.Proofs.YtheppimoncokcaaGreat

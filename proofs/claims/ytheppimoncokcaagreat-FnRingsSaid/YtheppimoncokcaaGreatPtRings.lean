/- The closed facts of the row of laws.FnRings, one by one. -/
import Derived.Test.YtheppimoncokcaaGreatRows
import Derived.Test.YtheppimoncokcaaGreatPk0
import Derived.Test.YtheppimoncokcaaGreatPk2
import Derived.Test.YtheppimoncokcaaGreatPk46
namespace Go.Proofs.YtheppimoncokcaaGreat
open Go Go.RowKit Go.WideShapes Go.ChangeShapes Go.ChangeAt
theorem fnRings_cf0 : (Rows.fnRingsRow.wf (OpenSpec.ofChange Rows.fnRingsSpec)) = true := by kernel_rfl
theorem fnRings_cf1 : (laidOutB Tryz.prog) = true := by kernel_rfl
theorem fnRings_cf2 : (mapsRowed Tryz.prog) = true := by kernel_rfl
theorem fnRings_cf3 : (Tryz.f4.params.all (Tryz.prog.readableRec ·)) = true := by kernel_rfl
theorem fnRings_cf4 : (namedTie Tryz.prog Rows.fnRingsRow.named Rows.fnRingsSpec.vars) = true := by kernel_rfl
theorem fnRings_cf5 : (Rows.fnRingsRow.stops == []) = true := by kernel_rfl
theorem fnRings_cf6 : (Tryz.prog.stops == []) = true := by kernel_rfl
theorem fnRings_cf7 : (Rows.fnRingsRow.knobs == []) = true := by kernel_rfl
theorem fnRings_cf8 : (Tryz.prog.stopKnobs == []) = true := by kernel_rfl
theorem fnRings_cf9 : (Rows.fnRingsRow.inPlace == Tryz.prog.inPlace 4) = true := by kernel_rfl
theorem fnRings_cf10 : (Rows.fnRingsRow.unfollowed == Tryz.prog.unfollowed 4) = true := by kernel_rfl
theorem fnRings_cf11 : (Rows.fnRingsRow.recurses == Tryz.prog.recurses 4) = true := by kernel_rfl
theorem fnRings_cf12 : (Rows.fnRingsRow.named == Tryz.prog.varsNamed 4) = true := by kernel_rfl
theorem fnRings_cf13 : (Rows.fnRingsRow.maps == (Tryz.f4.params.toList ++ Rows.fnRingsSpec.plain.varTypes Tryz.prog).any (Tryz.prog.mapsRec ·)) = true := by kernel_rfl
theorem fnRings_cf14 : (Rows.fnRingsRow.ifaces == (Tryz.f4.params.toList ++ Rows.fnRingsSpec.plain.varTypes Tryz.prog).any (Tryz.prog.ifacesRec ·)) = true := by kernel_rfl
theorem fnRings_cf15 : (Rows.fnRingsRow.mapsOut == Tryz.prog.mapsAmong Tryz.f4.resultTypes.toList) = true := by kernel_rfl
theorem fnRings_cf16 : (Rows.fnRingsRow.loops == (Tryz.f4.params.toList ++ Rows.fnRingsSpec.plain.varTypes Tryz.prog).any (Tryz.prog.loopsFrom ·)) = true := by kernel_rfl
theorem fnRings_cf17 : (Rows.fnRingsRow.wideKeys == (Tryz.f4.params.toList ++ Rows.fnRingsSpec.plain.varTypes Tryz.prog ++ Tryz.f4.resultTypes.toList).any (Tryz.prog.wideKeysFrom ·)) = true := by kernel_rfl
theorem fnRings_cf18 : (Rows.fnRingsSpec.vars.all (Tryz.prog.varReadable ·)) = true := by kernel_rfl
theorem fnRings_cf19 : (Tryz.f4.resultTypes.all (fun t => Tryz.prog.readableRec t && decide (t < Tryz.prog.types.size))) = true := by kernel_rfl
theorem fnRings_cf20 : (Rows.fnRingsRow.ifacesOut == Tryz.f4.resultTypes.toList.any (Tryz.prog.ifacesRec ·)) = true := by kernel_rfl
theorem fnRings_cf21 : (Rows.fnRingsRow.loopsOut == Tryz.f4.resultTypes.toList.any (Tryz.prog.loopsFrom ·)) = true := by kernel_rfl
theorem fnRings_cf22 : (Rows.fnRingsRow.plainKeys == Tryz.prog.plainKeys) = true := by kernel_rfl
theorem fnRings_cf23 : (Rows.fnRingsRow.shortTexts.isNone) = true := by kernel_rfl
theorem fnRings_cf24 : (Tryz.prog.stopsHeard) = true := by kernel_rfl
theorem fnRings_cf25 : (Tryz.prog.mayEnter) = true := by kernel_rfl
theorem fnRings_cf26 : (Rows.fnRingsRow.lifted == Tryz.prog.liftsFinal) = true := by kernel_rfl
theorem fnRings_cf27 : (Tryz.prog.make == some Rows.fnRingsRow.make) = true := by kernel_rfl
theorem fnRings_cf28 : (Rows.fnRingsRow.kinds == (if Rows.fnRingsRow.domain.isEmpty then [] else Tryz.f4.params.toList.map fun t => match Tryz.prog.underlying t with | some (.int k) => some k | _ => none)) = true := by kernel_rfl
theorem fnRings_cf29 : (Rows.fnRingsRow.pinned == Rows.fnRingsRow.pinnedBy) = true := by kernel_rfl
theorem fnRings_cf30 : (Rows.fnRingsRow.veiled == (Tryz.f4.params.toList ++ Rows.fnRingsSpec.plain.varTypes Tryz.prog ++ Tryz.f4.resultTypes.toList).any (Tryz.prog.veiledRec ·)) = true := by kernel_rfl
theorem fnRings_cf31 : (Rows.fnRingsRow.veiledFits Tryz.prog Tryz.f4.params.toList (Tryz.f4.params.toList ++ Rows.fnRingsSpec.plain.varTypes Tryz.prog ++ Tryz.f4.resultTypes.toList)) = true := by kernel_rfl
theorem fnRings_and {a b : Bool} (h1 : a = true) (h2 : b = true) : (a && b) = true := by rw [h1, h2]; rfl
theorem fnRings_cf : joinedFacts Tryz.prog 4 Tryz.f4 Rows.fnRingsSpec Rows.fnRingsRow = true := by
  unfold joinedFacts
  exact fnRings_and (fnRings_and (fnRings_and (fnRings_and (fnRings_and (fnRings_and (fnRings_and (fnRings_and (fnRings_and (fnRings_and (fnRings_and (fnRings_and (fnRings_and (fnRings_and (fnRings_and (fnRings_and (fnRings_and (fnRings_and (fnRings_and (fnRings_and (fnRings_and (fnRings_and (fnRings_and (fnRings_and (fnRings_and (fnRings_and (fnRings_and (fnRings_and (fnRings_and (fnRings_and (fnRings_and (fnRings_cf0) fnRings_cf1) fnRings_cf2) fnRings_cf3) fnRings_cf4) fnRings_cf5) fnRings_cf6) fnRings_cf7) fnRings_cf8) fnRings_cf9) fnRings_cf10) fnRings_cf11) fnRings_cf12) fnRings_cf13) fnRings_cf14) fnRings_cf15) fnRings_cf16) fnRings_cf17) fnRings_cf18) fnRings_cf19) fnRings_cf20) fnRings_cf21) fnRings_cf22) fnRings_cf23) fnRings_cf24) fnRings_cf25) fnRings_cf26) fnRings_cf27) (by kernel_rfl)) fnRings_cf29) fnRings_cf30) fnRings_cf31

end Go.Proofs.YtheppimoncokcaaGreat

/- laws.FnRings answers true at every input, and leaves its arguments as they were. No condition. -/
namespace Go.Proofs.YtheppimoncokcaaGreat
open Go Go.RowKit Go.WideShapes Go.ChangeShapes Go.ChangeAt

set_option maxRecDepth 100000 in
set_option maxHeartbeats 1000000 in
theorem fnRings_lifted (os : Os) (started : os.Started) (H : Type) (enc : TypeId × Value → H) :
    ReturnsInHanded {} Tryz.checked os 4 .any (Rows.fnRingsSpec.pre6 enc Tryz.prog Tryz.f4 Rows.fnRingsRow.domain false) (Rows.fnRingsSpec.post enc Tryz.prog Tryz.f4 false true false false) := by
  refine returnsInHanded_of_change (C := Tryz.checked) own started (by kernel_rfl) Tryz.func4
    (ChangeSpec.witness6 (enc := enc) (C := Tryz.checked) false ⟨#[], #[.slice none 0 0, .slice none 0 0], []⟩ 8 (by kernel_rfl) (by kernel_rfl) (by kernel_rfl) (by kernel_rfl)) ?_
  intro W base args ds gs before hval0 hW _ _
  have hval : ∀ (j : Nat) t v, Tryz.f4.params[j]? = some t → args[j]? = some v → Value.okWide Tryz.prog W .any base t v := hval0
  have hW' := hW
  obtain ⟨p, q, hA0, hV, rfl, _, _⟩ := hW
  have hA : DataW.TrodAll enc Tryz.prog W 0 (fun _ => true) true Tryz.f4.params.toList args.toList ds p := hA0
  rw [Tryz.params4] at hA hval
  obtain ⟨v0, v1, d0, d1, p0, p1, rfl, rfl, rfl, h0, h1⟩ := trodAll_two hA
  obtain ⟨rfl, rfl⟩ := trodVars_none hV
  obtain ⟨z0, hz0⟩ := op_Bytes (hval 0 22 v0 rfl rfl) h0
  obtain ⟨z1, hz1⟩ := op_Bytes (hval 1 22 v1 rfl rfl) h1
  clear hA0 hval0
  exact (lawRings_any v0 z0 v1 z1 W hz0 hz1).mono fun e W' ⟨he, hb⟩ => ⟨_, he, law_post laidOut (by kernel_rfl) rfl rfl rfl rfl rfl Tryz.underlying4 hW' hb⟩

theorem fnRings_holds : Rows.FnRingsSaid :=
  OpenClaim.holds_of_wide 4 Tryz.f4 rfl rfl rfl rfl rfl rfl rfl ⟨rfl, rfl, rfl, rfl, rfl⟩ rfl rfl rfl rfl rfl (by kernel_rfl) Tryz.func4 fnRings_cf
    (of_decide_eq_true (by kernel_rfl)) (by unfold Func.isWrapper; rw [if_neg (of_decide_eq_false (by kernel_rfl))]; exact ⟨rfl, rfl⟩)
    (fun os started H enc _ => fnRings_lifted os started H enc)
end Go.Proofs.YtheppimoncokcaaGreat

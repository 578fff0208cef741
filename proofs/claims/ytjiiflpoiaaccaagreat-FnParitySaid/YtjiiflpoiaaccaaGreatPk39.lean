/- The law on the parity of rings. -/
import Derived.Test.YtjiiflpoiaaccaaGreatPk31
import Derived.Test.YtjiiflpoiaaccaaGreatPk38
import Derived.Test.YtjiiflpoiaaccaaGreatRows
import Derived.Test.YtjiiflpoiaaccaaGreatPk0
namespace Go.Proofs.YtjiiflpoiaaccaaGreat
open Go Go.RowKit
set_option linter.unusedVariables false
set_option linter.unusedSimpArgs false

theorem bigB_any (A B : Option Addr) (n c k d : Nat) (w : World) (hn : n ≤ 9223372036854775807) (hk : k ≤ 9223372036854775807) : Calls Tryz.prog 21 #[.slice A n c, .slice B k d] w fun e w' => ∃ b, e = .returned (.bool b) ∧ w = w' := by
  go_enter Tryz.func21, Tryz.ntmps21
  by_cases h : n ≤ 1048576
  · have h1 : ¬ (1048576 : Int) < n := by omega
    have h2 : IntKind.i64.wrap (1048576 - (n : Int)) = 1048576 - (n : Int) := IntWalk.i64_in _ (by omega)
    by_cases h3 : 1048576 - (n : Int) < k
    · go_wp2_with fail
      go_ret
      simp [h3]
    · go_wp2_with fail
      go_ret
      simp [h3]
  · have h1 : (1048576 : Int) < n := by omega
    go_wp2_with fail
    go_ret
    first | exact ⟨_, rfl, rfl⟩ | exact ⟨_, rfl⟩ | exact rfl

set_option maxRecDepth 100000 in
set_option maxHeartbeats 8000000 in
theorem lawParity_any (V : Value) (zV : Nat) (U : Value) (zU : Nat) (w : World) (hV : BytesAt w w.heap.size V) (hU : BytesAt w w.heap.size U) : Calls Tryz.prog 13 #[V, U] w fun e w' => e = .returned (.bool true) ∧ Below w.heap.size w w' := by
  have HV := Lib.hid hV
  have HU := Lib.hid hU
  obtain ⟨A1, n1, c1, zs1, rfl, _, _, hm1, _⟩ := hV
  obtain ⟨A2, n2, c2, zs2, rfl, _, _, hm2, _⟩ := hU
  unfold maxLen at hm1 hm2
  go_enter Tryz.func13, Tryz.ntmps13
  go_wp2_with fail
  refine (bigB_any A1 A2 n1 c1 n2 c2 w (by omega) (by omega)).mono ?_; rintro e w0 ⟨bb, rfl, rfl⟩
  cases bb
  rotate_left
  · go_wp2_with fail
    go_ret
    exact ⟨rfl, Below.refl _ _⟩
  go_wp2_with fail
  refine (drawRingsIn_any _ w HV.out).mono ?_; rintro e w1 ⟨m, v, k, Vb, bobs, rfl, hP, hB, hbl⟩
  obtain ⟨hms, hks⟩ := hP.small
  have HM := Lib.hid hP.meth
  have HBo := Lib.hid hB.strs
  have W1 := Lib.hid hP.bw
  obtain ⟨ok, one, L, q, nn, hF⟩ := parity_facts m k bobs hms hks (by omega)
  have hRi := Lib.hid hF.ri
  have hRs := Lib.hid hF.rs
  have hSr := Lib.hid hF.sr
  have hOo := Lib.hid hF.oo
  have hYes := Lib.hid hF.yes
  have hLb := hF.Lb
  have hnb := hF.nb
  have hbo := Lib.hid hF.bl
  have hMs := Lib.hid hms
  have hKs := Lib.hid hks
  obtain ⟨Ab, cb, rfl⟩ : ∃ A c, Vb = .slice A bobs.length c := by obtain ⟨A, c, e, _⟩ := hB.strs; exact ⟨A, c, e⟩
  obtain ⟨A, c, ev⟩ := hP.meth.form
  subst ev
  clear hF hP hB hms hks
  unfold Mt.v Cl.v at *
  simp only
  go_upto_region 4 with fail
  refine box2 (C := fun W => Code.wp _ _ _ _ W) ?_
  intro w2 hw2 k1 k2 hB2
  have R1 := boxRule k1
  have R2 := boxRule k2
  have W2 := Lib.hid (bw_to W1.out hw2)
  have HM2 := Lib.hid (HM.out.to hw2)
  have HB2 := Lib.hid (HBo.out.to hw2)
  clear k1 k2 hw2 HM HBo W1
  go_wp2_with fail
  refine (hRi.out _ _ _ HM2.out HB2.out).mono ?_; rintro e w3 ⟨A3, q3, rfl, hb3⟩
  go_wp2_with fail
  refine (hRs.out _ _ _ (HM2.out.to hb3) (HB2.out.to hb3)).mono ?_; rintro e w4 ⟨A4, q4, rfl, hb4⟩
  have hB4 := bw_to hb3 hb4
  clear hb3 hb4
  go_wp2_with fail
  refine (hSr.out _ _ (HM2.out.to hB4)).mono ?_; rintro e w5 ⟨rfl, hb5⟩
  have hB5 := bw_to hB4 hb5
  clear hB4 hb5
  go_wp2_with fail
  refine (hOo.out _).mono ?_; rintro e w6 ⟨rfl, hb6⟩
  have hB6 := bw_to hB5 hb6
  clear hB5 hb6
  cases ok
  · go_upto_region 14 with fail
    have W6 := Lib.hid (bw_to W2.out hB6)
    have HU2 : BytesAt w6 w6.heap.size (.slice A2 n2 c2) := (HU.out.keep (fun p hp => W6.out.cell hp)).more W6.out.size
    go_wp2_with fail
    refine (drawRingsSign_any _ w6 HU2).mono ?_; rintro e w7 ⟨m', v', k', z, rfl, hP', hz0, hz1⟩
    obtain ⟨hms', hks'⟩ := hP'.small
    have HM7 := Lib.hid hP'.meth
    have W7 := Lib.hid hP'.bw
    obtain ⟨sg, sb, hsi, hss⟩ := sign_both m' k' z hms' hks'
    have Hsi := Lib.hid hsi
    have Hss := Lib.hid hss
    obtain ⟨A', c', ev'⟩ := hP'.meth.form
    subst ev'
    clear hP' hms' hks' hsi hss HU2 R1 R2 hz0 hz1
    unfold Mt.v Cl.v at *
    simp only
    go_upto_region 15 with fail
    refine box2 (C := fun W => Code.wp _ _ _ _ W) ?_
    intro w8 hw8 k1 k2 hB8
    have R1 := boxRule k1
    have R2 := boxRule k2
    have W8 := Lib.hid (bw_to W7.out hw8)
    have HM8 := Lib.hid (HM7.out.to hw8)
    clear k1 k2 hw8 HM7 W7
    cases sg
    all_goals
      cases sb
    all_goals
      go_wp2_with fail
      refine (Hsi.out _ _ HM8.out).mono ?_; rintro e w9 ⟨rfl, hb9⟩
      go_wp2_with fail
      refine (Hss.out _ _ (HM8.out.to hb9)).mono ?_; rintro e w10 ⟨rfl, hb10⟩
      have W10 := Lib.hid (bw_to W6.out (bw_to W8.out (bw_to hb9 hb10)))
      clear hb9 hb10
      go_wp2_with fail
      go_ret
      exact ⟨rfl, W10.out⟩
  · obtain ⟨h1, hn1, s, hs1, hsg⟩ := hYes.out rfl
    have hbb := hbo.out rfl
    subst h1
    have Hsg := Lib.hid hsg
    have hnp : (0 : Int) < (nn : Int) := by omega
    have hn0 : ¬ ((nn : Int) = 0) := by omega
    have hm0 : Int.tmod (bobs.length : Int) (nn : Int) = 0 := by
      rw [hs1, Int.natCast_mul]; exact Int.mul_tmod_left _ _
    have hd0 : Int.tdiv (bobs.length : Int) (nn : Int) = (s : Int) := by
      rw [hs1, Int.natCast_mul]; exact Int.mul_tdiv_cancel _ hn0
    have hsb : s ≤ bobs.length := by rw [hs1]; exact Nat.le_mul_of_pos_right _ (by omega)
    have hws : IntKind.i64.wrap (s : Int) = (s : Int) := IntWalk.i64_in _ (by omega)
    have hw0 : IntKind.i64.wrap (0 : Int) = 0 := by decide
    have hdiv0 : (bobs.length : Int) / (nn : Int) = (s : Int) := by
      rw [hs1, Int.natCast_mul]; exact Int.mul_ediv_cancel _ hn0
    have hmod0 : (bobs.length : Int) % (nn : Int) = 0 := by
      rw [hs1, Int.natCast_mul]; exact Int.mul_emod_left _ _
    clear hsg hs1 hYes
    by_cases hs100 : (s : Int) ≤ 100
    · have hd100 : decide ((s : Int) ≤ 100) = true := decide_eq_true hs100
      rw [hd100] at Hsg
      obtain ⟨bL, hbL⟩ : ∃ b, b = decide (L % 2 = 0) := ⟨_, rfl⟩
      rw [← hbL] at Hsg
      have hL2 : ((L : Int) % 2 == 0) = bL := by
        rw [hbL, Bool.eq_iff_iff, beq_iff_eq, decide_eq_true_eq]
        omega
      have hLt : Int.tmod (L : Int) 2 = (L : Int) % 2 := Int.tmod_eq_emod_of_nonneg (by omega)
      have hwL : IntKind.i64.wrap ((L : Int) % 2) = (L : Int) % 2 := IntWalk.i64_in _ (by omega)
      clear hbL hd100
      have hnn0 : (nn = 0) = False := by simp; omega
      have hnnb : ((nn : Int) == 0) = false := by simp; omega
      have hnnI : ((nn : Int) = 0) = False := by simp; omega
      cases bL
      all_goals
        go_upto_region 11 with fail
        go_region_held3 (fun W => Below w2.heap.size w2 W) (first | exact Below.drew (by assumption) | assumption) (first | (go_at_call 92; refine (Hsg.out _ _ (HM2.out.to (Below.drew hB6))).mono ?_; rintro e w66 ⟨rfl, hb'⟩; (have hB66 := bw_to (Below.drew hB6) hb')))
        go_upto_region 14 with fail
        have W6 := Lib.hid (bw_to W2.out hB66)
        have HU2 : BytesAt w66 w66.heap.size (.slice A2 n2 c2) := (HU.out.keep (fun p hp => W6.out.cell hp)).more W6.out.size
        go_wp2_with fail
        refine (drawRingsSign_any _ w66 HU2).mono ?_; rintro e w7 ⟨m', v', k', z, rfl, hP', hz0, hz1⟩
        obtain ⟨hms', hks'⟩ := hP'.small
        have HM7 := Lib.hid hP'.meth
        have W7 := Lib.hid hP'.bw
        obtain ⟨sg, sb, hsi, hss⟩ := sign_both m' k' z hms' hks'
        have Hsi := Lib.hid hsi
        have Hss := Lib.hid hss
        obtain ⟨A', c', ev'⟩ := hP'.meth.form
        subst ev'
        clear hP' hms' hks' hsi hss HU2 R1 R2 hz0 hz1
        unfold Mt.v Cl.v at *
        simp only
        go_upto_region 15 with fail
        refine box2 (C := fun W => Code.wp _ _ _ _ W) ?_
        intro w8 hw8 k1 k2 hB8
        have R1 := boxRule k1
        have R2 := boxRule k2
        have W8 := Lib.hid (bw_to W7.out hw8)
        have HM8 := Lib.hid (HM7.out.to hw8)
        clear k1 k2 hw8 HM7 W7
        cases sg
        all_goals
          cases sb
        all_goals
          go_wp2_with fail
          refine (Hsi.out _ _ HM8.out).mono ?_; rintro e w9 ⟨rfl, hb9⟩
          go_wp2_with fail
          refine (Hss.out _ _ (HM8.out.to hb9)).mono ?_; rintro e w10 ⟨rfl, hb10⟩
          have W10 := Lib.hid (bw_to W6.out (bw_to W8.out (bw_to hb9 hb10)))
          clear hb9 hb10
          go_wp2_with fail
          go_ret
          exact ⟨rfl, W10.out⟩
    · go_upto_region 14 with fail
      have W6 := Lib.hid (bw_to W2.out hB6)
      have HU2 : BytesAt w6 w6.heap.size (.slice A2 n2 c2) := (HU.out.keep (fun p hp => W6.out.cell hp)).more W6.out.size
      go_wp2_with fail
      refine (drawRingsSign_any _ w6 HU2).mono ?_; rintro e w7 ⟨m', v', k', z, rfl, hP', hz0, hz1⟩
      obtain ⟨hms', hks'⟩ := hP'.small
      have HM7 := Lib.hid hP'.meth
      have W7 := Lib.hid hP'.bw
      obtain ⟨sg, sb, hsi, hss⟩ := sign_both m' k' z hms' hks'
      have Hsi := Lib.hid hsi
      have Hss := Lib.hid hss
      obtain ⟨A', c', ev'⟩ := hP'.meth.form
      subst ev'
      clear hP' hms' hks' hsi hss HU2 R1 R2 hz0 hz1
      unfold Mt.v Cl.v at *
      simp only
      go_upto_region 15 with fail
      refine box2 (C := fun W => Code.wp _ _ _ _ W) ?_
      intro w8 hw8 k1 k2 hB8
      have R1 := boxRule k1
      have R2 := boxRule k2
      have W8 := Lib.hid (bw_to W7.out hw8)
      have HM8 := Lib.hid (HM7.out.to hw8)
      clear k1 k2 hw8 HM7 W7
      cases sg
      all_goals
        cases sb
      all_goals
        go_wp2_with fail
        refine (Hsi.out _ _ HM8.out).mono ?_; rintro e w9 ⟨rfl, hb9⟩
        go_wp2_with fail
        refine (Hss.out _ _ (HM8.out.to hb9)).mono ?_; rintro e w10 ⟨rfl, hb10⟩
        have W10 := Lib.hid (bw_to W6.out (bw_to W8.out (bw_to hb9 hb10)))
        clear hb9 hb10
        go_wp2_with fail
        go_ret
        exact ⟨rfl, W10.out⟩
end Go.Proofs.YtjiiflpoiaaccaaGreat

/- The closed facts of the row of laws.FnParity, one by one. -/
namespace Go.Proofs.YtjiiflpoiaaccaaGreat
open Go Go.RowKit Go.WideShapes Go.ChangeShapes Go.ChangeAt
theorem fnParity_cf0 : (Rows.fnParityRow.wf (OpenSpec.ofChange Rows.fnParitySpec)) = true := by kernel_rfl
theorem fnParity_cf1 : (laidOutB Tryz.prog) = true := by kernel_rfl
theorem fnParity_cf2 : (mapsRowed Tryz.prog) = true := by kernel_rfl
theorem fnParity_cf3 : (Tryz.f13.params.all (Tryz.prog.readableRec ·)) = true := by kernel_rfl
theorem fnParity_cf4 : (namedTie Tryz.prog Rows.fnParityRow.named Rows.fnParitySpec.vars) = true := by kernel_rfl
theorem fnParity_cf5 : (Rows.fnParityRow.stops == []) = true := by kernel_rfl
theorem fnParity_cf6 : (Tryz.prog.stops == []) = true := by kernel_rfl
theorem fnParity_cf7 : (Rows.fnParityRow.knobs == []) = true := by kernel_rfl
theorem fnParity_cf8 : (Tryz.prog.stopKnobs == []) = true := by kernel_rfl
theorem fnParity_cf9 : (Rows.fnParityRow.inPlace == Tryz.prog.inPlace 13) = true := by kernel_rfl
theorem fnParity_cf10 : (Rows.fnParityRow.unfollowed == Tryz.prog.unfollowed 13) = true := by kernel_rfl
theorem fnParity_cf11 : (Rows.fnParityRow.recurses == Tryz.prog.recurses 13) = true := by kernel_rfl
theorem fnParity_cf12 : (Rows.fnParityRow.named == Tryz.prog.varsNamed 13) = true := by kernel_rfl
theorem fnParity_cf13 : (Rows.fnParityRow.maps == (Tryz.f13.params.toList ++ Rows.fnParitySpec.plain.varTypes Tryz.prog).any (Tryz.prog.mapsRec ·)) = true := by kernel_rfl
theorem fnParity_cf14 : (Rows.fnParityRow.ifaces == (Tryz.f13.params.toList ++ Rows.fnParitySpec.plain.varTypes Tryz.prog).any (Tryz.prog.ifacesRec ·)) = true := by kernel_rfl
theorem fnParity_cf15 : (Rows.fnParityRow.mapsOut == Tryz.prog.mapsAmong Tryz.f13.resultTypes.toList) = true := by kernel_rfl
theorem fnParity_cf16 : (Rows.fnParityRow.loops == (Tryz.f13.params.toList ++ Rows.fnParitySpec.plain.varTypes Tryz.prog).any (Tryz.prog.loopsFrom ·)) = true := by kernel_rfl
theorem fnParity_cf17 : (Rows.fnParityRow.wideKeys == (Tryz.f13.params.toList ++ Rows.fnParitySpec.plain.varTypes Tryz.prog ++ Tryz.f13.resultTypes.toList).any (Tryz.prog.wideKeysFrom ·)) = true := by kernel_rfl
theorem fnParity_cf18 : (Rows.fnParitySpec.vars.all (Tryz.prog.varReadable ·)) = true := by kernel_rfl
theorem fnParity_cf19 : (Tryz.f13.resultTypes.all (fun t => Tryz.prog.readableRec t && decide (t < Tryz.prog.types.size))) = true := by kernel_rfl
theorem fnParity_cf20 : (Rows.fnParityRow.ifacesOut == Tryz.f13.resultTypes.toList.any (Tryz.prog.ifacesRec ·)) = true := by kernel_rfl
theorem fnParity_cf21 : (Rows.fnParityRow.loopsOut == Tryz.f13.resultTypes.toList.any (Tryz.prog.loopsFrom ·)) = true := by kernel_rfl
theorem fnParity_cf22 : (Rows.fnParityRow.plainKeys == Tryz.prog.plainKeys) = true := by kernel_rfl
theorem fnParity_cf23 : (Rows.fnParityRow.shortTexts.isNone) = true := by kernel_rfl
theorem fnParity_cf24 : (Tryz.prog.stopsHeard) = true := by kernel_rfl
theorem fnParity_cf25 : (Tryz.prog.mayEnter) = true := by kernel_rfl
theorem fnParity_cf26 : (Rows.fnParityRow.lifted == Tryz.prog.liftsFinal) = true := by kernel_rfl
theorem fnParity_cf27 : (Tryz.prog.make == some Rows.fnParityRow.make) = true := by kernel_rfl
theorem fnParity_cf28 : (Rows.fnParityRow.kinds == (if Rows.fnParityRow.domain.isEmpty then [] else Tryz.f13.params.toList.map fun t => match Tryz.prog.underlying t with | some (.int k) => some k | _ => none)) = true := by kernel_rfl
theorem fnParity_cf29 : (Rows.fnParityRow.pinned == Rows.fnParityRow.pinnedBy) = true := by kernel_rfl
theorem fnParity_cf30 : (Rows.fnParityRow.veiled == (Tryz.f13.params.toList ++ Rows.fnParitySpec.plain.varTypes Tryz.prog ++ Tryz.f13.resultTypes.toList).any (Tryz.prog.veiledRec ·)) = true := by kernel_rfl
theorem fnParity_cf31 : (Rows.fnParityRow.veiledFits Tryz.prog Tryz.f13.params.toList (Tryz.f13.params.toList ++ Rows.fnParitySpec.plain.varTypes Tryz.prog ++ Tryz.f13.resultTypes.toList)) = true := by kernel_rfl
theorem fnParity_and {a b : Bool} (h1 : a = true) (h2 : b = true) : (a && b) = true := by rw [h1, h2]; rfl
theorem fnParity_cf : joinedFacts Tryz.prog 13 Tryz.f13 Rows.fnParitySpec Rows.fnParityRow = true := by
  unfold joinedFacts
  exact fnParity_and (fnParity_and (fnParity_and (fnParity_and (fnParity_and (fnParity_and (fnParity_and (fnParity_and (fnParity_and (fnParity_and (fnParity_and (fnParity_and (fnParity_and (fnParity_and (fnParity_and (fnParity_and (fnParity_and (fnParity_and (fnParity_and (fnParity_and (fnParity_and (fnParity_and (fnParity_and (fnParity_and (fnParity_and (fnParity_and (fnParity_and (fnParity_and (fnParity_and (fnParity_and (fnParity_and (fnParity_cf0) fnParity_cf1) fnParity_cf2) fnParity_cf3) fnParity_cf4) fnParity_cf5) fnParity_cf6) fnParity_cf7) fnParity_cf8) fnParity_cf9) fnParity_cf10) fnParity_cf11) fnParity_cf12) fnParity_cf13) fnParity_cf14) fnParity_cf15) fnParity_cf16) fnParity_cf17) fnParity_cf18) fnParity_cf19) fnParity_cf20) fnParity_cf21) fnParity_cf22) fnParity_cf23) fnParity_cf24) fnParity_cf25) fnParity_cf26) fnParity_cf27) (by kernel_rfl)) fnParity_cf29) fnParity_cf30) fnParity_cf31

end Go.Proofs.YtjiiflpoiaaccaaGreat

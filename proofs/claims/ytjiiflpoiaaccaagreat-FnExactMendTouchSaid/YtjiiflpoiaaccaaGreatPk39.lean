/- The law MendTouch, for every argument. -/
import Derived.Test.YtjiiflpoiaaccaaGreatPk36
import Derived.Test.YtjiiflpoiaaccaaGreatPk38
import Derived.Test.YtjiiflpoiaaccaaGreatRows
import Derived.Test.YtjiiflpoiaaccaaGreatPk0
namespace Go.Proofs.YtjiiflpoiaaccaaGreat
open Go Go.RowKit
set_option linter.unusedVariables false
set_option linter.unusedSimpArgs false

theorem toMethod_agM (m : Mt) (v : Value) (w : World) (h1 : MethAt w m v) (hs : MtSmall m) : Calls Tryz.prog 17 #[.agg #[.string m.name, .int .i64 m.stage, v]] w fun e w' => ∃ A c, e = .returned (.agg #[.string m.name, .int .i64 m.stage, .slice A m.l.length c]) ∧ MethAt w' m (.slice A m.l.length c) ∧ Below w.heap.size w w' := by
  refine (toMethod_any m v w h1 hs).mono fun e w' ⟨r, e1, h3, h4⟩ => ?_
  obtain ⟨A, c, hr, _⟩ := sl_of_own h3
  subst hr
  exact ⟨A, c, e1, ⟨strs_of_own h3, h1.2⟩, h4⟩
set_option maxRecDepth 100000 in
set_option maxHeartbeats 4000000 in
theorem lawMendTouch_row (m : Mt) (v : Value) (k : Cl) (t : ByteArray) (x y z : Int) (w : World) (hm : MethAt w m v) (hk : ClFit k) (hr : t.size ≤ maxLen) : Calls Tryz.prog 3 #[m.v v, k.v, .string t, .int .i64 x, .int .i64 y, .int .i64 z] w fun e w' => e = .returned (.bool true) ∧ Below w.heap.size w w' := by
  have Hm := Lib.hid hm
  have Hk := Lib.hid hk
  have hrm := hr
  unfold maxLen at hrm
  obtain ⟨A, c, hv⟩ := hm.form
  subst hv
  clear hm hk hr
  unfold Mt.v Cl.v
  by_cases hbig : 1048576 < t.size
  · have hd : (1048576 : Int) < (t.size : Int) := by omega
    go_enter Tryz.func3, Tryz.ntmps3
    go_wp2_with fail
    go_ret
    exact ⟨rfl, bw_al (bw_al (Below.refl _ _) _) _⟩
  have hd : ¬ (1048576 : Int) < (t.size : Int) := by omega
  have hd2 : decide ((1048576 : Int) < (t.size : Int)) = false := by simp; omega
  go_enter Tryz.func3, Tryz.ntmps3
  go_wp2_with fail
  refine box2 (C := fun W => Calls _ _ _ W _) ?_
  intro wb hw k1 k2 hB0
  have R1 := boxRule k1
  have R2 := boxRule k2
  clear k1 k2
  have Hz1 := Lib.hid (fun W hW => szMethod_any m (.slice A m.l.length c) 1048576 W (Hm.out.to (bw_to hw hW)) (by omega) (by omega))
  have Hz2 := Lib.hid (fun k0 W => szCalls_any k k0 W Hk.out)
  unfold Mt.v Cl.v at *
  refine (Hz1.out _ hB0).mono ?_; rintro e w1 ⟨r, rfl, hr0, hr1, hrl, hb1⟩
  have Hrl := Lib.hid hrl
  clear hrl
  by_cases hneg : r < 0
  · go_wp2_with fail
    go_ret
    exact ⟨rfl, bw_to hw hb1⟩
  · have Sm := Lib.hid (Hrl.out (by omega))
    go_wp2_with fail
    refine (Hz2.out r _ (by omega) hr1).mono ?_; rintro e w2 ⟨r2, rfl, hr20, hr21, hrl2, hb2⟩
    have Hrl2 := Lib.hid hrl2
    have hB2 := bw_to hb1 hb2
    clear hrl2 hb1 hb2
    by_cases hneg2 : r2 < 0
    · go_wp2_with fail
      go_ret
      exact ⟨rfl, bw_to hw hB2⟩
    · have Sk := Lib.hid (Hrl2.out (by omega))
      have Hto := Lib.hid (fun W hW => toMethod_agM m (.slice A m.l.length c) W (Hm.out.to (bw_to hw hW)) Sm.out)
      have Htk := Lib.hid (fun W => toCalls_any k W)
      have hi := fun v W h => implMendTouch_any m v k t x y z W h Sm.out Sk.out (by omega)
      have hs := fun v W h => specMendTouch_any m v k t x y z W h Sm.out Sk.out (by omega)
      obtain ⟨s, hse⟩ : ∃ s, s = ofL ((mendA m k t x y z).getD []) := ⟨_, rfl⟩
      obtain ⟨b, hbe⟩ : ∃ b, b = (mendA m k t x y z).isSome := ⟨_, rfl⟩
      simp only [← hse, ← hbe] at hi hs
      have Hi := Lib.hid hi
      have Hs := Lib.hid hs
      unfold Mt.v Cl.v at *
      clear hi hs hse hbe hbig hd hd2
      have hdr : Below wb.heap.size wb w2.drew := hB2.drew
      go_upto_region 10 with fail
      go_cut [14, 15] (fun s8 s9 wx => s8 = .string s ∧ s9 = .bool b ∧ Below wb.heap.size wb wx)
      case first =>
        go_region_held3 (fun W => Below wb.heap.size wb W) (first | with_reducible assumption | exact Below.drew (by assumption) | exact bw_to (by assumption) hb')
          (first | (go_at_call 16; refine (Hs.out _ _ ?_).mono ?_; (· first | exact tm | exact tm.to (by assumption)); rintro e w' ⟨rfl, hb'⟩; (have hBn := bw_to (by assumption : Below wb.heap.size wb _) hb')) | (go_at_call 18; refine (Htk.out _).mono ?_; rintro e w' ⟨rfl, hb'⟩; (have hBn := bw_to (by assumption : Below wb.heap.size wb _) hb'); (try (have tm := tm.to hb'))) | (go_at_call 17; refine (Hto.out _ (by assumption)).mono ?_; rintro e w' ⟨A1, c1, rfl, tm, hb'⟩; (have hBn := bw_to (by assumption : Below wb.heap.size wb _) hb')))
        all_goals
          have hBB : Below wb.heap.size wb w' := by assumption
          go_wp2_with fail
          go_meet
          exact ⟨rfl, rfl, hBB⟩
      case rest =>
        obtain ⟨rfl, rfl, hB3⟩ := hcut
        clear hB2 hdr
        go_wp2_with fail
        refine (Hto.out _ hB3).mono ?_; rintro e w4 ⟨A1, c1, rfl, tm, hb4⟩
        go_upto_region 12 with fail
        refine box1 (C := fun W => Code.wp _ _ _ _ W) ?_
        intro w5 hw5 k5 hB05
        have RB := boxRule k5
        have hB5 := bw_to hB3 (bw_to hb4 hw5)
        have T5 := Lib.hid (tm.to hw5)
        have R15 := fun W i hb => R1 W i (bw_to hB5 hb)
        have R25 := fun W i hb => R2 W i (bw_to hB5 hb)
        have HB5 := Lib.hid hB5
        have hdr5 : Below w5.heap.size w5 w5.drew := Below.drew (Below.refl _ _)
        clear tm hb4 hw5 k5 R1 R2 hB3 hB0
        go_cut [17, 18] (fun s11 s12 wx => s11 = .string s ∧ s12 = .bool b ∧ Below w5.heap.size w5 wx)
        case first =>
          go_region_held3 (fun W => Below w5.heap.size w5 W) (first | with_reducible assumption | exact Below.drew (by assumption) | exact bw_to (by assumption) hb')
            (first | (go_at_call 19; refine (Hi.out _ _ ?_).mono ?_; (· exact T5.out.to (by assumption)); rintro e w' ⟨rfl, hb'⟩; (have hBn := bw_to (by assumption : Below w5.heap.size w5 _) hb')) | (go_at_call 18; refine (Htk.out _).mono ?_; rintro e w' ⟨rfl, hb'⟩; (have hBn := bw_to (by assumption : Below w5.heap.size w5 _) hb')))
          all_goals
            have hBB : Below w5.heap.size w5 w' := by assumption
            go_wp2_with fail
            go_meet
            exact ⟨rfl, rfl, hBB⟩
        case rest =>
          obtain ⟨rfl, rfl, hB6⟩ := hcut
          obtain ⟨w6, rfl⟩ : ∃ w6, w6 = wc := ⟨_, rfl⟩
          have hBw6 := bw_to HB5.out hB6
          clear hdr5
          have hst := Below.refl w6.heap.size w6
          have hd7 : Below w6.heap.size w6 w6.drew := Below.drew hst
          have RB7 := fun W i hb => RB W i (bw_to hB6 hb)
          have R17 := fun W i hb => R15 W i (bw_to hB6 hb)
          have R27 := fun W i hb => R25 W i (bw_to hB6 hb)
          clear RB R15 R25
          go_upto_region 15 with fail
          go_region_held3 (fun W => Below w6.heap.size w6 W) (first | with_reducible assumption | exact Below.drew (by assumption) | exact bw_to (by assumption) hb')
            (first | (go_at_call 20; refine (eqMethod_same m _ _ _ (Strs.to T5.out.1 (bw_to hB6 (by assumption))) tm.1).mono ?_; rintro e w' ⟨rfl, hb'⟩) | (go_at_call 17; refine (Hto.out _ (bw_to hBw6 (by assumption))).mono ?_; rintro e w' ⟨A1, c1, rfl, tm, hb'⟩))
          all_goals
            have hBB : Below w6.heap.size w6 w' := by assumption
            go_wp2_with fail
            go_ret
            exact ⟨rfl, bw_to hw (bw_to hBw6 hBB)⟩
end Go.Proofs.YtjiiflpoiaaccaaGreat

/- The closed facts of the row of laws.FnExactMendTouch, one by one. -/
namespace Go.Proofs.YtjiiflpoiaaccaaGreat
open Go Go.RowKit Go.WideShapes Go.ChangeShapes Go.ChangeAt
theorem fnExactMendTouch_cf0 : (Rows.fnExactMendTouchRow.wf (OpenSpec.ofChange Rows.fnExactMendTouchSpec)) = true := by kernel_rfl
theorem fnExactMendTouch_cf1 : (laidOutB Tryz.prog) = true := by kernel_rfl
theorem fnExactMendTouch_cf2 : (mapsRowed Tryz.prog) = true := by kernel_rfl
theorem fnExactMendTouch_cf3 : (Tryz.f3.params.all (Tryz.prog.readableRec ·)) = true := by kernel_rfl
theorem fnExactMendTouch_cf4 : (namedTie Tryz.prog Rows.fnExactMendTouchRow.named Rows.fnExactMendTouchSpec.vars) = true := by kernel_rfl
theorem fnExactMendTouch_cf5 : (Rows.fnExactMendTouchRow.stops == []) = true := by kernel_rfl
theorem fnExactMendTouch_cf6 : (Tryz.prog.stops == []) = true := by kernel_rfl
theorem fnExactMendTouch_cf7 : (Rows.fnExactMendTouchRow.knobs == []) = true := by kernel_rfl
theorem fnExactMendTouch_cf8 : (Tryz.prog.stopKnobs == []) = true := by kernel_rfl
theorem fnExactMendTouch_cf9 : (Rows.fnExactMendTouchRow.inPlace == Tryz.prog.inPlace 3) = true := by kernel_rfl
theorem fnExactMendTouch_cf10 : (Rows.fnExactMendTouchRow.unfollowed == Tryz.prog.unfollowed 3) = true := by kernel_rfl
theorem fnExactMendTouch_cf11 : (Rows.fnExactMendTouchRow.recurses == Tryz.prog.recurses 3) = true := by kernel_rfl
theorem fnExactMendTouch_cf12 : (Rows.fnExactMendTouchRow.named == Tryz.prog.varsNamed 3) = true := by kernel_rfl
theorem fnExactMendTouch_cf13 : (Rows.fnExactMendTouchRow.maps == (Tryz.f3.params.toList ++ Rows.fnExactMendTouchSpec.plain.varTypes Tryz.prog).any (Tryz.prog.mapsRec ·)) = true := by kernel_rfl
theorem fnExactMendTouch_cf14 : (Rows.fnExactMendTouchRow.ifaces == (Tryz.f3.params.toList ++ Rows.fnExactMendTouchSpec.plain.varTypes Tryz.prog).any (Tryz.prog.ifacesRec ·)) = true := by kernel_rfl
theorem fnExactMendTouch_cf15 : (Rows.fnExactMendTouchRow.mapsOut == Tryz.prog.mapsAmong Tryz.f3.resultTypes.toList) = true := by kernel_rfl
theorem fnExactMendTouch_cf16 : (Rows.fnExactMendTouchRow.loops == (Tryz.f3.params.toList ++ Rows.fnExactMendTouchSpec.plain.varTypes Tryz.prog).any (Tryz.prog.loopsFrom ·)) = true := by kernel_rfl
theorem fnExactMendTouch_cf17 : (Rows.fnExactMendTouchRow.wideKeys == (Tryz.f3.params.toList ++ Rows.fnExactMendTouchSpec.plain.varTypes Tryz.prog ++ Tryz.f3.resultTypes.toList).any (Tryz.prog.wideKeysFrom ·)) = true := by kernel_rfl
theorem fnExactMendTouch_cf18 : (Rows.fnExactMendTouchSpec.vars.all (Tryz.prog.varReadable ·)) = true := by kernel_rfl
theorem fnExactMendTouch_cf19 : (Tryz.f3.resultTypes.all (fun t => Tryz.prog.readableRec t && decide (t < Tryz.prog.types.size))) = true := by kernel_rfl
theorem fnExactMendTouch_cf20 : (Rows.fnExactMendTouchRow.ifacesOut == Tryz.f3.resultTypes.toList.any (Tryz.prog.ifacesRec ·)) = true := by kernel_rfl
theorem fnExactMendTouch_cf21 : (Rows.fnExactMendTouchRow.loopsOut == Tryz.f3.resultTypes.toList.any (Tryz.prog.loopsFrom ·)) = true := by kernel_rfl
theorem fnExactMendTouch_cf22 : (Rows.fnExactMendTouchRow.plainKeys == Tryz.prog.plainKeys) = true := by kernel_rfl
theorem fnExactMendTouch_cf23 : (Rows.fnExactMendTouchRow.shortTexts.isNone) = true := by kernel_rfl
theorem fnExactMendTouch_cf24 : (Tryz.prog.stopsHeard) = true := by kernel_rfl
theorem fnExactMendTouch_cf25 : (Tryz.prog.mayEnter) = true := by kernel_rfl
theorem fnExactMendTouch_cf26 : (Rows.fnExactMendTouchRow.lifted == Tryz.prog.liftsFinal) = true := by kernel_rfl
theorem fnExactMendTouch_cf27 : (Tryz.prog.make == some Rows.fnExactMendTouchRow.make) = true := by kernel_rfl
theorem fnExactMendTouch_cf28 : (Rows.fnExactMendTouchRow.kinds == (if Rows.fnExactMendTouchRow.domain.isEmpty then [] else Tryz.f3.params.toList.map fun t => match Tryz.prog.underlying t with | some (.int k) => some k | _ => none)) = true := by kernel_rfl
theorem fnExactMendTouch_cf29 : (Rows.fnExactMendTouchRow.pinned == Rows.fnExactMendTouchRow.pinnedBy) = true := by kernel_rfl
theorem fnExactMendTouch_cf30 : (Rows.fnExactMendTouchRow.veiled == (Tryz.f3.params.toList ++ Rows.fnExactMendTouchSpec.plain.varTypes Tryz.prog ++ Tryz.f3.resultTypes.toList).any (Tryz.prog.veiledRec ·)) = true := by kernel_rfl
theorem fnExactMendTouch_cf31 : (Rows.fnExactMendTouchRow.veiledFits Tryz.prog Tryz.f3.params.toList (Tryz.f3.params.toList ++ Rows.fnExactMendTouchSpec.plain.varTypes Tryz.prog ++ Tryz.f3.resultTypes.toList)) = true := by kernel_rfl
theorem fnExactMendTouch_and {a b : Bool} (h1 : a = true) (h2 : b = true) : (a && b) = true := by rw [h1, h2]; rfl
theorem fnExactMendTouch_cf : joinedFacts Tryz.prog 3 Tryz.f3 Rows.fnExactMendTouchSpec Rows.fnExactMendTouchRow = true := by
  unfold joinedFacts
  exact fnExactMendTouch_and (fnExactMendTouch_and (fnExactMendTouch_and (fnExactMendTouch_and (fnExactMendTouch_and (fnExactMendTouch_and (fnExactMendTouch_and (fnExactMendTouch_and (fnExactMendTouch_and (fnExactMendTouch_and (fnExactMendTouch_and (fnExactMendTouch_and (fnExactMendTouch_and (fnExactMendTouch_and (fnExactMendTouch_and (fnExactMendTouch_and (fnExactMendTouch_and (fnExactMendTouch_and (fnExactMendTouch_and (fnExactMendTouch_and (fnExactMendTouch_and (fnExactMendTouch_and (fnExactMendTouch_and (fnExactMendTouch_and (fnExactMendTouch_and (fnExactMendTouch_and (fnExactMendTouch_and (fnExactMendTouch_and (fnExactMendTouch_and (fnExactMendTouch_and (fnExactMendTouch_and (fnExactMendTouch_cf0) fnExactMendTouch_cf1) fnExactMendTouch_cf2) fnExactMendTouch_cf3) fnExactMendTouch_cf4) fnExactMendTouch_cf5) fnExactMendTouch_cf6) fnExactMendTouch_cf7) fnExactMendTouch_cf8) fnExactMendTouch_cf9) fnExactMendTouch_cf10) fnExactMendTouch_cf11) fnExactMendTouch_cf12) fnExactMendTouch_cf13) fnExactMendTouch_cf14) fnExactMendTouch_cf15) fnExactMendTouch_cf16) fnExactMendTouch_cf17) fnExactMendTouch_cf18) fnExactMendTouch_cf19) fnExactMendTouch_cf20) fnExactMendTouch_cf21) fnExactMendTouch_cf22) fnExactMendTouch_cf23) fnExactMendTouch_cf24) fnExactMendTouch_cf25) fnExactMendTouch_cf26) fnExactMendTouch_cf27) (by kernel_rfl)) fnExactMendTouch_cf29) fnExactMendTouch_cf30) fnExactMendTouch_cf31

end Go.Proofs.YtjiiflpoiaaccaaGreat

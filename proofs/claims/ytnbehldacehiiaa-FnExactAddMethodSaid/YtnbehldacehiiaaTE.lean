/- The law AlikeMethods, walked. -/
import Derived.Test.YtnbehldacehiiaaTD
namespace Go.Proofs.Ytnbehldacehiiaa
open Go Go.RowKit
set_option linter.unusedVariables false
set_option linter.unusedSimpArgs false

theorem toMethod_agg (m : Mt) (v : Value) (w : World) (h1 : MethAt w m v) (hs : MtSmall m) : Calls Try.prog 19 #[.agg #[.string m.name, .int .i64 m.stage, v]] w fun e w' => ∃ A c, e = .returned (.agg #[.string m.name, .int .i64 m.stage, .slice A m.l.length c]) ∧ w'.ownsRow w.heap.size 9 1 (.slice A m.l.length c) m.l.length (m.l.map Value.string) ∧ MethAt w' m (.slice A m.l.length c) ∧ NilOk (.slice A m.l.length c) ∧ Below w.heap.size w w' := by
  refine (toMethod_any m v w h1 hs).mono fun e w' ⟨r, e1, h3, h4⟩ => ?_
  obtain ⟨A, c, hr, _⟩ := sl_of_own h3
  subst hr
  exact ⟨A, c, e1, h3, ⟨strs_of_own h3, h1.2⟩, nilok_own h3, h4⟩
set_option maxRecDepth 100000 in
set_option maxHeartbeats 4000000 in
theorem lawAlikeMethods_any (a : Mt) (u : Value) (b : Mt) (v : Value) (w : World) (ha : MethAt w a u) (hb : MethAt w b v) : Calls Try.prog 6 #[a.v u, b.v v] w fun e w' => e = .returned (.bool true) ∧ Below w.heap.size w w' := by
  obtain ⟨p, hp⟩ : ∃ p, p = (methB a && methB b && alikeB a b) := ⟨_, rfl⟩
  obtain ⟨q, hq⟩ : ∃ q, q = (methB a && methB b) := ⟨_, rfl⟩
  have Hp := Lib.hid hp
  have Hq := Lib.hid hq
  have Ha := Lib.hid ha
  have Hb := Lib.hid hb
  clear hp hq ha hb
  unfold Mt.v
  go_enter Try.func6, Try.ntmps6
  go_wp2_with fail
  refine box2 (C := fun W => Calls _ _ _ W _) ?_
  intro wb hw k1 k2 hB0
  have R1 := boxRule k1
  have R2 := boxRule k2
  clear k1 k2
  refine (szMethod_any a u _ _ (Ha.out.to hw) (by omega) (by omega)).mono ?_; rintro e w1 ⟨r, rfl, hr0, hr1, hrl, hb1⟩
  have Hrl := Lib.hid hrl
  clear hrl
  by_cases hneg : r < 0
  · go_wp2_with fail
    go_ret
    exact ⟨rfl, bw_to hw hb1⟩
  · have hpos : 0 ≤ r := by omega
    have Sa := Lib.hid (Hrl.out hpos)
    go_wp2_with fail
    refine (szMethod_any b v _ _ (Hb.out.to (bw_to hw hb1)) hpos hr1).mono ?_; rintro e w2 ⟨r2, rfl, hr20, hr21, hrl2, hb2⟩
    have Hrl2 := Lib.hid hrl2
    have hB2 := bw_to hb1 hb2
    clear hrl2 hb1 hb2
    by_cases hneg2 : r2 < 0
    · go_wp2_with fail
      go_ret
      exact ⟨rfl, bw_to hw hB2⟩
    · have Sb := Lib.hid (Hrl2.out (by omega))
      have hsp : ∀ x y W, MethAt W a x → MethAt W b y → NilOk x → NilOk y → Calls Try.prog 24 #[.agg #[.string a.name, .int .i64 a.stage, x], .agg #[.string b.name, .int .i64 b.stage, y]] W fun e w' => e = .returned (.tuple #[.bool p, .bool q]) ∧ Below W.heap.size W w' := by
        intro x y W h1 h2 h3 h4
        rw [Hp.out, Hq.out]
        exact specAlikeMethods_any a b x y W h1 h2 h3 h4 Sa.out Sb.out
      have him : ∀ x y W, MethAt W a x → MethAt W b y → NilOk x → NilOk y → Calls Try.prog 25 #[.agg #[.string a.name, .int .i64 a.stage, x], .agg #[.string b.name, .int .i64 b.stage, y]] W fun e w' => e = .returned (.tuple #[.bool p, .bool q]) ∧ Below W.heap.size W w' := by
        intro x y W h1 h2 h3 h4
        rw [Hp.out, Hq.out]
        exact implAlikeMethods_any a b x y W h1 h2 h3 h4 Sa.out Sb.out
      have Hsp := Lib.hid hsp
      have Him := Lib.hid him
      clear hsp him
      have Hw := Lib.hid hw
      go_wp2_with fail
      go_region_held3 (fun w' => Below wb.heap.size wb w') (first | exact Below.drew (by assumption) | exact bw_to (by assumption) hb')
        (first | (go_at_call 24; refine (Hsp.out _ _ _ (ta.to hb2) tb na nb).mono ?_; rintro e wd ⟨rfl, hb'⟩) | ((have na' := na); go_at_call 19; refine (toMethod_agg b v _ (Hb.out.to (bw_to Hw.out (by assumption))) Sb.out).mono ?_; rintro e wc ⟨Ab, cb, rfl, ob, tb, nb, hb'⟩; (have hb2 := hb')) | (go_at_call 19; refine (toMethod_agg a u _ (Ha.out.to (bw_to Hw.out (by assumption))) Sa.out).mono ?_; rintro e wa ⟨Aa, ca, rfl, oa, ta, na, hb'⟩))
      have hB3 : Below wb.heap.size wb wd := by assumption
      clear oa ob ta tb na nb na' hb2 hb' hB2
      go_wp2_with fail
      refine (toMethod_agg a u _ (Ha.out.to (bw_to Hw.out hB3)) Sa.out).mono ?_; rintro e w4 ⟨Aa, ca, rfl, oa, ta, na, hb4⟩
      have hW5 := bw_al (Below.refl _ w4) (.cells #[.string a.name, .int .i64 a.stage, .slice Aa a.l.length ca] 36)
      have hB5 := bw_to (bw_to hB3 hb4) hW5
      have Oa5 := Lib.hid (own_to oa hW5)
      have Ta5 := Lib.hid (ta.to hW5)
      have Na := Lib.hid na
      have Ma5 := Lib.hid (mbox_of (m := a) (heap_new w4 (.cells #[.string a.name, .int .i64 a.stage, .slice Aa a.l.length ca] 36)))
      clear oa ta na hW5 hb4 hB3
      go_wp2_with fail
      refine (toMethod_agg b v _ (Hb.out.to (bw_to Hw.out hB5)) Sb.out).mono ?_; rintro e w6 ⟨Ab, cb, rfl, ob, tb, nb, hb6⟩
      have hW7 := bw_al (Below.refl _ w6) (.cells #[.string b.name, .int .i64 b.stage, .slice Ab b.l.length cb] 36)
      have h57 := bw_to hb6 hW7
      have hB7 := bw_to hB5 h57
      have Ob7 := Lib.hid (own_to ob hW7)
      have Tb7 := Lib.hid (tb.to hW7)
      have Nb := Lib.hid nb
      have Mb7 := Lib.hid (mbox_of (m := b) (heap_new w6 (.cells #[.string b.name, .int .i64 b.stage, .slice Ab b.l.length cb] 36)))
      have Oa7 := Lib.hid (own_to Oa5.out h57)
      have Ta7 := Lib.hid (Ta5.out.to h57)
      have ma7 := mbox_to Ma5.out h57
      have Ma7 := Lib.hid ma7
      obtain ⟨x0, x1, x2⟩ := mbox_c ma7
      clear ma7 ob tb nb hb6 hW7 h57 hB5
      go_wp2_with fail
      refine (Him.out _ _ _ Ta7.out Tb7.out Na.out Nb.out).mono ?_; rintro e w8 ⟨rfl, hb8⟩
      have hB8 := bw_to hB7 hb8
      have Oa8 := Lib.hid (own_to Oa7.out hb8)
      have Ob8 := Lib.hid (own_to Ob7.out hb8)
      have RA := fun w' (hb : Below w8.heap.size w8 w') => mbox_c (mbox_to (mbox_to Ma7.out hb8) hb)
      have RB := fun w' (hb : Below w8.heap.size w8 w') => mbox_c (mbox_to (mbox_to Mb7.out hb8) hb)
      have R18 := fun w' i (hb : Below w8.heap.size w8 w') => R1 w' i (bw_to hB8 hb)
      have R28 := fun w' i (hb : Below w8.heap.size w8 w') => R2 w' i (bw_to hB8 hb)
      have HB8 := Lib.hid hB8
      have hst := Below.refl w8.heap.size w8
      clear x0 x1 x2 hb8 R1 R2 hB7 hB8
      go_wp2_with fail
      go_region_held3 (fun w' => Below w8.heap.size w8 w') (first | exact Below.drew (by assumption) | exact bw_to (by assumption) hb')
        (first | (go_at_call 21; refine (eqMethod_same a _ _ _ (strs_own' (own_to Oa8.out hBa)) (strs_own' oa)).mono ?_; rintro e wc ⟨rfl, hb'⟩) | (go_at_call 19; refine (toMethod_agg a u _ (Ha.out.to (bw_to Hw.out (bw_to HB8.out (by assumption)))) Sa.out).mono ?_; rintro e wa ⟨Aa2, ca2, rfl, oa, ta, na, hb'⟩; (have hBa : Below w8.heap.size w8 wa := bw_to (by assumption) hb')))
      have hBc : Below w8.heap.size w8 wc := by assumption
      clear oa ta na hb' hBa hst
      go_wp2_with fail
      go_region_held3 (fun w' => Below w8.heap.size w8 w') (first | exact Below.drew (by assumption) | exact bw_to (by assumption) hb')
        (first | (go_at_call 21; refine (eqMethod_same b _ _ _ (strs_own' (own_to Ob8.out hBa)) (strs_own' oa)).mono ?_; rintro e we ⟨rfl, hb'⟩) | (go_at_call 19; refine (toMethod_agg b v _ (Hb.out.to (bw_to Hw.out (bw_to HB8.out (by assumption)))) Sb.out).mono ?_; rintro e wa ⟨Aa2, ca2, rfl, oa, ta, na, hb'⟩; (have hBa : Below w8.heap.size w8 wa := bw_to (by assumption) hb')))
      have hBe : Below w8.heap.size w8 we := by assumption
      go_wp2_with fail
      go_ret
      exact ⟨rfl, bw_to Hw.out (bw_to HB8.out hBe)⟩
end Go.Proofs.Ytnbehldacehiiaa

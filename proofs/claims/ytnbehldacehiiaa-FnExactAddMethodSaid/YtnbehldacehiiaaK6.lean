/- The law AddMethod, walked. -/
import Derived.Test.YtnbehldacehiiaaK5
namespace Go.Proofs.Ytnbehldacehiiaa
open Go Go.RowKit
set_option linter.unusedVariables false
set_option linter.unusedSimpArgs false

set_option maxRecDepth 100000 in
set_option maxHeartbeats 4000000 in
theorem lawAddMethod_any (V : Value) (ms : List Mt) (m : Mt) (v : Value) (w : World) (hV : Meths w V ms) (hm : MethAt w m v) : Calls Try.prog 7 #[V, m.v v] w fun e w' => e = .returned (.bool true) ∧ Below w.heap.size w w' := by
  obtain ⟨L, hL⟩ : ∃ L, L = addM ms m := ⟨_, rfl⟩
  obtain ⟨b, hb⟩ : ∃ b, b = addB ms m := ⟨_, rfl⟩
  have HL := Lib.hid hL
  have Hb := Lib.hid hb
  have HV := Lib.hid hV
  have Hm := Lib.hid hm
  clear hL hb hV hm
  unfold Mt.v
  go_enter Try.func7, Try.ntmps7
  go_wp2_with fail
  refine box1 (C := fun W => Calls _ _ _ W _) ?_
  intro wb hw k1 hB0
  have R1 := boxRule k1
  clear k1
  refine (szMethodS_any V ms _ _ (HV.out.to hw) (by omega) (by omega)).mono ?_; rintro e w1 ⟨r, rfl, hr0, hr1, hrl, hb1⟩
  have Hrl := Lib.hid hrl
  clear hrl
  by_cases hneg : r < 0
  · go_wp2_with fail
    go_ret
    exact ⟨rfl, bw_to hw hb1⟩
  · have hpos : 0 ≤ r := by omega
    have SV := Lib.hid (Hrl.out hpos)
    go_wp2_with fail
    refine (szMethod_any m v _ _ (Hm.out.to (bw_to hw hb1)) hpos hr1).mono ?_; rintro e w2 ⟨r2, rfl, hr20, hr21, hrl2, hb2⟩
    have Hrl2 := Lib.hid hrl2
    have hB2 := bw_to hb1 hb2
    clear hrl2 hb1 hb2
    by_cases hneg2 : r2 < 0
    · go_wp2_with fail
      go_ret
      exact ⟨rfl, bw_to hw hB2⟩
    · have Sm := Lib.hid (Hrl2.out (by omega))
      have SL : Hid (AllSmall L ∧ L.length ≤ 100) := Lib.hid (by rw [HL.out]; exact addM_small SV.out Sm.out)
      have hLl : L.length ≤ 100 := SL.out.2
      have hend := endM_le 1 L (fun x hx => (SL.out.1.2 x hx).2.1)
      obtain ⟨q, hq⟩ : ∃ q, q = endM 1 L := ⟨_, rfl⟩
      rw [← hq] at hend
      have hmk : ∀ X base W, OwnD W base X L → Calls Try.prog 28 #[X, .int .i64 1] W fun e w' => e = .returned (.int .i64 (q : Nat)) ∧ OwnD w' base X (marksM 1 L) ∧ Below base W w' := by
        intro X base W h1
        rw [hq]
        exact markMethodS_held X L base 1 W h1 SL.out.1 SL.out.2 (by omega)
      have hhd : ∀ X W, MethsS W X (marksM 1 L) → Calls Try.prog 29 #[X, .int .i64 1] W fun e w' => e = .returned (.int .i64 (q : Nat)) ∧ Below W.heap.size W w' := by
        intro X W h1
        rw [hq]
        exact heldMethodS_any X L 1 W h1 SL.out.1 SL.out.2 (by omega)
      have hsp : ∀ X x W, MethsN W X ms → MethAt W m x → NilOk x → Calls Try.prog 26 #[X, .agg #[.string m.name, .int .i64 m.stage, x]] W fun e w' => ∃ r, e = .returned (.tuple #[r, .bool b]) ∧ OwnMeths w' W.heap.size r L ∧ Below W.heap.size W w' := by
        intro X x W h1 h2 h3
        rw [HL.out, Hb.out]
        exact specAddMethod_any X ms m x W h1 SV.out h2 h3 Sm.out
      have him : ∀ X x W, MethsN W X ms → MethAt W m x → NilOk x → Calls Try.prog 27 #[X, .agg #[.string m.name, .int .i64 m.stage, x]] W fun e w' => ∃ r, e = .returned (.tuple #[r, .bool b]) ∧ OwnD w' W.heap.size r L ∧ Below W.heap.size W w' := by
        intro X x W h1 h2 h3
        rw [HL.out, Hb.out]
        exact implAddMethod_any X ms m x W h1 SV.out h2 h3 Sm.out
      have Hsp := Lib.hid hsp
      have Him := Lib.hid him
      have Hmk := Lib.hid hmk
      have Hhd := Lib.hid hhd
      have hmsl : ms.length ≤ 1048576 := SV.out.1
      clear hsp him hmk hhd hq
      have Hw := Lib.hid hw
      go_wp2_with fail
      go_region_held3 (fun w' => Below wb.heap.size wb w') (first | exact Below.drew (by assumption) | exact bw_to (by assumption) hb')
        (first | (go_at_call 26; refine (Hsp.out _ _ _ ((oV.to hb2).methsN SV.out) tm nm).mono ?_; rintro e w3 ⟨rp, rfl, p3, hb'⟩) | (go_at_call 19; refine (toMethod_agg m v _ (Hm.out.to (bw_to Hw.out (by assumption))) Sm.out).mono ?_; rintro e wc ⟨Ab, cb, rfl, om, tm, nm, hb'⟩; (have hb2 := hb')) | (go_at_call 12; refine (toMethodS_any V ms _ (HV.out.to (bw_to Hw.out (by assumption))) SV.out).mono ?_; rintro e wa ⟨rV, rfl, oV, hb'⟩))
      have hB3 : Below wb.heap.size wb w3 := by assumption
      have P3 := Lib.hid p3.inside
      have HB3 := Lib.hid hB3
      clear oV om tm nm hb2 hb' hB2 p3
      go_wp2_with fail
      refine (toMethodS_any V ms _ (HV.out.to (bw_to Hw.out hB3)) SV.out).mono ?_; rintro e w4 ⟨rX, rfl, oX, hb4⟩
      have hB4 := bw_to hB3 hb4
      have X4 := Lib.hid oX.inside
      have P4 := Lib.hid (P3.out.to hb4)
      have hz34 : w3.heap.size ≤ w4.heap.size := hb4.size
      have Hz34 := Lib.hid hz34
      clear oX hb4 hz34 hB3
      go_wp2_with fail
      refine (toMethod_agg m v _ (Hm.out.to (bw_to Hw.out hB4)) Sm.out).mono ?_; rintro e w5 ⟨Am, cm, rfl, om, tm, nm, hb5⟩
      have hW6 := bw_al (Below.refl _ w5) (.cells #[.string m.name, .int .i64 m.stage, .slice Am m.l.length cm] 36)
      have h46 := bw_to hb5 hW6
      have hB6 := bw_to hB4 h46
      have X6 := Lib.hid (X4.out.to h46)
      have P6 := Lib.hid (P4.out.to h46)
      have M5 := Lib.hid om
      have M6 := Lib.hid (own_to om hW6)
      have T6 := Lib.hid (tm.to hW6)
      have Nm := Lib.hid nm
      have B6 := Lib.hid (mbox_of (m := m) (heap_new w5 (.cells #[.string m.name, .int .i64 m.stage, .slice Am m.l.length cm] 36)))
      have Hz45 : Hid (w4.heap.size ≤ w5.heap.size) := Lib.hid hb5.size
      clear om tm nm hb5 hW6 h46 hB4
      go_wp2_with fail
      refine (Him.out _ _ _ (X6.out.own.methsN SV.out) T6.out Nm.out).mono ?_; rintro e w7 ⟨rg, rfl, g7, hb7⟩
      have hB7 := bw_to hB6 hb7
      have X7 := Lib.hid (X6.out.to hb7)
      have P7 := Lib.hid (P6.out.to hb7)
      have M7 := Lib.hid (own_to M6.out hb7)
      have B7 := Lib.hid (mbox_to B6.out hb7)
      have Hzg : Hid (w5.heap.size ≤ (w5.alloc (.cells #[.string m.name, .int .i64 m.stage, .slice Am m.l.length cm] 36)).heap.size) := Lib.hid (by simp)
      have HBg : Hid (wb.heap.size ≤ (w5.alloc (.cells #[.string m.name, .int .i64 m.stage, .slice Am m.l.length cm] 36)).heap.size) := Lib.hid hB6.size
      have Hblt : Hid (w5.heap.size < (w5.alloc (.cells #[.string m.name, .int .i64 m.stage, .slice Am m.l.length cm] 36)).heap.size) := Lib.hid (by simp)
      obtain ⟨bg, hbg⟩ : ∃ bg, bg = (w5.alloc (.cells #[.string m.name, .int .i64 m.stage, .slice Am m.l.length cm] 36)).heap.size := ⟨_, rfl⟩
      rw [← hbg] at g7 Hzg HBg Hblt
      have G7 := Lib.hid g7
      clear hb7 hB6 g7 hbg
      go_wp2_with fail
      refine (eqMethodS_same _ _ L _ (G7.out.own.meths SL.out.1) (P7.out.own.meths SL.out.1)).mono ?_; rintro e w8 ⟨rfl, hb8⟩
      have hB8 := bw_to hB7 hb8
      go_wp2_with fail
      refine (toMethodS_any V ms _ (HV.out.to (bw_to Hw.out hB8)) SV.out).mono ?_; rintro e w9 ⟨rY, rfl, oY, hb9⟩
      have hb79 := bw_to hb8 hb9
      have hB9 := bw_to hB8 hb9
      go_wp2_with fail
      refine (eqMethodS_same _ _ ms _ ((X7.out.to hb79).own.meths SV.out) (oY.meths SV.out)).mono ?_; rintro e w10 ⟨rfl, hb10⟩
      have hb710 := bw_to hb79 hb10
      have hB10 := bw_to hB9 hb10
      have HB10 := Lib.hid hB10
      have X10 := Lib.hid (X7.out.to hb710)
      have P10 := Lib.hid (P7.out.to hb710)
      have M10 := Lib.hid (own_to M7.out hb710)
      have b10 := mbox_to B7.out hb710
      have B10 := Lib.hid b10
      have G10 := Lib.hid (G7.out.to hb710)
      have R6 := fun w' (hb : Below w10.heap.size w10 w') => mbox_c (mbox_to b10 hb)
      have R10 := fun w' i (hb : Below w10.heap.size w10 w') => R1 w' i (bw_to hB10 hb)
      have hst := Below.refl w10.heap.size w10
      have HR1 := Lib.hid R1
      clear oY hb8 hb9 hb10 hb79 hb710 hB7 hB8 hB9 hB10 b10 R1
      go_wp2_with fail
      go_region_held3 (fun w' => Below w10.heap.size w10 w') (first | exact Below.drew (by assumption) | exact bw_to (by assumption) hb')
        (first | (go_at_call 21; refine (eqMethod_same m _ _ _ (strs_own' (own_to M10.out hBa)) (strs_own' oa)).mono ?_; rintro e wc ⟨rfl, hb'⟩) | (go_at_call 19; refine (toMethod_agg m v _ (Hm.out.to (bw_to Hw.out (bw_to HB10.out (by assumption)))) Sm.out).mono ?_; rintro e wa ⟨Aa, ca, rfl, oa, ta, na, hb'⟩; (have hBa : Below w10.heap.size w10 wa := bw_to (by assumption) hb')))
      have hBc : Below w10.heap.size w10 wc := by assumption
      have HBc := Lib.hid hBc
      clear oa ta na hb' hBa R6 R10 hst
      go_wp2_with fail
      refine (markMethodS_any _ ms w3.heap.size w4.heap.size 1 _ (X10.out.to hBc) SV.out (by omega)).mono ?_; rintro e w11 ⟨k11, rfl, hk11, hout⟩
      have hB11 : Below wb.heap.size wb w11 := Out.base (bw_to HB10.out hBc) hout HB3.out.size
      have P11 := Lib.hid ((P10.out.to hBc).out hout (Nat.le_refl _))
      have M11 := Lib.hid (own_out (own_to M10.out hBc) hout (fun k hk => .inr (M5.out.lt k hk).1))
      have b11 := mbox_out (mbox_to B10.out hBc) hout (.inr Hz45.out)
      have G11 := Lib.hid ((G10.out.to hBc).out hout (by have := Hz45.out; have := Hzg.out; omega))
      obtain ⟨x0, x1, x2⟩ := mbox_c b11
      have HB11 := Lib.hid hB11
      clear hout hBc b11 hB11
      go_wp2_with fail
      refine (markMethod_any m _ m.l.length k11 _ _ _ M11.out Sm.out.2.1 (by omega)).mono ?_; rintro e w12 ⟨k12, rfl, hk12, m12, hg12⟩
      have hk0 : ¬ k12 < 0 := by omega
      have hB12 : Below wb.heap.size wb w12 := bw_row HB11.out M5.out (by have := HB3.out.size; have := Hz34.out; omega) hg12
      have P12 := Lib.hid (P11.out.kept hg12 (fun k hk => by have := (M5.out.lt k hk).1; have := Hz34.out; omega))
      have G12 := Lib.hid (G11.out.kept hg12 (fun k hk => by have := (M5.out.lt k hk).2; have := Hzg.out; omega))
      have HB12 := Lib.hid hB12
      clear hg12 hB12 m12 x0 x1 x2 hk12
      go_wp2_with fail
      refine (eqMethodS_same _ _ L _ (G12.out.own.meths SL.out.1) (P12.out.own.meths SL.out.1)).mono ?_; rintro e w13 ⟨rfl, hb13⟩
      have G13 := Lib.hid (G12.out.to hb13)
      have P13 := Lib.hid (P12.out.to hb13)
      have HB13 := Lib.hid (bw_to HB12.out hb13)
      clear hb13
      go_wp2_with fail
      refine (Hmk.out _ bg _ G13.out).mono ?_; rintro e w14 ⟨rfl, g14, hg14⟩
      have hB14 : Below wb.heap.size wb w14 := HB13.out.trans (hg14.mono HBg.out)
      have P14 := Lib.hid (P13.out.below hg14 (by have := Hz34.out; have := Hz45.out; have := Hzg.out; omega))
      have I14 := Lib.hid g14.own.strs
      have R14 := fun w' i (hb : Below w14.heap.size w14 w') => HR1.out w' i (bw_to hB14 hb)
      have HB14 := Lib.hid hB14
      have hst := Below.refl w14.heap.size w14
      have hq0 : ¬ ((q : Nat) : Int) < 0 := by omega
      clear g14 hg14 hB14
      go_wp2_with fail
      refine (Hhd.out _ _ I14.out).mono ?_; rintro e w15 ⟨rfl, hb15⟩
      have HB15 := Lib.hid hb15
      have hst := hb15
      clear hb15
      go_wp2_with fail
      go_region_held3 (fun w' => Below w14.heap.size w14 w') (first | exact Below.drew (by assumption) | exact bw_to (by assumption) hb')
        (first | (go_at_call 27; refine (Him.out _ _ _ ((oV.to hb2).methsN SV.out) tm nm).mono ?_; rintro e w16 ⟨rh, rfl, h16, hb'⟩) | (go_at_call 19; refine (toMethod_agg m v _ (Hm.out.to (bw_to Hw.out (bw_to HB14.out (by assumption)))) Sm.out).mono ?_; rintro e wc2 ⟨Ab, cb, rfl, om, tm, nm, hb'⟩; (have hb2 := hb')) | (go_at_call 12; refine (toMethodS_any V ms _ (HV.out.to (bw_to Hw.out (bw_to HB14.out (by assumption)))) SV.out).mono ?_; rintro e wa ⟨rV, rfl, oV, hb'⟩))
      have hB16 : Below w14.heap.size w14 w16 := by assumption
      clear oV om tm nm hb2 hb' R14 hst
      go_wp2_with fail
      refine (eqMethodS_same _ _ L _ (h16.own.meths SL.out.1) ((P14.out.to hB16).own.meths SL.out.1)).mono ?_; rintro e w17 ⟨rfl, hb17⟩
      go_wp2_with fail
      refine (Hhd.out _ _ (I14.out.to (bw_to hB16 hb17))).mono ?_; rintro e w18 ⟨rfl, hb18⟩
      go_wp2_with fail
      go_ret
      exact ⟨rfl, bw_to Hw.out (bw_to HB14.out (bw_to hB16 (bw_to hb17 hb18)))⟩
end Go.Proofs.Ytnbehldacehiiaa

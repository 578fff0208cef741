/- The law on rings: its walk. (Printed by a program: tools/mkLG.py.) -/
import Derived.Test.YtheppimoncokcaaGreatPk41
import Derived.Test.YtheppimoncokcaaGreatPk42
import Derived.Test.YtheppimoncokcaaGreatPk45
import Derived.Test.YtheppimoncokcaaGreatPk38
namespace Go.Proofs.YtheppimoncokcaaGreat
open Go Go.RowKit
set_option linter.unusedVariables false
set_option linter.unusedSimpArgs false

set_option maxRecDepth 100000 in
set_option maxHeartbeats 8000000 in
theorem lawRings_any (V : Value) (zV : Nat) (U : Value) (zU : Nat) (w : World) (hV : BytesAt w w.heap.size V) (hU : BytesAt w w.heap.size U) : Calls Tryz.prog 4 #[V, U] w fun e w' => e = .returned (.bool true) ∧ Below w.heap.size w w' := by
  have HV := Lib.hid hV
  have HU := Lib.hid hU
  obtain ⟨A1, n1, c1, zs1, rfl, _, _, hm1, _⟩ := hV
  obtain ⟨A2, n2, c2, zs2, rfl, _, _, hm2, _⟩ := hU
  unfold maxLen at hm1 hm2
  go_enter Tryz.func4, Tryz.ntmps4
  go_wp2_with fail
  refine (bigB_any A1 A2 n1 c1 n2 c2 w (by omega) (by omega)).mono ?_; rintro e w0 ⟨bb, rfl, rfl⟩
  cases bb
  rotate_left
  · go_wp2_with fail
    go_ret
    exact ⟨rfl, Below.refl _ _⟩
  go_wp2_with fail
  refine (drawRingsIn_any _ w HV.out).mono ?_; rintro e w1 ⟨m, v, k, Vb, bobs, rfl, hP, hB, hbl⟩
  obtain ⟨hms, hks⟩ := hP.small
  have HM := Lib.hid hP.meth
  have HBo := Lib.hid hB.strs
  have W1 := Lib.hid hP.bw
  have hMs := Lib.hid hms
  have hKs := Lib.hid hks
  have hca := ring_cases m k bobs hms hks (by omega)
  obtain ⟨Ab, cb, rfl⟩ : ∃ A c, Vb = .slice A bobs.length c := by obtain ⟨A, c, e, _⟩ := hB.strs; exact ⟨A, c, e⟩
  obtain ⟨A, c9, ev⟩ := hP.meth.form
  subst ev
  clear hP hB hms hks
  unfold Mt.v Cl.v at *
  simp only
  go_upto_region 4 with fail
  refine box2 (C := fun W => Code.wp _ _ _ _ W) ?_
  intro w2 hw2 k1 k2 hB2
  have R1 := boxRule k1
  have R2 := boxRule k2
  have W2 := Lib.hid (bw_to W1.out hw2)
  have HM2 := Lib.hid (HM.out.to hw2)
  have HB2 := Lib.hid (HBo.out.to hw2)
  clear k1 k2 hw2 HM HBo W1
  rcases hca with ⟨hni, hns⟩ | ⟨L, gl, hF⟩
  · have Hni := Lib.hid hni
    have Hns := Lib.hid hns
    clear hni hns
    go_wp2_with fail
    refine (Hni.out _ _ _ HM2.out HB2.out).mono ?_; rintro e w3 ⟨A3, q3, rfl, hb3⟩
    go_wp2_with fail
    refine (Hns.out _ _ _ (HM2.out.to hb3) (HB2.out.to hb3)).mono ?_; rintro e w4 ⟨A4, q4, rfl, hb4⟩
    have hB4 := bw_to hb3 hb4
    clear hb3 hb4
    go_upto_region 25 with fail
    have W7 := Lib.hid (bw_to W2.out hB4)
    have HU2 : BytesAt w4 w4.heap.size (.slice A2 n2 c2) := (HU.out.keep (fun p hp => W7.out.cell hp)).more W7.out.size
    clear R1 R2
    go_wp2_with fail
    refine (drawRingTouchOf_any _ w4 HU2).mono ?_; rintro e w21 ⟨m1, v1, k1, Vb1, bobs1, r1, rfl, hP1, hB1, hbl1, hr1⟩
    obtain ⟨hms1, hks1⟩ := hP1.small
    have HM21 := Lib.hid hP1.meth
    have HB21 := Lib.hid hB1.strs
    have W21 := Lib.hid (bw_to W7.out hP1.bw)
    obtain ⟨t1, g1, hgi, hgs⟩ := touch_both m1 k1 bobs1 r1 hms1 hks1 (by omega)
    have Hgi := Lib.hid hgi
    have Hgs := Lib.hid hgs
    obtain ⟨Ab1, cb1, rfl⟩ : ∃ A c, Vb1 = .slice A bobs1.length c := by obtain ⟨A, c, e, _⟩ := hB1.strs; exact ⟨A, c, e⟩
    obtain ⟨A21, c21, ev1⟩ := hP1.meth.form
    subst ev1
    clear hP1 hB1 hms1 hks1 hgi hgs HU2
    unfold Mt.v Cl.v at *
    simp only
    go_upto_region 26 with fail
    refine box2 (C := fun W => Code.wp _ _ _ _ W) ?_
    intro w22 hw22 k1' k2' hB22
    have R1 := boxRule k1'
    have R2 := boxRule k2'
    have W22 := Lib.hid (bw_to W21.out hw22)
    have HM22 := Lib.hid (HM21.out.to hw22)
    have HB22 := Lib.hid (HB21.out.to hw22)
    clear k1' k2' hw22 HM21 HB21 W21
    go_wp2_with fail
    refine (Hgi.out _ _ _ HM22.out HB22.out).mono ?_; rintro e w23 ⟨rfl, hb23⟩
    go_wp2_with fail
    refine (Hgs.out _ _ _ (HM22.out.to hb23) (HB22.out.to hb23)).mono ?_; rintro e w24 ⟨rfl, hb24⟩
    have W24 := Lib.hid (bw_to W22.out (bw_to hb23 hb24))
    have HU3 : BytesAt w24 w24.heap.size (.slice A2 n2 c2) := (HU.out.keep (fun p hp => W24.out.cell hp)).more W24.out.size
    clear R1 R2 hb23 hb24 hB22
    go_wp2_with fail
    refine (drawLeadGroup_any _ w24 HU3).mono ?_; rintro e w25 ⟨m3, v3, k3, rfl, hP3⟩
    obtain ⟨hms3, hks3⟩ := hP3.small
    have HM25 := Lib.hid hP3.meth
    have W25 := Lib.hid (bw_to W24.out hP3.bw)
    obtain ⟨L3, b3, hsi3, hss3⟩ := groups_both m3 k3 hms3 hks3
    have Hsi3 := Lib.hid hsi3
    have Hss3 := Lib.hid hss3
    obtain ⟨A25, c25, ev3⟩ := hP3.meth.form
    subst ev3
    clear hP3 hms3 hks3 hsi3 hss3 HU3
    unfold Mt.v Cl.v at *
    simp only
    go_upto_region 29 with fail
    refine box2 (C := fun W => Code.wp _ _ _ _ W) ?_
    intro w26 hw26 k1' k2' hB26
    have R1 := boxRule k1'
    have R2 := boxRule k2'
    have W26 := Lib.hid (bw_to W25.out hw26)
    have HM26 := Lib.hid (HM25.out.to hw26)
    clear k1' k2' hw26 HM25 W25
    go_wp2_with fail
    refine (Hsi3.out _ _ HM26.out).mono ?_; rintro e w27 ⟨A27, q27, rfl, ho27, hb27⟩
    have HS27 := Lib.hid (strs_of_own ho27)
    clear ho27
    go_wp2_with fail
    refine (Hss3.out _ _ (HM26.out.to hb27)).mono ?_; rintro e w28 ⟨A28, q28, rfl, ho28, hb28⟩
    have HS28 := Lib.hid (strs_of_own ho28)
    have HS27b := Lib.hid (HS27.out.to hb28)
    have W28 := Lib.hid (bw_to W26.out (bw_to hb27 hb28))
    have hq5 : (t1.toList == t1.toList) = true := beq_self_eq_true _
    have hg1 : (g1 == g1) = true := by cases g1 <;> rfl
    have hb3b : (b3 == b3) = true := by cases b3 <;> rfl
    clear hb27 hb28 ho28 hB26 R1 R2 HS27
    go_wp2_with (go_at_call 18; refine (sameTexts_any _ _ _ _ w28 HS27b.out HS28.out).mono ?_; rintro e w33 ⟨rfl, hb33⟩; rw [decide_eq_true rfl])
    go_ret
    exact ⟨rfl, bw_to W28.out hb33⟩
  · have hri := Lib.hid hF.ri
    have hrs := Lib.hid hF.rs
    have hlg := Lib.hid hF.lg
    have hrt := Lib.hid hF.rt
    have hsum := Lib.hid hF.sum
    have hgb := hF.gb
    clear hF
    go_wp2_with fail
    refine (hri.out _ _ _ HM2.out HB2.out).mono ?_; rintro e w3 ⟨A3, q3, vs3, rfl, ho3, _, hb3⟩
    have HO3 := Lib.hid ho3
    clear ho3
    go_wp2_with fail
    refine (hrs.out _ _ _ (HM2.out.to hb3) (HB2.out.to hb3)).mono ?_; rintro e w4 ⟨A4, q4, vs4, rfl, ho4, _, hb4⟩
    have HO4 := Lib.hid ho4
    have HO3b := Lib.hid (HO3.out.to hb4)
    have hB4 := bw_to hb3 hb4
    clear ho4 hb3 hb4 HO3
    go_wp2_with fail
    refine (hlg.out _ _ (HM2.out.to hB4)).mono ?_; rintro e w5 ⟨A5, q5, rfl, hb5⟩
    have hB5 := bw_to hB4 hb5
    have HO3c := Lib.hid (HO3b.out.to hb5)
    have HO4c := Lib.hid (HO4.out.to hb5)
    clear hB4 hb5 HO3b HO4
    have E3 := Lib.hid (fun j (hj : j < L.length) => sv_el HO3c.out hj)
    have E4 := Lib.hid (fun j (hj : j < L.length) => sv_el HO4c.out hj)
    have hLb : L.length ≤ maxLen := by
      rcases HO3c.out.row with ⟨_, e⟩ | ⟨g, c, _, _, h⟩
      · rw [e]; exact Nat.zero_le _
      · exact h
    unfold maxLen at hLb
    have W5 := Lib.hid (bw_to W2.out hB5)
    have Hsb : Hid (∀ j, ((L.take j).map List.length).sum ≤ gl) := Lib.hid (fun j => by
      rw [← hsum.out]
      conv => rhs; rw [← List.take_append_drop j L]
      rw [List.map_append, List.sum_append]
      exact Nat.le_add_right _ _)
    have Hst : Hid (∀ j (hj : j < L.length), ((L.take (j + 1)).map List.length).sum = ((L.take j).map List.length).sum + L[j].length) := Lib.hid (fun j hj => by
      rw [List.take_succ_eq_append_getElem hj, List.map_append, List.sum_append]
      simp)
    have HM5 := Lib.hid (HM2.out.to hB5)
    have HB5 := Lib.hid (HB2.out.to hB5)
    have Hall : Hid (((L.take L.length).map List.length).sum = gl) := Lib.hid (by rw [List.take_length]; exact hsum.out)
    clear HO3c HO4c HM2 HB2 hri hrs hlg hsum W2
    go_wp2_with fail
    go_loopw [77, 14] (fun i s wr => ∃ j : Nat, j ≤ L.length ∧ i = .int .i64 j ∧ s = .int .i64 (((L.take j).map List.length).sum : Nat) ∧ Below w5.heap.size w5 wr) (fun i _ _ => L.length - (intOf i).toNat)
    case atStart => exact ⟨0, by omega, rfl, by simp, Below.refl _ _⟩
    case round =>
      obtain ⟨j, hj, rfl, rfl, hB⟩ := hrel
      by_cases hlt : j < L.length
      · obtain ⟨g3, u3, rfl, h3⟩ := E3.out j hlt
        obtain ⟨g4, u4, rfl, h4⟩ := E4.out j hlt
        obtain ⟨C3, S3⟩ := h3 wr hB
        obtain ⟨C4, S4⟩ := h4 wr hB
        obtain ⟨h, t, hx0, hto, hro⟩ := hrt.out _ (List.getElem_mem hlt)
        have Hs1 := Lib.hid (Hst.out j hlt)
        have hs2 := Hsb.out (j + 1)
        have hs3 := Hst.out j hlt
        obtain ⟨x, hx⟩ : ∃ x, x = L[j] := ⟨_, rfl⟩
        rw [← hx] at S3 S4 hx0 hto hro Hs1 hs3
        have hxl : 0 < x.length := (List.getElem?_eq_some_iff.1 hx0).1
        obtain ⟨a, ha⟩ : ∃ a, a = ((L.take j).map List.length).sum := ⟨_, rfl⟩
        rw [← ha] at Hs1 hs3 ⊢
        have hab : a + x.length ≤ 130 := by omega
        have hx0b : ((x.length : Int) == 0) = false := beq_eq_false_iff_ne.2 (by omega)
        have HS3 := Lib.hid S3
        have HS4 := Lib.hid S4
        obtain ⟨A6, c6, rfl, _, hc6, hrd⟩ := S3
        obtain ⟨A7, c7, rfl, _, _, _⟩ := S4
        obtain ⟨ad, rfl, hC6⟩ := strs_el hrd hxl
        have Hto := Lib.hid hto
        have Hro := Lib.hid hro
        clear hx h3 h4 hs2 hs3 ha hrd hto hro
        go_upto_region 16 with (go_at_call 18; refine (sameTexts_any _ _ _ _ wr HS3.out HS4.out).mono ?_; rintro e w6 ⟨rfl, hb6⟩; rw [decide_eq_true rfl]; (have hB6 := bw_to hB hb6))
        have e0 : x[0]'hxl = h := by have := List.getElem?_eq_getElem hxl; rw [hx0] at this; injection this with this; exact this.symm
        rw [e0, add_zero'] at hC6
        have hBB := bw_to hB5 hB6
        have HM6 := Lib.hid (HM5.out.to hB6)
        have HB6 := Lib.hid (HB5.out.to hB6)
        have W6 := Lib.hid (bw_to W5.out hB6)
        have HC6 := Lib.hid hC6
        have hc6 := HC6.out _ (Below.drew hb6)
        have hxi : (0 : Int) < (x.length : Int) := by omega
        have hw1 : IntKind.i64.wrap ((a : Int) + (x.length : Int)) = ((a + x.length : Nat) : Int) := by rw [show ((a : Int) + (x.length : Int)) = ((a + x.length : Nat) : Int) by simp]; exact IntWalk.i64_in _ (by omega)
        have Hc7 : Below w2.heap.size w2 w6.drew := Below.drew hBB
        clear hC6 e0 hx0
        go_upto_region 17 with fail
        go_region_held3 (fun W => Below w2.heap.size w2 W ∧ W.cell? ad = some (.string h)) (first | with_reducible assumption | with_reducible exact ⟨by assumption, by assumption⟩) (first | (go_at_call 29; refine (Hto.out _ _ _ (HM6.out.to (Below.drew (Below.refl w6.heap.size w6))) (HB6.out.to (Below.drew (Below.refl w6.heap.size w6)))).mono ?_; rintro e w7 ⟨rfl, hb7⟩; (obtain ⟨bb, hbb⟩ : ∃ b, b = decide (x.length ≤ 60) := ⟨_, rfl⟩); rw [← hbb]; (have Hbb := Lib.hid hbb); clear hbb; (have hB7 := bw_to hBB (bw_to (Below.drew (Below.refl w6.heap.size w6)) hb7)); (have hc7 := HC6.out _ (bw_to hb6 (bw_to (Below.drew (Below.refl w6.heap.size w6)) hb7)))))
        have hB67 := bw_to (Below.drew (Below.refl w6.heap.size w6)) hb7
        cases bb
        · have hEnd := bw_to hB6 hB67
          clear hB6 hB67 hb6 hb7 hc6 hc7 Hc7
          go_wp2_with fail
          exact ⟨⟨j + 1, by omega, by go_num, by rw [Hs1.out, Int.natCast_add], hEnd⟩, by simp [intOf]; omega⟩
        · obtain ⟨htz, hround⟩ := Hro.out (of_decide_eq_true Hbb.out.symm)
          have Hrd := Lib.hid (hround _ _ (HM6.out.to hB67))
          have hEnd7 := bw_to hB6 hB67
          have hts : (t.size : Int) = (x.length : Int) := by rw [htz]
          have hne : ((t.size : Int) != (x.length : Int)) = false := by rw [hts]; simp
          clear hB6 hB67 hb6 hb7 hc6 hc7 Hc7 htz hround hts
          go_wp2_with fail
          refine Hrd.out.mono ?_; rintro e w8 ⟨rfl, hb8⟩
          have hEnd := bw_to hEnd7 hb8
          clear hEnd7 hb8
          go_wp2_with fail
          exact ⟨⟨j + 1, by omega, by go_num, by rw [Hs1.out, Int.natCast_add], hEnd⟩, by simp [intOf]; omega⟩
      · have ej : j = L.length := by omega
        rw [ej, Hall.out]
        clear ej hj hlt
        go_upto_region 25 with fail
        have W7 := Lib.hid (bw_to W5.out hB)
        have HU2 : BytesAt wr wr.heap.size (.slice A2 n2 c2) := (HU.out.keep (fun p hp => W7.out.cell hp)).more W7.out.size
        clear R1 R2
        go_wp2_with fail
        refine (drawRingTouchOf_any _ wr HU2).mono ?_; rintro e w21 ⟨m1, v1, k1, Vb1, bobs1, r1, rfl, hP1, hB1, hbl1, hr1⟩
        obtain ⟨hms1, hks1⟩ := hP1.small
        have HM21 := Lib.hid hP1.meth
        have HB21 := Lib.hid hB1.strs
        have W21 := Lib.hid (bw_to W7.out hP1.bw)
        obtain ⟨t1, g1, hgi, hgs⟩ := touch_both m1 k1 bobs1 r1 hms1 hks1 (by omega)
        have Hgi := Lib.hid hgi
        have Hgs := Lib.hid hgs
        obtain ⟨Ab1, cb1, rfl⟩ : ∃ A c, Vb1 = .slice A bobs1.length c := by obtain ⟨A, c, e, _⟩ := hB1.strs; exact ⟨A, c, e⟩
        obtain ⟨A21, c21, ev1⟩ := hP1.meth.form
        subst ev1
        clear hP1 hB1 hms1 hks1 hgi hgs HU2
        unfold Mt.v Cl.v at *
        simp only
        go_upto_region 26 with fail
        refine box2 (C := fun W => Code.wp _ _ _ _ W) ?_
        intro w22 hw22 k1' k2' hB22
        have R1 := boxRule k1'
        have R2 := boxRule k2'
        have W22 := Lib.hid (bw_to W21.out hw22)
        have HM22 := Lib.hid (HM21.out.to hw22)
        have HB22 := Lib.hid (HB21.out.to hw22)
        clear k1' k2' hw22 HM21 HB21 W21
        go_wp2_with fail
        refine (Hgi.out _ _ _ HM22.out HB22.out).mono ?_; rintro e w23 ⟨rfl, hb23⟩
        go_wp2_with fail
        refine (Hgs.out _ _ _ (HM22.out.to hb23) (HB22.out.to hb23)).mono ?_; rintro e w24 ⟨rfl, hb24⟩
        have W24 := Lib.hid (bw_to W22.out (bw_to hb23 hb24))
        have HU3 : BytesAt w24 w24.heap.size (.slice A2 n2 c2) := (HU.out.keep (fun p hp => W24.out.cell hp)).more W24.out.size
        clear R1 R2 hb23 hb24 hB22
        go_wp2_with fail
        refine (drawLeadGroup_any _ w24 HU3).mono ?_; rintro e w25 ⟨m3, v3, k3, rfl, hP3⟩
        obtain ⟨hms3, hks3⟩ := hP3.small
        have HM25 := Lib.hid hP3.meth
        have W25 := Lib.hid (bw_to W24.out hP3.bw)
        obtain ⟨L3, b3, hsi3, hss3⟩ := groups_both m3 k3 hms3 hks3
        have Hsi3 := Lib.hid hsi3
        have Hss3 := Lib.hid hss3
        obtain ⟨A25, c25, ev3⟩ := hP3.meth.form
        subst ev3
        clear hP3 hms3 hks3 hsi3 hss3 HU3
        unfold Mt.v Cl.v at *
        simp only
        go_upto_region 29 with fail
        refine box2 (C := fun W => Code.wp _ _ _ _ W) ?_
        intro w26 hw26 k1' k2' hB26
        have R1 := boxRule k1'
        have R2 := boxRule k2'
        have W26 := Lib.hid (bw_to W25.out hw26)
        have HM26 := Lib.hid (HM25.out.to hw26)
        clear k1' k2' hw26 HM25 W25
        go_wp2_with fail
        refine (Hsi3.out _ _ HM26.out).mono ?_; rintro e w27 ⟨A27, q27, rfl, ho27, hb27⟩
        have HS27 := Lib.hid (strs_of_own ho27)
        clear ho27
        go_wp2_with fail
        refine (Hss3.out _ _ (HM26.out.to hb27)).mono ?_; rintro e w28 ⟨A28, q28, rfl, ho28, hb28⟩
        have HS28 := Lib.hid (strs_of_own ho28)
        have HS27b := Lib.hid (HS27.out.to hb28)
        have W28 := Lib.hid (bw_to W26.out (bw_to hb27 hb28))
        have hq5 : (t1.toList == t1.toList) = true := beq_self_eq_true _
        have hg1 : (g1 == g1) = true := by cases g1 <;> rfl
        have hb3b : (b3 == b3) = true := by cases b3 <;> rfl
        clear hb27 hb28 ho28 hB26 R1 R2 HS27
        go_wp2_with (go_at_call 18; refine (sameTexts_any _ _ _ _ w28 HS27b.out HS28.out).mono ?_; rintro e w33 ⟨rfl, hb33⟩; rw [decide_eq_true rfl])
        go_ret
        exact ⟨rfl, bw_to W28.out hb33⟩
end Go.Proofs.YtheppimoncokcaaGreat

/- The law on joined rings. -/
namespace Go.Proofs.YtheppimoncokcaaGreat
open Go Go.RowKit
set_option linter.unusedVariables false
set_option linter.unusedSimpArgs false

structure JF (m : Mt) (k : Cl) (G Z : List ByteArray) (c0 cz : Nat) (Ax : ByteArray → List ByteArray) (cx : ByteArray → Nat) : Prop where
  ji : ∀ v W, MethAt W m v → Calls Tryz.prog 36 #[m.v v, k.v] W fun e w' => ∃ A q, e = .returned (.tuple #[.slice A Z.length q, .bool true]) ∧ w'.ownsRow W.heap.size 9 1 (.slice A Z.length q) Z.length (Z.map Value.string) ∧ Below W.heap.size W w'
  js : ∀ v W, MethAt W m v → Calls Tryz.prog 37 #[m.v v, k.v] W fun e w' => ∃ A q, e = .returned (.tuple #[.slice A Z.length q, .bool true]) ∧ w'.ownsRow W.heap.size 9 1 (.slice A Z.length q) Z.length (Z.map Value.string) ∧ Below W.heap.size W w'
  gb : ∀ v Vb W, MethAt W m v → Strs W Vb Z → Calls Tryz.prog 20 #[m.v v, k.v, Vb] W fun e w' => e = .returned (.tuple #[.bool true, .bool true]) ∧ Below W.heap.size W w'
  rz : ∀ v Vb W, MethAt W m v → Strs W Vb Z → Calls Tryz.prog 27 #[m.v v, k.v, Vb] W fun e w' => ∃ A q, e = .returned (.tuple #[.slice A cz q, .bool true]) ∧ Below W.heap.size W w'
  r0 : ∀ v W, MethAt W m v → Calls Tryz.prog 27 #[m.v v, k.v, .slice none 0 0] W fun e w' => ∃ A q, e = .returned (.tuple #[.slice A c0 q, .bool true]) ∧ Below W.heap.size W w'
  lg : ∀ v W, MethAt W m v → Calls Tryz.prog 11 #[m.v v, k.v] W fun e w' => ∃ A q, e = .returned (.tuple #[.slice A G.length q, .bool true]) ∧ w'.ownsRow W.heap.size 9 1 (.slice A G.length q) G.length (G.map Value.string) ∧ Below W.heap.size W w'
  ax : ∀ x ∈ G, ∀ v Vb W, MethAt W m v → Strs W Vb Z → NilOk Vb → Calls Tryz.prog 38 #[m.v v, k.v, Vb, .string x] W fun e w' => ∃ A q, e = .returned (.tuple #[.slice A (Ax x).length q, .bool true]) ∧ w'.ownsRow W.heap.size 9 1 (.slice A (Ax x).length q) (Ax x).length ((Ax x).map Value.string) ∧ Below W.heap.size W w'
  rx : ∀ x ∈ G, ∀ v Vb W, MethAt W m v → Strs W Vb (Ax x) → Calls Tryz.prog 27 #[m.v v, k.v, Vb] W fun e w' => ∃ A q, e = .returned (.tuple #[.slice A (cx x) q, .bool true]) ∧ Below W.heap.size W w'
  le : cz ≤ c0
  more : ∀ x ∈ G, x ∉ Z → cz ≤ cx x
  b0 : c0 ≤ 130
  bx : ∀ x, cx x ≤ 130
  bG : G.length ≤ 130
  bZ : Z.length ≤ 130
  nd : Z.Nodup
theorem join_facts {m : Mt} {k : Cl} {n T : Nat} {P B B' Q : ByteArray} (hK : BK m k n T P B B' Q) (hF : (cloB n [P, B] T).length ≤ 130) (hs : MtSmall m) (hk : ClSmall k) : ∃ G Z c0 cz Ax cx, JF m k G Z c0 cz Ax cx := by
  obtain ⟨RR, K, hJ⟩ := jg_of hK hF
  have hA : ∀ b, BG (sortB (cloB n [P, B] T)) b Q → ∀ x ∈ sortB (cloB n [P, B] T), BG (sortB (cloB n [P, B] T)) (addS b (setF n K Q x)) Q := hJ.hA
  obtain ⟨e1, e2, e3⟩ := joinL_end (cnt := cntB P B (sortB (cloB n [P, B] T)) RR) hA (cntB P B (sortB (cloB n [P, B] T)) RR []) [] (Nat.le_refl _) (BG.nil _ Q)
  have hZd : joinL (cntB P B (sortB (cloB n [P, B] T)) RR) (setF n K Q) (sortB (cloB n [P, B] T)) (cntB P B (sortB (cloB n [P, B] T)) RR []) [] = joinO n K P B Q (sortB (cloB n [P, B] T)) RR := rfl
  rw [hZd] at e1 e2 e3
  have hcnt : ∀ b, cntB P B (sortB (cloB n [P, B] T)) RR b ≤ 130 := fun b => Nat.le_trans (rgs_len _ _ _ _) (by rw [sortB_len]; exact hF)
  have hri : ∀ b, BG (sortB (cloB n [P, B] T)) b Q → ∀ v Vb W, MethAt W m v → Strs W Vb b → Calls Tryz.prog 27 #[m.v v, k.v, Vb] W fun e w' => ∃ A q, e = .returned (.tuple #[.slice A (cntB P B (sortB (cloB n [P, B] T)) RR b) q, .bool true]) ∧ Below W.heap.size W w' := fun b hb v Vb W hm hV =>
    (implRingsIn_yes m v k Vb n T K P B B' Q RR b W hK hF hb (hJ.hX b hb) hm hs hk hV).mono fun e w' ⟨A, q, vs, h1, _, _, h2⟩ => ⟨A, q, h1, h2⟩
  refine ⟨sortB (cloB n [P, B] T), joinO n K P B Q (sortB (cloB n [P, B] T)) RR, _, _, fun x => addS (joinO n K P B Q (sortB (cloB n [P, B] T)) RR) (setF n K Q x), fun x => cntB P B (sortB (cloB n [P, B] T)) RR (addS (joinO n K P B Q (sortB (cloB n [P, B] T)) RR) (setF n K Q x)),
    ⟨fun v W hm => implJoinRings_yes m v k n T K P B B' Q RR W hK hF hJ hm hs hk, fun v W hm => specJoinRings_yes m v k n T K P B B' Q RR W hK hF hJ hm hs hk, fun v Vb W hm hV => ?_, hri _ e3, fun v W hm => hri [] (BG.nil _ Q) v _ W hm (strs_nil W), fun v W hm => implLeadGroup_yes m v k n T P B B' Q W hK hF hm hs hk, fun x hx v Vb W hm hV hN => ?_, fun x hx => hri _ (hA _ e3 x hx), e2, fun x hx hn => joinF_none e1 x hx hn, hcnt _, fun x => hcnt _, hJ.hGl, ?_, e3.1.2.nodup⟩⟩
  · have h := implGoodBobs_yes m v k Vb n T P B B' Q (joinO n K P B Q (sortB (cloB n [P, B] T)) RR) W hK hF hm hs hk hV
    rw [decide_eq_true e3.1, decide_eq_true e3.2] at h
    exact h
  · have h := implAddSet_yes m v k Vb n T K P B B' Q x (joinO n K P B Q (sortB (cloB n [P, B] T)) RR) W hK hF e3 hJ.hK hJ.hKb hm hs hk hV hN
    unfold addO at h
    rw [if_pos hx, decide_eq_true hx] at h
    exact h
  · have := e3.1.len
    rw [sortB_len] at this
    omega
/-- AddSet on both sides. -/
theorem add_both (m : Mt) (k : Cl) (bobs : List ByteArray) (r : ByteArray) (hs : MtSmall m) (hk : ClSmall k) (hbl : bobs.length ≤ 100000000) : ∃ (L : List ByteArray) (b : Bool),
    (∀ v Vb W, MethAt W m v → Strs W Vb bobs → NilOk Vb → Calls Tryz.prog 38 #[m.v v, k.v, Vb, .string r] W fun e w' => ∃ A q, e = .returned (.tuple #[.slice A L.length q, .bool b]) ∧ w'.ownsRow W.heap.size 9 1 (.slice A L.length q) L.length (L.map Value.string) ∧ Below W.heap.size W w') ∧
    (∀ v Vb W, MethAt W m v → Strs W Vb bobs → NilOk Vb → Calls Tryz.prog 40 #[m.v v, k.v, Vb, .string r] W fun e w' => ∃ A q, e = .returned (.tuple #[.slice A L.length q, .bool b]) ∧ w'.ownsRow W.heap.size 9 1 (.slice A L.length q) L.length (L.map Value.string) ∧ Below W.heap.size W w') := by
  rcases bob_cases m k bobs with hb | ⟨n, T, P, B, B', Q, hK, hF, hbg⟩
  · exact ⟨[], false, fun v Vb W hm hV _ => implAddSet_no m v k Vb bobs r W hb hm hs hk hV hbl, fun v Vb W hm hV _ => specAddSet_no m v k Vb bobs r W hb hm hs hk hV hbl⟩
  · obtain ⟨K, hKb, hO⟩ := ord_ex hK.hn hK.invQ
    exact ⟨_, _, fun v Vb W hm hV hN => implAddSet_yes m v k Vb n T K P B B' Q r bobs W hK hF hbg hO hKb hm hs hk hV hN, fun v Vb W hm hV hN => specAddSet_yes m v k Vb n T K P B B' Q r bobs W hK hF hbg hO hKb hm hs hk hV hN⟩
set_option maxRecDepth 100000 in
set_option maxHeartbeats 8000000 in
theorem lawJoined_any (V : Value) (zV : Nat) (U : Value) (zU : Nat) (w : World) (hV : BytesAt w w.heap.size V) (hU : BytesAt w w.heap.size U) : Calls Tryz.prog 5 #[V, U] w fun e w' => e = .returned (.bool true) ∧ Below w.heap.size w w' := by
  have HV := Lib.hid hV
  have HU := Lib.hid hU
  obtain ⟨A1, n1, c1, zs1, rfl, _, _, hm1, _⟩ := hV
  obtain ⟨A2, n2, c2, zs2, rfl, _, _, hm2, _⟩ := hU
  unfold maxLen at hm1 hm2
  go_enter Tryz.func5, Tryz.ntmps5
  go_wp2_with fail
  refine (bigB_any A1 A2 n1 c1 n2 c2 w (by omega) (by omega)).mono ?_; rintro e w0 ⟨bb, rfl, rfl⟩
  cases bb
  rotate_left
  · go_wp2_with fail
    go_ret
    exact ⟨rfl, Below.refl _ _⟩
  go_wp2_with fail
  refine (drawJoinRings_any _ w HV.out).mono ?_; rintro e w1 ⟨m, v, k, rfl, hP⟩
  obtain ⟨hms, hks⟩ := hP.small
  have HM := Lib.hid hP.meth
  have W1 := Lib.hid hP.bw
  have hMs := Lib.hid hms
  have hKs := Lib.hid hks
  obtain ⟨A, c9, ev⟩ := hP.meth.form
  subst ev
  clear hP hms hks
  rcases blk_cases m k with hb | ⟨n, T, P, B, B', Q, hK, hF⟩
  · have hJi := Lib.hid (fun W (hm : MethAt W m (.slice A m.l.length c9)) => implJoinRings_no m _ k W hb hm hMs.out hKs.out)
    have hJs := Lib.hid (fun W (hm : MethAt W m (.slice A m.l.length c9)) => specJoinRings_no m _ k W hb hm hMs.out hKs.out)
    unfold Mt.v Cl.v at *
    simp only
    go_upto_region 4 with fail
    refine box2 (C := fun W => Code.wp _ _ _ _ W) ?_
    intro w2 hw2 k1 k2 hB2
    have R1 := boxRule k1
    have R2 := boxRule k2
    have W2 := Lib.hid (bw_to W1.out hw2)
    have HM2 := Lib.hid (HM.out.to hw2)
    clear k1 k2 hw2 HM W1 hb
    go_wp2_with fail
    refine (hJi.out _ HM2.out).mono ?_; rintro e w3 ⟨A3, q3, rfl, ho3, hb3⟩
    have HS3 := Lib.hid (strs_of_own ho3)
    clear ho3
    go_wp2_with fail
    refine (hJs.out _ (HM2.out.to hb3)).mono ?_; rintro e w4 ⟨A4, q4, rfl, ho4, hb4⟩
    have HS4 := Lib.hid (strs_of_own ho4)
    have HS3b := Lib.hid (HS3.out.to hb4)
    have hB4 := bw_to hb3 hb4
    clear ho4 hb3 hb4
    go_upto_region 24 with (go_at_call 18; refine (sameTexts_any _ _ _ _ w4 HS3b.out HS4.out).mono ?_; rintro e w5 ⟨rfl, hb5⟩; rw [decide_eq_true rfl])
    have W7 := Lib.hid (bw_to W2.out (bw_to hB4 hb5))
    have HU2 : BytesAt w5 w5.heap.size (.slice A2 n2 c2) := (HU.out.keep (fun p hp => W7.out.cell hp)).more W7.out.size
    clear R1 R2
    go_wp2_with fail
    refine (drawAddSet_any _ w5 HU2).mono ?_; rintro e w11 ⟨m', v', k', Vb', bobs', r', rfl, hP', hB', hbl', hr'⟩
    obtain ⟨hms', hks'⟩ := hP'.small
    have HM11 := Lib.hid hP'.meth
    have HB11 := Lib.hid hB'.strs
    have HN11 := Lib.hid hB'.nil
    have W11 := Lib.hid hP'.bw
    obtain ⟨L', sb, hsi, hss⟩ := add_both m' k' bobs' r' hms' hks' (by omega)
    have Hsi := Lib.hid hsi
    have Hss := Lib.hid hss
    obtain ⟨Ab', cb', rfl⟩ : ∃ A c, Vb' = .slice A bobs'.length c := by obtain ⟨A, c, e, _⟩ := hB'.strs; exact ⟨A, c, e⟩
    obtain ⟨A', c', ev'⟩ := hP'.meth.form
    subst ev'
    clear hP' hB' hms' hks' hsi hss HU2
    unfold Mt.v Cl.v at *
    simp only
    go_upto_region 25 with fail
    refine box2 (C := fun W => Code.wp _ _ _ _ W) ?_
    intro w12 hw12 k1 k2 hB12
    have R1 := boxRule k1
    have R2 := boxRule k2
    have W12 := Lib.hid (bw_to W11.out hw12)
    have HM12 := Lib.hid (HM11.out.to hw12)
    have HB12 := Lib.hid (HB11.out.to hw12)
    clear k1 k2 hw12 HM11 HB11 W11
    cases sb
    all_goals
      go_wp2_with fail
      refine (Hsi.out _ _ _ HM12.out HB12.out HN11.out).mono ?_; rintro e w13 ⟨A13, q13, rfl, ho13, hb13⟩
      have HS13 := Lib.hid (strs_of_own ho13)
      clear ho13
      go_wp2_with fail
      refine (Hss.out _ _ _ (HM12.out.to hb13) (HB12.out.to hb13) HN11.out).mono ?_; rintro e w14 ⟨A14, q14, rfl, ho14, hb14⟩
      have HS14 := Lib.hid (strs_of_own ho14)
      have W14 := Lib.hid (bw_to W7.out (bw_to W12.out (bw_to hb13 hb14)))
      have HS13b := Lib.hid (HS13.out.to hb14)
      clear hb13 hb14 ho14
      go_wp2_with (go_at_call 18; refine (sameTexts_any _ _ _ _ w14 HS13b.out HS14.out).mono ?_; rintro e w15 ⟨rfl, hb15⟩; rw [decide_eq_true rfl])
      go_ret
      exact ⟨rfl, bw_to W14.out hb15⟩
  · obtain ⟨G, Z, c0, cz, Ax, cx, hJ⟩ := join_facts hK hF hMs.out hKs.out
    have hji := Lib.hid hJ.ji
    have hjs := Lib.hid hJ.js
    have hgb := Lib.hid hJ.gb
    have hrz := Lib.hid hJ.rz
    have hr0 := Lib.hid hJ.r0
    have hlg := Lib.hid hJ.lg
    have hax := Lib.hid hJ.ax
    have hrx := Lib.hid hJ.rx
    have hmore := Lib.hid hJ.more
    have hbx := Lib.hid hJ.bx
    have hnd := Lib.hid hJ.nd
    have hle := hJ.le
    have hb0 := hJ.b0
    have hbG := hJ.bG
    have hbZ := hJ.bZ
    have hlt0 : ¬ (c0 : Int) < (cz : Int) := by omega
    clear hJ hK hF
    unfold Mt.v Cl.v at *
    simp only
    go_upto_region 4 with fail
    refine box2 (C := fun W => Code.wp _ _ _ _ W) ?_
    intro w2 hw2 k1 k2 hB2
    have R1 := boxRule k1
    have R2 := boxRule k2
    have W2 := Lib.hid (bw_to W1.out hw2)
    have HM2 := Lib.hid (HM.out.to hw2)
    clear k1 k2 hw2 HM W1
    go_wp2_with fail
    refine (hji.out _ _ HM2.out).mono ?_; rintro e w3 ⟨A3, q3, rfl, ho3, hb3⟩
    have HO3 := Lib.hid ho3
    clear ho3
    go_wp2_with fail
    refine (hjs.out _ _ (HM2.out.to hb3)).mono ?_; rintro e w4 ⟨A4, q4, rfl, ho4, hb4⟩
    have HS4 := Lib.hid (strs_of_own ho4)
    have HO4 := Lib.hid (own_to HO3.out hb4)
    have hB4 := bw_to hb3 hb4
    clear ho4 hb3 hb4 HO3
    go_wp2_with (go_at_call 18; refine (sameTexts_any _ _ _ _ w4 (strs_of_own HO4.out) HS4.out).mono ?_; rintro e w5 ⟨rfl, hb5⟩; rw [decide_eq_true rfl]; (have hB5 := bw_to hB4 hb5))
    have HO5 := Lib.hid (own_to HO4.out hb5)
    clear hb5 hB4 HO4 HS4
    refine (hgb.out _ _ _ (HM2.out.to hB5) (strs_of_own HO5.out)).mono ?_; rintro e w6 ⟨rfl, hb6⟩
    have hB6 := bw_to hB5 hb6
    have HO6 := Lib.hid (own_to HO5.out hb6)
    clear hb6 hB5 HO5
    go_wp2_with fail
    refine (hrz.out _ _ _ (HM2.out.to hB6) (strs_of_own HO6.out)).mono ?_; rintro e w7 ⟨A7, q7, rfl, hb7⟩
    have hB7 := bw_to hB6 hb7
    have HO7 := Lib.hid (own_to HO6.out hb7)
    clear hb7 hB6 HO6
    go_wp2_with fail
    refine (hr0.out _ _ (HM2.out.to hB7)).mono ?_; rintro e w8 ⟨A8, q8, rfl, hb8⟩
    have hB8 := bw_to hB7 hb8
    have HO8 := Lib.hid (own_to HO7.out hb8)
    clear hb8 hB7 HO7
    go_wp2_with fail
    refine (hlg.out _ _ (HM2.out.to hB8)).mono ?_; rintro e w9 ⟨A9, q9, rfl, ho9, hb9⟩
    have hB9 := bw_to hB8 hb9
    have HO9 := Lib.hid (own_to HO8.out hb9)
    obtain ⟨A', c', e', h1', h2', hrG⟩ := strs_of_own ho9
    cases e'
    unfold maxLen at h2'
    clear hb9 hB8 HO8 ho9
    have HM9 := Lib.hid (HM2.out.to hB9)
    have Q1 : ∀ W i, Below w9.heap.size w9 W → W.cell? ⟨w1.heap.size, i, none⟩ = _ := fun W i h => R1 W i (bw_to hB9 h)
    have Q2 : ∀ W i, Below w9.heap.size w9 W → W.cell? ⟨w1.heap.size + 1, i, none⟩ = _ := fun W i h => R2 W i (bw_to hB9 h)
    have W9 := Lib.hid (bw_to W2.out hB9)
    clear R1 R2 hB9 HM2 W2 hB2
    go_wp2_with fail
    go_loopw [116] (fun i wr => ∃ j : Nat, j ≤ G.length ∧ i = .int .i64 j ∧ Below w9.heap.size w9 wr) (fun i _ => G.length - (intOf i).toNat)
    case atStart => exact ⟨0, by omega, rfl, Below.refl _ _⟩
    case round =>
      obtain ⟨j, hj, rfl, hB⟩ := hrel
      by_cases hlt : j < G.length
      · obtain ⟨ad, rfl, hC⟩ := strs_el hrG hlt
        have hc0 := hC wr hB
        have hxm := Lib.hid (List.getElem_mem hlt)
        obtain ⟨x, hx⟩ : ∃ x, x = G[j] := ⟨_, rfl⟩
        rw [← hx] at hc0 hxm
        clear hC hx
        go_wp2_with fail
        refine (placeIn_any _ Z x wr (strs_of_own (own_to HO9.out hB)) hnd.out).mono ?_; rintro e wp ⟨hpl, rfl⟩
        rcases hpl with ⟨p, hp, hpe, rfl⟩ | ⟨hno, rfl⟩
        · have hp0 : (0 : Int) ≤ (p : Int) := by omega
          go_wp2_with fail
          exact ⟨⟨j + 1, by omega, by go_num, hB⟩, by simp [intOf]; omega⟩
        · have hno' := Lib.hid hno
          have hcx := hmore.out x hxm.out hno
          have hcb := hbx.out x
          have hltx : ¬ (cx x : Int) < (cz : Int) := by omega
          clear hno hcx
          go_wp2_with fail
          refine (hax.out x hxm.out _ _ _ (HM9.out.to hB) (strs_of_own (own_to HO9.out hB)) (nilok_own HO9.out)).mono ?_; rintro e w10 ⟨A10, q10, rfl, ho10, hb10⟩
          have hB10 := bw_to hB hb10
          have HS10 := Lib.hid (strs_of_own ho10)
          clear ho10 hb10
          go_wp2_with fail
          refine (hrx.out x hxm.out _ _ _ (HM9.out.to hB10) HS10.out).mono ?_; rintro e w11 ⟨A11, q11, rfl, hb11⟩
          have hB11 := bw_to hB10 hb11
          clear hb11 hB10
          go_wp2_with fail
          exact ⟨⟨j + 1, by omega, by go_num, hB11⟩, by simp [intOf]; omega⟩
      · go_upto_region 24 with fail
        have W7 := Lib.hid (bw_to W9.out hB)
        have HU2 : BytesAt wr wr.heap.size (.slice A2 n2 c2) := (HU.out.keep (fun p hp => W7.out.cell hp)).more W7.out.size
        clear Q1 Q2
        go_wp2_with fail
        refine (drawAddSet_any _ wr HU2).mono ?_; rintro e w11 ⟨m', v', k', Vb', bobs', r', rfl, hP', hB', hbl', hr'⟩
        obtain ⟨hms', hks'⟩ := hP'.small
        have HM11 := Lib.hid hP'.meth
        have HB11 := Lib.hid hB'.strs
        have HN11 := Lib.hid hB'.nil
        have W11 := Lib.hid hP'.bw
        obtain ⟨L', sb, hsi, hss⟩ := add_both m' k' bobs' r' hms' hks' (by omega)
        have Hsi := Lib.hid hsi
        have Hss := Lib.hid hss
        obtain ⟨Ab', cb', rfl⟩ : ∃ A c, Vb' = .slice A bobs'.length c := by obtain ⟨A, c, e, _⟩ := hB'.strs; exact ⟨A, c, e⟩
        obtain ⟨A', c', ev'⟩ := hP'.meth.form
        subst ev'
        clear hP' hB' hms' hks' hsi hss HU2
        unfold Mt.v Cl.v at *
        simp only
        go_upto_region 25 with fail
        refine box2 (C := fun W => Code.wp _ _ _ _ W) ?_
        intro w12 hw12 k1 k2 hB12
        have R1 := boxRule k1
        have R2 := boxRule k2
        have W12 := Lib.hid (bw_to W11.out hw12)
        have HM12 := Lib.hid (HM11.out.to hw12)
        have HB12 := Lib.hid (HB11.out.to hw12)
        clear k1 k2 hw12 HM11 HB11 W11
        cases sb
        all_goals
          go_wp2_with fail
          refine (Hsi.out _ _ _ HM12.out HB12.out HN11.out).mono ?_; rintro e w13 ⟨A13, q13, rfl, ho13, hb13⟩
          have HS13 := Lib.hid (strs_of_own ho13)
          clear ho13
          go_wp2_with fail
          refine (Hss.out _ _ _ (HM12.out.to hb13) (HB12.out.to hb13) HN11.out).mono ?_; rintro e w14 ⟨A14, q14, rfl, ho14, hb14⟩
          have HS14 := Lib.hid (strs_of_own ho14)
          have W14 := Lib.hid (bw_to W7.out (bw_to W12.out (bw_to hb13 hb14)))
          have HS13b := Lib.hid (HS13.out.to hb14)
          clear hb13 hb14 ho14
          go_wp2_with (go_at_call 18; refine (sameTexts_any _ _ _ _ w14 HS13b.out HS14.out).mono ?_; rintro e w15 ⟨rfl, hb15⟩; rw [decide_eq_true rfl])
          go_ret
          exact ⟨rfl, bw_to W14.out hb15⟩
end Go.Proofs.YtheppimoncokcaaGreat

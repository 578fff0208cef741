/- The law on evenings: no choice that fits has a greater worth than the plan. -/
import Derived.Test.YtofpjbdelmmclaaGreatDoorPk40
import Derived.Test.YtofpjbdelmmclaaGreatDoorPk42
import Derived.Laws.StructEq
import Derived.Test.YtofpjbdelmmclaaGreatDoorPk3
import Derived.Test.YtofpjbdelmmclaaGreatDoorRows
import Derived.Lib.LaidTab
import Derived.Stop.LaidErr
namespace Go.Proofs.YtofpjbdelmmclaaGreatDoor
open Go Go.RowKit
set_option linter.unusedVariables false
set_option linter.unusedSimpArgs false

set_option maxRecDepth 100000 in
set_option maxHeartbeats 8000000 in
theorem lawEvening_any (V : Value) (U : Value) (w : World) (hV : BytesAt w w.heap.size V) (hU : BytesAt w w.heap.size U) (hT : Tab10 w) : Calls Tryz.prog 4 #[V, U] w fun e w' => e = .returned (.bool true) ∧ Below w.heap.size w w' := by
  have HV := Lib.hid hV
  have HU := Lib.hid hU
  have HT := Lib.hid hT
  obtain ⟨B1, n1, c1, zs1, rfl, _, hnc1, hm1, _⟩ := hV
  obtain ⟨zs, hZ⟩ := bytesZ_of hU
  have HZ := Lib.hid hZ
  obtain ⟨B2, n2, c2, zs2, rfl, _, hnc2, hm2, _⟩ := hU
  unfold maxLen at hm1 hm2
  clear hT hZ
  obtain ⟨sw, hsw⟩ : ∃ z, IntKind.i64.wrap ((n1 : Int) + (n2 : Int)) = z := ⟨_, rfl⟩
  by_cases hbig : 1048576 < sw
  · go_enter Tryz.func4, Tryz.ntmps4
    go_wp2_with fail
    go_ret
    exact ⟨rfl, Below.refl _ _⟩
  go_enter Tryz.func4, Tryz.ntmps4
  go_wp2_with fail
  refine (drawBestPlan_any _ w HV.out).mono ?_; rintro e w1 ⟨a, b, c, d, v, xs, rfl, ho, hsm, hxl, hb1⟩
  obtain ⟨A1, q1, ev, _⟩ := sl_of_own ho
  subst ev
  have HI := Lib.hid (fun W (hW : Below w1.heap.size w1 W) => (show Items W (.slice A1 xs.length q1) xs from Items.to (show Items w1 (.slice A1 xs.length q1) xs from ⟨sl_of_own ho, fun x hx => by have := hsm x hx; unfold maxLen; omega⟩) hW))
  clear ho hsm
  go_upto_region 4 with fail
  refine box1 (C := fun W => Code.wp _ _ _ _ W) ?_
  intro w2 hw2 k1 hB2
  have R1 := boxRule k1
  have W2 := Lib.hid (bw_to hb1 hw2)
  have HI2 := Lib.hid (fun W (hW : Below w2.heap.size w2 W) => HI.out W (bw_to hw2 hW))
  clear k1 hw2 hb1 HI
  obtain ⟨L, hL⟩ : ∃ L, L = planL a b c d xs := ⟨_, rfl⟩
  obtain ⟨ok, hok⟩ : ∃ L, L = planB a b c d xs := ⟨_, rfl⟩
  have Hbi := Lib.hid (fun W hW => implBestPlan_any a b c d _ xs W (HI2.out W hW))
  have Hbs := Lib.hid (fun W hW => specBestPlan_any a b c d _ xs W (HI2.out W hW))
  rw [← hL, ← hok] at Hbi Hbs
  have HL := Lib.hid hL
  have Hok := Lib.hid hok
  have hLl : L.length ≤ 11 := by have := planL_len a b c d xs; rw [hL]; omega
  clear hL hok
  go_wp2_with fail
  refine (Hbi.out _ (Below.refl _ _)).mono ?_; rintro e w3 ⟨r3, rfl, hr3, hb3⟩
  obtain ⟨A3, q3, ev, _⟩ := sl_of_own hr3
  subst ev
  go_wp2_with fail
  refine (Hbs.out _ hb3).mono ?_; rintro e w4 ⟨r4, rfl, hr4, hb4⟩
  obtain ⟨A4, q4, ev, _⟩ := sl_of_own hr4
  subst ev
  have hB24 := bw_to hb3 hb4
  have HB4 := Lib.hid (fun W (hW : Below w4.heap.size w4 W) => (show Ints W (.slice A3 L.length q3) L from (ints_of_own hr3).to (bw_to hb4 hW)))
  have HC4 := Lib.hid (fun W (hW : Below w4.heap.size w4 W) => (show Ints W (.slice A4 L.length q4) L from (ints_of_own hr4).to hW))
  have W4 := Lib.hid (bw_to W2.out hB24)
  have HU4 : BytesAt w4 w4.heap.size (.slice B2 n2 c2) := (HU.out.keep (fun p hp => W4.out.cell hp)).more W4.out.size
  clear hr3 hr4 hb3 hb4 Hbi Hbs
  go_wp2_with fail
  refine (drawTimeIn_any _ w4 HU4).mono ?_; rintro e w5 ⟨a', b', c', d', v', xs', u', ch, rfl, hI', hC', hb5⟩
  have HI5 := Lib.hid hI'
  have HC5 := Lib.hid hC'
  obtain ⟨⟨A5, q5, ev, _⟩, _⟩ := hI'
  subst ev
  obtain ⟨A6, q6, ev, _⟩ := hC'
  subst ev
  clear HU4
  go_upto_region 7 with fail
  refine box1 (C := fun W => Code.wp _ _ _ _ W) ?_
  intro w6 hw6 k2 hB6
  have R2 := boxRule k2
  have hB26 := bw_to hB24 (bw_to hb5 hw6)
  have hB46 := bw_to hb5 hw6
  have W6 := Lib.hid (bw_to W4.out hB46)
  have HI6 := Lib.hid (fun W (hW : Below w6.heap.size w6 W) => HI5.out.to (bw_to hw6 hW))
  have HC6 := Lib.hid (fun W (hW : Below w6.heap.size w6 W) => HC5.out.to (bw_to hw6 hW))
  clear k2 hw6 hb5 HI5 HC5 hB24
  obtain ⟨t, ht⟩ : ∃ t, t = timeInN a' b' c' d' xs' ch := ⟨_, rfl⟩
  obtain ⟨one, hone⟩ : ∃ t, t = choiceOk a' b' c' d' xs' ch := ⟨_, rfl⟩
  obtain ⟨s, hs⟩ : ∃ t, t = planT a' b' c' d' xs' ch := ⟨_, rfl⟩
  obtain ⟨three, hth⟩ : ∃ t, t = planOk a' b' c' d' xs' ch := ⟨_, rfl⟩
  have Hti := Lib.hid (fun W hW => implTimeIn_any a' b' c' d' _ _ xs' ch W (HI6.out W hW) (HC6.out W hW))
  have Hts := Lib.hid (fun W hW => specTimeIn_any a' b' c' d' _ _ xs' ch W (HI6.out W hW) (HC6.out W hW))
  have Hpi := Lib.hid (fun W hW => implPlanText_any a' b' c' d' _ _ xs' ch W (HI6.out W hW) (HC6.out W hW) (HT.out.to (bw_to W6.out hW)))
  have Hps := Lib.hid (fun W hW => specPlanText_any a' b' c' d' _ _ xs' ch W (HI6.out W hW) (HC6.out W hW))
  have Hci := Lib.hid (fun W hW => implCheckBest_any a' b' c' d' _ _ xs' ch W (HI6.out W hW) (HC6.out W hW))
  have Hcs := Lib.hid (fun W hW => specCheckBest_any a' b' c' d' _ _ xs' ch W (HI6.out W hW) (HC6.out W hW))
  obtain ⟨cb, hcb⟩ : ∃ t, t = checkB a' b' c' d' xs' ch := ⟨_, rfl⟩
  have Hthree : Hid (one = true → three = decide (t ≤ c')) := Lib.hid (fun h => by
    rw [hth, ht]
    rw [hone] at h
    unfold planOk
    rw [h, timeInN_yes h]; rfl)
  rw [← ht, ← hone] at Hti Hts
  rw [← hs, ← hth] at Hpi Hps
  rw [← hcb] at Hci Hcs
  clear ht hone hs hth hcb HI6 HC6
  go_wp2_with fail
  refine (Hti.out _ (Below.refl _ _)).mono ?_; rintro e w7 ⟨rfl, hb7⟩
  go_wp2_with fail
  refine (Hts.out _ hb7).mono ?_; rintro e w8 ⟨rfl, hb8⟩
  have hB68 := bw_to hb7 hb8
  go_wp2_with fail
  refine (Hpi.out _ hB68).mono ?_; rintro e w9 ⟨rfl, hb9⟩
  have hB69 := bw_to hB68 hb9
  go_wp2_with fail
  refine (Hps.out _ hB69).mono ?_; rintro e w10 ⟨rfl, hb10⟩
  have hB610 := bw_to hB69 hb10
  have W10 := Lib.hid (bw_to W6.out hB610)
  have HU10 : BytesAt w10 w10.heap.size (.slice B2 n2 c2) := (HU.out.keep (fun p hp => W10.out.cell hp)).more W10.out.size
  clear hb7 hb8 hb9 hb10 hB68 hB69 Hti Hts Hpi Hps
  go_wp2_with fail
  refine (drawItemOf_any _ w10 HU10).mono ?_; rintro e w11 ⟨m, mv, k, tt, wo, rfl, hz, hl, hss, ⟨hkb, hks⟩, htz, hwz, hrow, hb11⟩
  have hms : MtSmall m := ⟨by omega, by show m.l.length ≤ _; omega, fun s hs => by have := hss s hs; omega⟩
  have hks' : ClSmall k := ⟨by omega, by omega⟩
  have HM := Lib.hid (show MethAt w11 m mv from ⟨strs_own_v rfl hrow, by unfold maxLen; omega, fun s hs => by have := hss s hs; unfold maxLen; omega⟩)
  have Hii := Lib.hid (fun v W (hM : MethAt W m v) => implItemOf_any m v k tt wo W hM hms hks' (by omega))
  have His := Lib.hid (fun v W (hM : MethAt W m v) => specItemOf_any m v k tt wo W hM hms hks' (by omega))
  obtain ⟨six, hsix⟩ : ∃ b, b = okI m k tt wo := ⟨_, rfl⟩
  rw [← hsix] at Hii His
  obtain ⟨⟨iN, iS, iR, iW⟩, hit⟩ : ∃ x, x = itO m k tt wo := ⟨_, rfl⟩
  rw [← hit] at Hii His
  obtain ⟨A8, q8, ev⟩ := HM.out.form
  subst ev
  have hB611 := bw_to hB610 hb11
  have W11 := Lib.hid (bw_to W10.out hb11)
  clear hsix hit hms hks' hss hrow hz hl hkb hks htz HU10 hb11 hB610
  unfold Mt.v Cl.v It.v at *
  simp only at Hii His ⊢
  go_upto_region 12 with fail
  refine box2 (C := fun W => Code.wp _ _ _ _ W) ?_
  intro w12 hw12 k3 k4 hB12
  have R3 := boxRule k3
  have R4 := boxRule k4
  have HM12 := Lib.hid (HM.out.to hw12)
  have hB612 := bw_to hB611 hw12
  have W12 := Lib.hid (bw_to W11.out hw12)
  clear k3 k4 hw12 HM hB611
  go_wp2_with fail
  refine (Hii.out _ _ HM12.out).mono ?_; rintro e w13 ⟨rfl, hb13⟩
  go_upto_region 13 with fail
  refine box1 (C := fun W => Code.wp _ _ _ _ W) ?_
  intro w14 hw14 k5 hB14
  have R5 := boxRule k5
  have hB1214 := bw_to hb13 hw14
  clear k5
  go_wp2_with fail
  refine (His.out _ _ (HM12.out.to hB1214)).mono ?_; rintro e w15 ⟨rfl, hb15⟩
  go_upto_region 14 with fail
  refine box1 (C := fun W => Code.wp _ _ _ _ W) ?_
  intro w16 hw16 k6 hB16
  have R6 := boxRule k6
  have hB1416 := bw_to hb15 hw16
  have hB616 := bw_to hB612 (bw_to hB1214 hB1416)
  have W16 := Lib.hid (bw_to W12.out (bw_to hB1214 hB1416))
  have HV16 : BytesAt w16 w16.heap.size (.slice B1 n1 c1) := (HV.out.keep (fun p hp => W16.out.cell hp)).more W16.out.size
  clear k6 hb13 hw14 hb15 hw16 HM12 Hii His hB1214 hB612
  go_wp2_with fail
  refine (drawTimeOf_any _ w16 HV16).mono ?_; rintro e w17 ⟨a2, b2, c2', d2, ⟨xN, xS, xR, xW⟩, rfl, hxz, hb17⟩
  simp only at hxz ⊢
  go_upto_region 15 with fail
  refine box2 (C := fun W => Code.wp _ _ _ _ W) ?_
  intro w18 hw18 k7 k8 hB18
  have R7 := boxRule k7
  have R8 := boxRule k8
  have hB1618 := bw_to hb17 hw18
  have hB618 := bw_to hB616 hB1618
  have hB1418 := bw_to hB1416 hB1618
  have W18 := Lib.hid (bw_to W16.out hB1618)
  have hxz2 : xN.size ≤ maxLen := by unfold maxLen; omega
  have Hoi := Lib.hid (fun W => implTimeOf_any a2 b2 c2' d2 ⟨xN, xS, xR, xW⟩ W hxz2)
  have Hos := Lib.hid (fun W => specTimeOf_any a2 b2 c2' d2 ⟨xN, xS, xR, xW⟩ W hxz2)
  have Hgi := Lib.hid (fun W => implGoodItem_any ⟨xN, xS, xR, xW⟩ W hxz2)
  have Hgs := Lib.hid (fun W => specGoodItem_any ⟨xN, xS, xR, xW⟩ W hxz2)
  obtain ⟨tn, htn⟩ : ∃ z, z = timeN a2 b2 c2' d2 ⟨xN, xS, xR, xW⟩ := ⟨_, rfl⟩
  obtain ⟨tb, htb⟩ : ∃ z, z = timeB a2 b2 c2' d2 ⟨xN, xS, xR, xW⟩ := ⟨_, rfl⟩
  obtain ⟨gi, hgi⟩ : ∃ b, b = itB ⟨xN, xS, xR, xW⟩ := ⟨_, rfl⟩
  rw [← htn, ← htb] at Hoi Hos
  rw [← hgi] at Hgi Hgs
  simp only at Hoi Hos Hgi Hgs
  clear k7 k8 hb17 hw18 htn htb hgi hxz hxz2 HV16 hB616 hB1416
  go_wp2_with fail
  refine (Hoi.out _).mono ?_; rintro e w19 ⟨rfl, hb19⟩
  go_wp2_with fail
  refine (Hos.out _).mono ?_; rintro e w20 ⟨rfl, hb20⟩
  go_wp2_with fail
  have hB18z := bw_to hb19 hb20
  have hB16z := bw_to hB1618 hB18z
  have hB14z := bw_to hB1418 hB18z
  have hB6z := bw_to hB618 hB18z
  have hB2z := bw_to hB26 hB6z
  have hB4z := bw_to hB46 hB6z
  have W20 := Lib.hid (bw_to W18.out hB18z)
  obtain ⟨evb, hevb⟩ : ∃ z, z = evB a b c d := ⟨_, rfl⟩
  have Hvi := Lib.hid (fun W => implGoodEvening_any a b c d W)
  have Hvs := Lib.hid (fun W => specGoodEvening_any a b c d W)
  rw [← hevb] at Hvi Hvs
  have HQ := Lib.hid (fun W (hW : Below w20.heap.size w20 W) => qSameN_same _ _ L W (HB4.out W (bw_to hB4z hW)) (HC4.out W (bw_to hB4z hW)))
  have Hci2 := Lib.hid (fun W (hW : Below w20.heap.size w20 W) => Hci.out W (bw_to hB6z hW))
  have Hcs2 := Lib.hid (fun W (hW : Below w20.heap.size w20 W) => Hcs.out W (bw_to hB6z hW))
  clear hevb hb19 hb20 Hoi Hos hB18 hB1618 hB1418 hB618 Hcs
  have e0 : ∀ u : Aft w20, u.w.cell? ⟨w1.heap.size, 0, none⟩ = _ := fun u => R1 u.w 0 (bw_to hB2z u.h)
  have e1 : ∀ u : Aft w20, u.w.cell? ⟨w1.heap.size, 1, none⟩ = _ := fun u => R1 u.w 1 (bw_to hB2z u.h)
  have e2 : ∀ u : Aft w20, u.w.cell? ⟨w1.heap.size, 2, none⟩ = _ := fun u => R1 u.w 2 (bw_to hB2z u.h)
  have e3 : ∀ u : Aft w20, u.w.cell? ⟨w1.heap.size, 3, none⟩ = _ := fun u => R1 u.w 3 (bw_to hB2z u.h)
  have x0 : ∀ u : Aft w20, u.w.cell? ⟨w5.heap.size, 0, none⟩ = _ := fun u => R2 u.w 0 (bw_to hB6z u.h)
  have x1 : ∀ u : Aft w20, u.w.cell? ⟨w5.heap.size, 1, none⟩ = _ := fun u => R2 u.w 1 (bw_to hB6z u.h)
  have x2 : ∀ u : Aft w20, u.w.cell? ⟨w5.heap.size, 2, none⟩ = _ := fun u => R2 u.w 2 (bw_to hB6z u.h)
  have x3 : ∀ u : Aft w20, u.w.cell? ⟨w5.heap.size, 3, none⟩ = _ := fun u => R2 u.w 3 (bw_to hB6z u.h)
  have y0 : ∀ u : Aft w20, u.w.cell? ⟨w13.heap.size, 0, none⟩ = _ := fun u => R5 u.w 0 (bw_to hB14z u.h)
  have y1 : ∀ u : Aft w20, u.w.cell? ⟨w13.heap.size, 1, none⟩ = _ := fun u => R5 u.w 1 (bw_to hB14z u.h)
  have y2 : ∀ u : Aft w20, u.w.cell? ⟨w13.heap.size, 2, none⟩ = _ := fun u => R5 u.w 2 (bw_to hB14z u.h)
  have y3 : ∀ u : Aft w20, u.w.cell? ⟨w13.heap.size, 3, none⟩ = _ := fun u => R5 u.w 3 (bw_to hB14z u.h)
  have z0 : ∀ u : Aft w20, u.w.cell? ⟨w15.heap.size, 0, none⟩ = _ := fun u => R6 u.w 0 (bw_to hB16z u.h)
  have z1 : ∀ u : Aft w20, u.w.cell? ⟨w15.heap.size, 1, none⟩ = _ := fun u => R6 u.w 1 (bw_to hB16z u.h)
  have z2 : ∀ u : Aft w20, u.w.cell? ⟨w15.heap.size, 2, none⟩ = _ := fun u => R6 u.w 2 (bw_to hB16z u.h)
  have z3 : ∀ u : Aft w20, u.w.cell? ⟨w15.heap.size, 3, none⟩ = _ := fun u => R6 u.w 3 (bw_to hB16z u.h)
  have g0 : ∀ u : Aft w20, u.w.cell? ⟨w17.heap.size + 1, 0, none⟩ = _ := fun u => R8 u.w 0 (bw_to hB18z u.h)
  have g1 : ∀ u : Aft w20, u.w.cell? ⟨w17.heap.size + 1, 1, none⟩ = _ := fun u => R8 u.w 1 (bw_to hB18z u.h)
  have g2 : ∀ u : Aft w20, u.w.cell? ⟨w17.heap.size + 1, 2, none⟩ = _ := fun u => R8 u.w 2 (bw_to hB18z u.h)
  have g3 : ∀ u : Aft w20, u.w.cell? ⟨w17.heap.size + 1, 3, none⟩ = _ := fun u => R8 u.w 3 (bw_to hB18z u.h)
  have k1 : (ok != ok) = false := by cases ok <;> rfl
  have k2 : (one != one) = false := by cases one <;> rfl
  have k3 : (three != three) = false := by cases three <;> rfl
  have k4 : (six != six) = false := by cases six <;> rfl
  have k5 : (tb != tb) = false := by cases tb <;> rfl
  have k6 : (cb != cb) = false := by cases cb <;> rfl
  have k7 : (evb != evb) = false := by cases evb <;> rfl
  have k8 : (gi != gi) = false := by cases gi <;> rfl
  have hBr := Below.refl w20.heap.size w20
  refine wp_region_aft (wb := w20) (by kernel_rfl) (by kernel_rfl) hBr ?_
  as_aux_lemma =>
    simp only [List.append]
    repeat (go_big_quiet_step ((first | (go_at_call 27; exact calls_aft fun w hw => HQ.out w hw) | (go_at_call 28; exact calls_aft fun w hw => Hci2.out w hw) | (go_at_call 29; exact calls_aft fun w hw => Hcs2.out w hw) | (go_at_call 30; exact calls_aft fun w hw => Hvi.out w) | (go_at_call 31; exact calls_aft fun w hw => Hvs.out w) | (go_at_call 32; exact calls_aft fun w hw => Hgi.out w) | (go_at_call 33; exact calls_aft fun w hw => Hgs.out w))))
    refine wpQuiet_nil ?_
    rintro _ ⟨u3, rfl⟩
    have hB3 := u3.h
    generalize u3.w = w21 at hB3 ⊢
    have hB2y := bw_to hB2z hB3
    have hB6y := bw_to hB6z hB3
    have hB4y := bw_to hB4z hB3
    have W21 := Lib.hid (bw_to W20.out hB3)
    clear e0 e1 e2 e3 x0 x1 x2 x3 y0 y1 y2 y3 z0 z1 z2 z3 g0 g1 g2 g3 HQ Hci2 Hcs2 Hvi Hvs Hgi Hgs R5 R6 R7 R8 k1 k2 k3 k4 k5 k6 k7 k8 hB18z hB16z hB14z hB6z hB2z hB4z hB3
    have x2 := R2 w21 2 hB6y
    have hk9 : one = false ∨ (one = true ∧ three = true ∧ decide (t ≤ c') = true) ∨ (one = true ∧ three = false ∧ decide (t ≤ c') = false) := by
      cases one
      · exact .inl rfl
      · have h := Hthree.out rfl
        cases three
        · exact .inr (.inr ⟨rfl, rfl, h.symm⟩)
        · exact .inr (.inl ⟨rfl, rfl, h.symm⟩)
    clear Hthree R2 hB6y
    go_upto_region 19 with fail
    go_cut [225] (fun s225 wx => s225 = .bool false ∧ wx = w21)
    case first =>
      rcases hk9 with rfl | ⟨rfl, rfl, hk⟩ | ⟨rfl, rfl, hk⟩
      all_goals
        go_wp2_with fail
        go_meet
        exact ⟨rfl, rfl⟩
    case rest =>
      obtain ⟨rfl, rfl⟩ := hcut
      as_aux_lemma =>
        have HR1 := Lib.hid R1
        clear hk9 R1 x2
        go_upto_region 21 with fail
        cases ok
        · go_wp2_with fail
          go_ret
          exact ⟨rfl, W21.out⟩
        · have hp := Hok.out.symm
          obtain ⟨hc1, hc2, hc3, hc4⟩ := plan_law hp
          have Hin := Lib.hid (fun z (hz : z ∈ L) => plan_in (show z ∈ planL a b c d xs from by rw [← HL.out]; exact hz))
          have hitems := (plan_parts hp).2
          rw [← HL.out] at hc1 hc2 hc3 hc4
          have Htt := Lib.hid (fun W hW hW4 => implTimeIn_any a b c d _ _ xs L W (HI2.out W hW) (HB4.out W hW4))
          have Hck := Lib.hid (fun W hW hW4 => implCheckBest_any a b c d _ _ xs L W (HI2.out W hW) (HB4.out W hW4))
          rw [hc1] at Htt
          rw [hc3] at Hck
          obtain ⟨tot, htot⟩ : ∃ z, z = timeInN a b c d xs L := ⟨_, rfl⟩
          rw [← htot] at Htt hc2
          have Hlast := Lib.hid hc4
          have Hitems := Lib.hid hitems
          have hct : ¬ c < tot := by omega
          have htc : tot ≤ c := hc2
          have hdc : decide (c < tot) = false := decide_eq_false hct
          clear htot hc1 hc2 hc3 hc4 hitems hp Hok
          have e0 := HR1.out wc 0 hB2y
          have e1 := HR1.out wc 1 hB2y
          have e2 := HR1.out wc 2 hB2y
          have e3 := HR1.out wc 3 hB2y
          go_wp2_with fail
          refine (Htt.out _ hB2y hB4y).mono ?_; rintro e w22 ⟨rfl, hb22⟩
          have hB222 := bw_to hB2y hb22
          have hB422 := bw_to hB4y hb22
          clear e0 e1 e2 e3
          have e0 := HR1.out w22 0 hB222
          have e1 := HR1.out w22 1 hB222
          have e2 := HR1.out w22 2 hB222
          have e3 := HR1.out w22 3 hB222
          go_wp2_with fail
          refine (Hck.out _ hB222 hB422).mono ?_; rintro e w23 ⟨rfl, hb23⟩
          have hB223 := bw_to hB222 hb23
          have hB423 := bw_to hB422 hb23
          have W23 := Lib.hid (bw_to W21.out (bw_to hb22 hb23))
          clear e0 e1 e2 e3 hb22 hb23 hB222 hB422 hB2y hB4y Htt Hck W21
          go_wp2_with fail
          go_loopw [38, 252] (fun s i wr => ∃ k : Nat, k ≤ L.length ∧ i = .int .i64 k ∧ s = .int .i64 (worthS xs (L.take k)) ∧ Below w23.heap.size w23 wr) (fun _ i _ => L.length - (intOf i).toNat)
          case atStart => exact ⟨0, by omega, rfl, rfl, Below.refl _ _⟩
          case round =>
            as_aux_lemma =>
              obtain ⟨k, hk, rfl, rfl, hBr⟩ := hrel
              by_cases hlt : k < L.length
              · obtain ⟨j, hj, hjl⟩ := Hin.out L[k] (List.getElem_mem hlt)
                have hBL := HB4.out wr (bw_to hB423 hBr)
                have hBI := HI2.out wr (bw_to hB223 hBr)
                obtain ⟨_, _, e5, _, _, hr5⟩ := hBL
                cases e5
                obtain ⟨ad5, rfl, hC5⟩ := ints_el hr5 hlt
                have hc5 := hC5 wr (Below.refl _ _)
                rw [hj] at hc5
                obtain ⟨⟨_, _, e6, _, _, hr6⟩, _⟩ := hBI
                cases e6
                obtain ⟨ad6, rfl, hC6⟩ := items_el hr6 hjl
                have hc6 := hC6 wr (Below.refl _ _)
                have Hn : Hid (worthS xs (L.take (k + 1)) = worthS xs (L.take k) + xs[j].worth) := Lib.hid (by rw [List.take_succ_eq_append_getElem hlt, hj, worthS_snoc xs _ j hjl])
                have hbd1 := worth_bdV Hitems.out (L.take k)
                have hbd2 := worth_bdV Hitems.out (L.take (k + 1))
                rw [Hn.out, List.length_take] at hbd2
                rw [List.length_take] at hbd1
                obtain ⟨wo2, hwo2⟩ : ∃ z, z = xs[j].worth := ⟨_, rfl⟩
                rw [← hwo2] at hc6 Hn hbd2
                obtain ⟨sm, hsm⟩ : ∃ z, z = worthS xs (L.take k) := ⟨_, rfl⟩
                rw [← hsm] at Hn hbd1 hbd2 ⊢
                have hwr : IntKind.i64.wrap (sm + wo2) = sm + wo2 := IntWalk.i64_in _ (by omega)
                clear hC5 hC6 hr5 hr6 hj hwo2 hsm hbd1 hbd2
                have hki : (k : Int) < (L.length : Int) := by omega
                have hji : (j : Int) < (xs.length : Int) := by omega
                go_wp2_with fail
                exact ⟨⟨k + 1, by omega, by go_num, by rw [Hn.out], hBr⟩, by simp [intOf]; omega⟩
              · have hki : ¬ (k : Int) < (L.length : Int) := by omega
                obtain rfl : k = L.length := by omega
                rw [List.take_length]
                obtain ⟨sm, hsm⟩ : ∃ z, z = worthS xs L := ⟨_, rfl⟩
                have Hl2 := Lib.hid (fun q h1 h2 => (show worthS xs (maskL xs.length q) ≤ sm from by rw [hsm]; exact Hlast.out q h1 h2))
                rw [← hsm]
                have W24 := Lib.hid (bw_to W23.out hBr)
                have hB224 := bw_to hB223 hBr
                obtain ⟨Q, hQ⟩ : ∃ Q, Q = qN zs := ⟨_, rfl⟩
                have hQl : Q ≤ 1000002 := by rw [hQ]; exact qN_le zs
                have HQn := Lib.hid (fun W (hW : Below w.heap.size w W) => qNumber_det (.slice B2 n2 c2) zs W w.heap.size (HZ.out.keep (fun p hp => hW.cell hp)))
                rw [← hQ] at HQn
                obtain ⟨w24, hw24⟩ : ∃ W, W = wr := ⟨_, rfl⟩
                rw [← hw24] at W24 hB224 ⊢
                clear hw24 hsm hBr hB423 hB223 HB4 HC4 Hin Hlast W23 hQ
                go_wp2_with fail
                go_loopw [41, 42, 266] (fun o s i wr => ∃ (k : Nat) (Ao : Option Addr) (q : Nat), k ≤ xs.length ∧ i = .int .i64 k ∧ o = .slice Ao (maskL k Q).length q ∧ s = .int .i64 (worthS xs (maskL k Q)) ∧ wr.ownsRow w24.heap.size 3 1 (.slice Ao (maskL k Q).length q) (maskL k Q).length ((maskL k Q).map (Value.int .i64)) ∧ Below w24.heap.size w24 wr) (fun _ _ i _ => xs.length - (intOf i).toNat)
                case atStart => exact ⟨0, none, 0, by omega, rfl, rfl, rfl, World.ownsRow_nil _ _ _ _, Below.refl _ _⟩
                case round =>
                  as_aux_lemma =>
                    obtain ⟨k, Ao, q, hk, rfl, rfl, rfl, hown, hBr⟩ := hrel
                    by_cases hlt : k < xs.length
                    · have hki : (k : Int) < (xs.length : Int) := by omega
                      go_wp2_with fail
                      refine (HQn.out wr (bw_to W24.out hBr)).mono ?_; rintro e w25 ⟨rfl, rfl⟩
                      have hbt := bit_tmod Q k
                      have Hs := Lib.hid (maskL_succ k Q)
                      cases htb : Q.testBit k
                      · rw [htb] at hbt Hs
                        have He : Hid (maskL (k + 1) Q = maskL k Q) := Lib.hid (by rw [Hs.out]; simp)
                        clear htb Hs
                        go_wp2_with fail
                        exact ⟨⟨k + 1, Ao, q, by omega, by go_num, by rw [He.out], by rw [He.out], by rw [He.out]; exact hown, hBr⟩, by simp [intOf]; omega⟩
                      · rw [htb] at hbt Hs
                        have He : Hid (maskL (k + 1) Q = maskL k Q ++ [(k : Int)]) := Lib.hid (by rw [Hs.out]; simp)
                        have Hw := Lib.hid (worthS_snoc xs (maskL k Q) k hlt)
                        have hml := maskL_length k Q
                        have hbd1 := worth_bdV Hitems.out (maskL k Q)
                        have hbd2 := worth_bdV Hitems.out (maskL k Q ++ [(k : Int)])
                        rw [Hw.out, List.length_append, List.length_singleton] at hbd2
                        obtain ⟨⟨_, _, e6, _, _, hr6⟩, _⟩ := HI2.out w24 hB224
                        cases e6
                        obtain ⟨ad6, rfl, hC6⟩ := items_el hr6 hlt
                        obtain ⟨wo2, hwo2⟩ : ∃ z, z = xs[k].worth := ⟨_, rfl⟩
                        rw [← hwo2] at hC6 Hw hbd2
                        obtain ⟨vs, hvs⟩ : ∃ z, z = worthS xs (maskL k Q) := ⟨_, rfl⟩
                        rw [← hvs] at Hw hbd1 hbd2 ⊢
                        obtain ⟨ml, hmle⟩ : ∃ z, z = (maskL k Q).length := ⟨_, rfl⟩
                        have Hml := Lib.hid hmle
                        rw [← hmle] at hown hml hbd1 hbd2 ⊢
                        have hwr : IntKind.i64.wrap (vs + wo2) = vs + wo2 := IntWalk.i64_in _ (by omega)
                        have HC6 := Lib.hid hC6
                        clear htb Hs hwo2 hvs hmle hbd1 hbd2 hr6 hC6
                        go_wp2_with (at_builtin; go_must (refine wpList_app wr rfl _ _ _ rfl w24.heap.size 3 _ 1 8 Tryz.underlying40 info_i rfl (by omega) hown [.int .i64 (k : Int)] rfl rfl rfl (one_mem rfl) (by omega) (by omega) hBr.size ?_); intro v6 w6 ho6 hb6 _ _; (obtain ⟨A6', q6', e6', _⟩ := sl_of_own ho6); subst e6'; (have hB6' := hBr.trans hb6); (have hc6 := HC6.out w6 hB6'))
                        exact ⟨⟨k + 1, A6', q6', by omega, by go_num, by rw [He.out, List.length_append, ← Hml.out]; rfl, by rw [He.out, Hw.out], by rw [He.out, List.length_append, List.map_append, ← Hml.out]; exact ho6, hB6'⟩, by simp [intOf]; omega⟩
                    · have hki : ¬ (k : Int) < (xs.length : Int) := by omega
                      obtain rfl : k = xs.length := by omega
                      have hIo := Lib.hid (ints_of_own hown)
                      have Hfin := Lib.hid (fun u W hW (hI : Ints W u (maskL xs.length Q)) => implTimeIn_any a b c d _ u xs (maskL xs.length Q) W (HI2.out W hW) hI)
                      have Hl3 := Lib.hid (Hl2.out Q)
                      obtain ⟨may, hmay⟩ : ∃ z, z = choiceOk a b c d xs (maskL xs.length Q) := ⟨_, rfl⟩
                      obtain ⟨cost, hcost⟩ : ∃ z, z = timeInN a b c d xs (maskL xs.length Q) := ⟨_, rfl⟩
                      obtain ⟨vs, hvs⟩ : ∃ z, z = worthS xs (maskL xs.length Q) := ⟨_, rfl⟩
                      rw [← hmay, ← hcost] at Hfin Hl3
                      rw [← hvs] at Hl3 ⊢
                      have e0 := HR1.out wr 0 (bw_to hB224 hBr)
                      have e1 := HR1.out wr 1 (bw_to hB224 hBr)
                      have e2 := HR1.out wr 2 (bw_to hB224 hBr)
                      have e3 := HR1.out wr 3 (bw_to hB224 hBr)
                      clear hmay hcost hvs
                      go_wp2_with fail
                      refine (Hfin.out _ wr (bw_to hB224 hBr) hIo.out).mono ?_; rintro e w26 ⟨rfl, hb26⟩
                      have W26 := Lib.hid (bw_to W24.out (bw_to hBr hb26))
                      clear e0 e1 e2 e3
                      have e2 := HR1.out w26 2 (bw_to hB224 (bw_to hBr hb26))
                      cases may
                      · go_wp2_with fail
                        go_ret
                        exact ⟨rfl, W26.out⟩
                      · by_cases hcc : c < cost
                        · have hdd : decide (c < cost) = true := decide_eq_true hcc
                          go_wp2_with fail
                          go_ret
                          exact ⟨rfl, W26.out⟩
                        · have hdd : decide (c < cost) = false := decide_eq_false hcc
                          have hcl : cost ≤ c := by omega
                          have hle : vs ≤ sm := Hl3.out rfl hcl
                          have hde : decide (vs ≤ sm) = true := decide_eq_true hle
                          go_wp2_with fail
                          go_ret
                          exact ⟨rfl, W26.out⟩
end Go.Proofs.YtofpjbdelmmclaaGreatDoor

/- The law Evening, as the row calls it. -/
namespace Go.Proofs.YtofpjbdelmmclaaGreatDoor
open Go Go.RowKit
set_option linter.unusedVariables false

theorem lawEvening_row (V : Value) (zV : Nat) (U : Value) (zU : Nat) (w : World) (hV : BytesAt w w.heap.size V) (hU : BytesAt w w.heap.size U) (ht : Tab10 w) : Calls Tryz.prog 4 #[V, U] w fun e w' => e = .returned (.bool true) ∧ Below w.heap.size w w' :=
  lawEvening_any V U w hV hU ht
end Go.Proofs.YtofpjbdelmmclaaGreatDoor

/- From a row's list to the library's table of powers of ten. -/
namespace Go.Proofs.YtofpjbdelmmclaaGreatDoor
open Go Go.RowKit
set_option maxRecDepth 100000
theorem tab_same : (Rows.laid_internal_strconv_uint64pow10 : DataW Unit) = Lib.tabData .u64 Lib.pow10Tab := by kernel_rfl
theorem tab_of {x y : String × DataW Unit} {rest : List (String × DataW Unit)} {W : World} (h : laidMet Tryz.prog (x :: y :: ("internal/strconv.uint64pow10", Rows.laid_internal_strconv_uint64pow10) :: rest) W) : Tab10 W := by
  have h1 := laidMet.tail (laidMet.tail h)
  rw [tab_same] at h1
  exact Lib.tabBelow_of_tabIs (Lib.tabIs_of_head (g := 3) (by kernel_rfl) (t := 197) (e := 68) (n := 20) (by kernel_rfl) Tryz.underlying197 Tryz.underlying68 (by kernel_rfl) (by kernel_rfl) h1)
end Go.Proofs.YtofpjbdelmmclaaGreatDoor

/- The law MergeBooks, walked. -/
import Derived.Test.YtamneiffhohleaaW6
import Derived.Test.YtamneiffhohleaaW5
namespace Go.Proofs.Ytamneiffhohleaa
open Go Go.RowKit
set_option linter.unusedVariables false
set_option linter.unusedSimpArgs false

set_option maxRecDepth 100000 in
set_option maxHeartbeats 4000000 in
theorem lawMergeBooks_any (V : Value) (xs : List Rc) (U : Value) (ys : List Rc) (w : World) (hV : Recs w V xs ∧ ∀ x ∈ xs, RcFit x) (hU : Recs w U ys ∧ ∀ x ∈ ys, RcFit x) : Calls Try.prog 4 #[V, U] w fun e w' => e = .returned (.bool true) ∧ Below w.heap.size w w' := by
  obtain ⟨L, hL⟩ : ∃ L, L = mergeL xs ys := ⟨_, rfl⟩
  obtain ⟨F, hF⟩ : ∃ F, F = mergeB xs ys := ⟨_, rfl⟩
  have hLl : L.length ≤ 20 := by rw [hL]; exact mergeL_len xs ys
  have hsp : ∀ X Y W, Recs W X xs → Recs W Y ys → NilOk X → AllFit xs → AllFit ys → Calls Try.prog 15 #[X, Y] W fun e w' => ∃ v, e = .returned (.tuple #[v, .bool F]) ∧ w'.ownsRow W.heap.size 31 5 v L.length (L.flatMap Rc.cells) ∧ Below W.heap.size W w' := by
    intro X Y W h1 h2 h3 h4 h5
    rw [hL, hF]
    exact specMergeBooks_any X Y xs ys W h1 h2 h3 h4 h5
  have him : ∀ X Y W, Recs W X xs → Recs W Y ys → NilOk X → AllFit xs → AllFit ys → Calls Try.prog 16 #[X, Y] W fun e w' => ∃ v, e = .returned (.tuple #[v, .bool F]) ∧ w'.ownsRow W.heap.size 31 5 v L.length (L.flatMap Rc.cells) ∧ Below W.heap.size W w' := by
    intro X Y W h1 h2 h3 h4 h5
    rw [hL, hF]
    exact implMergeBooks_any X Y xs ys W h1 h2 h3 h4 h5
  have Hsp := Lib.hid hsp
  have Him := Lib.hid him
  have HV := Lib.hid hV.1
  have HU := Lib.hid hU.1
  have HfV := Lib.hid hV.2
  have HfU := Lib.hid hU.2
  clear hL hF hsp him hV hU
  go_enter Try.func4, Try.ntmps4
  go_wp2_with fail
  refine (szRecordS_any V xs _ _ HV.out HfV.out (by omega) (by omega)).mono ?_; rintro e w1 ⟨z, rfl, hz0, hz1, hzl, hb1⟩
  have Hzl := Lib.hid hzl
  clear hzl
  by_cases hneg : z < 0
  · go_wp2_with fail
    go_ret
    exact ⟨rfl, hb1⟩
  · have hpos : 0 ≤ z := by omega
    have SV := Lib.hid (Hzl.out hpos)
    have hxl : xs.length ≤ 1048576 := SV.out.1
    go_wp2_with fail
    refine (szRecordS_any U ys _ _ (HU.out.to hb1) HfU.out hpos hz1).mono ?_; rintro e w2 ⟨z2, rfl, hz20, hz21, hzl2, hb2⟩
    have Hzl2 := Lib.hid hzl2
    have hB2 := bw_to hb1 hb2
    clear hzl2
    by_cases hneg2 : z2 < 0
    · go_wp2_with fail
      go_ret
      exact ⟨rfl, hB2⟩
    · have SU := Lib.hid (Hzl2.out (by omega))
      have hyl : ys.length ≤ 1048576 := SU.out.1
      clear hb1 hb2
      go_wp2_with fail
      refine (toRecordS_any V xs _ (HV.out.to hB2) hxl).mono ?_; rintro e a1 ⟨rA, rfl, oA, hba⟩
      have hBa := bw_to hB2 hba
      go_wp2_with fail
      refine (toRecordS_any U ys _ (HU.out.to hBa) hyl).mono ?_; rintro e a2 ⟨rB, rfl, oB, hbb⟩
      have hBb := bw_to hBa hbb
      go_wp2_with fail
      refine (Hsp.out rA rB _ ((recs_of_own oA).to hbb) (recs_of_own oB) (nilok_own oA) SV.out.fit SU.out.fit).mono ?_; rintro e w3 ⟨v3, rfl, p3, hb3⟩
      have hB3 := bw_to hBb hb3
      have P3 := Lib.hid p3
      clear oA oB hba hbb hBa hBb hb3 p3 hB2
      go_wp2_with fail
      refine (toRecordS_any V xs _ (HV.out.to hB3) hxl).mono ?_; rintro e w4 ⟨rX, rfl, oX, hb4⟩
      have hB4 := bw_to hB3 hb4
      have X4 := Lib.hid oX
      have P4 := Lib.hid (own_to P3.out hb4)
      have A1' := Lib.hid (own_apart' P3.out X4.out (Nat.le_refl _))
      clear oX hb4
      go_wp2_with fail
      refine (toRecordS_any U ys _ (HU.out.to hB4) hyl).mono ?_; rintro e w5 ⟨rY, rfl, oY, hb5⟩
      have hB5 := bw_to hB4 hb5
      have Y5 := Lib.hid oY
      have X5 := Lib.hid (own_to X4.out hb5)
      have P5 := Lib.hid (own_to P4.out hb5)
      have A4' := Lib.hid (own_apart' P4.out Y5.out (Nat.le_refl _))
      have AXY := Lib.hid (own_apart X4.out Y5.out (Nat.le_refl _))
      clear oY hb5
      go_wp2_with fail
      refine (Him.out rX rY _ (recs_of_own X5.out) (recs_of_own Y5.out) (nilok_own X5.out) SV.out.fit SU.out.fit).mono ?_; rintro e w6 ⟨rg, rfl, g6, hb6⟩
      have hB6 := bw_to hB5 hb6
      have X6 := Lib.hid (own_to X5.out hb6)
      have Y6 := Lib.hid (own_to Y5.out hb6)
      have P6 := Lib.hid (own_to P5.out hb6)
      have G6 := Lib.hid g6
      have A2' := Lib.hid (own_apart' P5.out G6.out (Nat.le_refl _))
      have A3 := Lib.hid (own_apart X5.out G6.out (Nat.le_refl _))
      have A5 := Lib.hid (own_apart Y5.out G6.out (Nat.le_refl _))
      clear hb6 g6
      have HB3 := Lib.hid hB3.size
      have HB4 := Lib.hid hB4.size
      have HB5 := Lib.hid hB5.size
      clear hB3 hB4 hB5
      go_wp2_with fail
      refine (eqRecordS_same _ _ L _ (recs_of_own G6.out) (recs_of_own P6.out)).mono ?_; rintro e w7 ⟨rfl, hb7⟩
      have hB7 := bw_to hB6 hb7
      go_wp2_with fail
      refine (toRecordS_any V xs _ (HV.out.to hB7) hxl).mono ?_; rintro e w8 ⟨rZ, rfl, oZ, hb8⟩
      have hB8 := bw_to hB7 hb8
      have h68 := bw_to hb7 hb8
      go_wp2_with fail
      refine (eqRecordS_same _ _ xs _ (recs_of_own (own_to X6.out h68)) (recs_of_own oZ)).mono ?_; rintro e w9 ⟨rfl, hb9⟩
      have hB9 := bw_to hB8 hb9
      have h69 := bw_to h68 hb9
      clear oZ hb7 hb8 h68 hb9 hB7 hB8 hB6
      go_wp2_with fail
      refine (toRecordS_any U ys _ (HU.out.to hB9) hyl).mono ?_; rintro e wa ⟨rZ, rfl, oZ, hba⟩
      have hBa := bw_to hB9 hba
      have h6a := bw_to h69 hba
      go_wp2_with fail
      refine (eqRecordS_same _ _ ys _ (recs_of_own (own_to Y6.out h6a)) (recs_of_own oZ)).mono ?_; rintro e wb ⟨rfl, hbb⟩
      have hBb := bw_to hBa hbb
      have h6b := bw_to h6a hbb
      have X9 := Lib.hid (own_to X6.out h6b)
      have Y9 := Lib.hid (own_to Y6.out h6b)
      have P9 := Lib.hid (own_to P6.out h6b)
      have G9 := Lib.hid (own_to G6.out h6b)
      clear oZ hba hbb h69 h6a h6b hB9 hBa
      go_wp2_with fail
      refine (markRecordS_any _ xs.length 1 _ _ _ X9.out hxl (by omega)).mono ?_; rintro e w10 ⟨rfl, x10, hg10⟩
      have hB10 := bw_row hBb X4.out HB3.out hg10
      have P10 := Lib.hid (P9.out.kept hg10 A1'.out)
      have G10 := Lib.hid (G9.out.kept hg10 A3.out)
      have Y10 := Lib.hid (Y9.out.kept hg10 AXY.out)
      clear x10 hg10 hBb
      go_wp2_with fail
      refine (markRecordS_any _ ys.length (1 + 5 * xs.length) _ _ _ Y10.out hyl (by omega)).mono ?_; rintro e w10b ⟨rfl, y10, hg10⟩
      have hB10b := bw_row hB10 Y5.out HB4.out hg10
      have P10b := Lib.hid (P10.out.kept hg10 A4'.out)
      have G10b := Lib.hid (G10.out.kept hg10 A5.out)
      clear y10 hg10 hB10
      go_wp2_with fail
      refine (eqRecordS_same _ _ L _ (recs_of_own G10b.out) (recs_of_own P10b.out)).mono ?_; rintro e w11 ⟨rfl, hb11⟩
      have hB11 := bw_to hB10b hb11
      have P11 := Lib.hid (own_to P10b.out hb11)
      have G11 := Lib.hid (own_to G10b.out hb11)
      clear hb11 hB10b
      go_wp2_with fail
      refine (markRecordS_any _ L.length 1 _ _ _ G11.out (by omega) (by omega)).mono ?_; rintro e w12 ⟨rfl, g12, hg12⟩
      have hB12 := bw_row hB11 G6.out HB5.out hg12
      have P12 := Lib.hid (P11.out.kept hg12 A2'.out)
      have g12' : Recs w12 rg (marksR 1 L.length) := recs_of_own (by rw [marksR_length]; exact g12)
      have G12 := Lib.hid g12'
      clear g12 g12' hg12 hB11
      go_wp2_with fail
      refine (heldRecordS_any _ L.length 1 _ G12.out (by omega) (by omega)).mono ?_; rintro e w13 ⟨rfl, hb13⟩
      have hB13 := bw_to hB12 hb13
      have P13 := Lib.hid (own_to P12.out hb13)
      have G13 := Lib.hid (G12.out.to hb13)
      clear hb13 hB12
      go_wp2_with fail
      refine (toRecordS_any V xs _ (HV.out.to hB13) hxl).mono ?_; rintro e a1 ⟨rA, rfl, oA, hba⟩
      have hBa := bw_to hB13 hba
      go_wp2_with fail
      refine (toRecordS_any U ys _ (HU.out.to hBa) hyl).mono ?_; rintro e a2 ⟨rB, rfl, oB, hbb⟩
      have hBb := bw_to hBa hbb
      go_wp2_with fail
      refine (Him.out rA rB _ ((recs_of_own oA).to hbb) (recs_of_own oB) (nilok_own oA) SV.out.fit SU.out.fit).mono ?_; rintro e w14 ⟨rh, rfl, h14, hb14⟩
      have hB14 := bw_to (bw_to hba hbb) hb14
      have H14 := Lib.hid h14
      clear oA oB hba hbb hBa hBb h14 hb14
      go_wp2_with fail
      refine (eqRecordS_same _ _ L _ (recs_of_own H14.out) (recs_of_own (own_to P13.out hB14))).mono ?_; rintro e w15 ⟨rfl, hb15⟩
      go_wp2_with fail
      refine (heldRecordS_any _ L.length 1 _ (G13.out.to (bw_to hB14 hb15)) (by omega) (by omega)).mono ?_; rintro e w16 ⟨rfl, hb16⟩
      go_wp2_with fail
      go_ret
      exact ⟨rfl, bw_to hB13 (bw_to (bw_to hB14 hb15) hb16)⟩
end Go.Proofs.Ytamneiffhohleaa

/- The law AddRecord, walked. -/
import Derived.Test.YtamneiffhohleaaW3
import Derived.Test.YtamneiffhohleaaW4
namespace Go.Proofs.Ytamneiffhohleaa
open Go Go.RowKit
set_option linter.unusedVariables false
set_option linter.unusedSimpArgs false

theorem RcsSmall.fit {xs : List Rc} (h : RcsSmall xs) : AllFit xs := fun x hx => (h.2 x hx).fit
theorem toRecord_agg (x : Rc) (w : World) : Calls Try.prog 10 #[.agg #[.int .i64 x.day, .string x.meth, .string x.touch, .int .i64 x.rows, .string x.note]] w fun e w' => e = .returned (.agg #[.int .i64 x.day, .string x.meth, .string x.touch, .int .i64 x.rows, .string x.note]) ∧ Below w.heap.size w w' := toRecord_any x w
theorem szRecord_agg (x : Rc) (k : Int) (w : World) (hs : RcFit x) (h0 : 0 ≤ k) (h1 : k ≤ 1048576) : Calls Try.prog 7 #[.agg #[.int .i64 x.day, .string x.meth, .string x.touch, .int .i64 x.rows, .string x.note], .int .i64 k] w fun e w' =>
    ∃ r : Int, e = .returned (.int .i64 r) ∧ -1 ≤ r ∧ r ≤ 1048576 ∧ (0 ≤ r → RcSmall x) ∧ Below w.heap.size w w' := szRecord_any x k w hs h0 h1
set_option maxRecDepth 100000 in
set_option maxHeartbeats 4000000 in
theorem lawAddRecord_any (V : Value) (xs : List Rc) (r : Rc) (w : World) (hV : Recs w V xs ∧ ∀ x ∈ xs, RcFit x) (hr : RcFit r) : Calls Try.prog 3 #[V, r.v] w fun e w' => e = .returned (.bool true) ∧ Below w.heap.size w w' := by
  obtain ⟨L, hL⟩ : ∃ L, L = addLx xs r := ⟨_, rfl⟩
  obtain ⟨F, hF⟩ : ∃ F, F = addFx xs r := ⟨_, rfl⟩
  obtain ⟨O, hO⟩ : ∃ O, O = addOx xs r := ⟨_, rfl⟩
  have hLl : L.length ≤ 20 := by rw [hL]; exact addLx_len xs r
  have hsp : ∀ X W, Recs W X xs → NilOk X → AllFit xs → Calls Try.prog 8 #[X, .agg #[.int .i64 r.day, .string r.meth, .string r.touch, .int .i64 r.rows, .string r.note]] W fun e w' => ∃ v, e = .returned (.tuple #[v, .bool F, .bool O]) ∧ w'.ownsRow W.heap.size 31 5 v L.length (L.flatMap Rc.cells) ∧ Below W.heap.size W w' := by
    intro X W h1 h2 h3
    rw [hL, hF, hO]
    exact specAddRecord_any X xs r W h1 h2 h3 hr
  have him : ∀ X W, Recs W X xs → NilOk X → AllFit xs → Calls Try.prog 11 #[X, .agg #[.int .i64 r.day, .string r.meth, .string r.touch, .int .i64 r.rows, .string r.note]] W fun e w' => ∃ v, e = .returned (.tuple #[v, .bool F, .bool O]) ∧ w'.ownsRow W.heap.size 31 5 v L.length (L.flatMap Rc.cells) ∧ Below W.heap.size W w' := by
    intro X W h1 h2 h3
    rw [hL, hF, hO]
    exact implAddRecord_any X xs r W h1 h2 h3 hr
  have Hsp := Lib.hid hsp
  have Him := Lib.hid him
  have HV := Lib.hid hV.1
  have Hfit := Lib.hid hV.2
  have Hr := Lib.hid hr
  clear hL hF hO hsp him hV hr
  unfold Rc.v
  go_enter Try.func3, Try.ntmps3
  go_wp2_with fail
  refine box1 (C := fun W => Calls _ _ _ W _) ?_
  intro wb hw k1 hB0
  have R1 := boxRule k1
  clear k1
  refine (szRecordS_any V xs _ _ (HV.out.to hw) Hfit.out (by omega) (by omega)).mono ?_; rintro e w1 ⟨z, rfl, hz0, hz1, hzl, hb1⟩
  have Hzl := Lib.hid hzl
  clear hzl
  by_cases hneg : z < 0
  · go_wp2_with fail
    go_ret
    exact ⟨rfl, bw_to hw hb1⟩
  · have hpos : 0 ≤ z := by omega
    have SV := Lib.hid (Hzl.out hpos)
    have hxl : xs.length ≤ 1048576 := SV.out.1
    have HR1 := Lib.hid R1
    have R10 := fun o => HR1.out w1 o hb1
    clear R1
    go_wp2_with fail
    refine (szRecord_agg r _ _ Hr.out hpos hz1).mono ?_; rintro e w2 ⟨z2, rfl, hz20, hz21, hzl2, hb2⟩
    have hB2 := bw_to hb1 hb2
    clear hzl2
    by_cases hneg2 : z2 < 0
    · go_wp2_with fail
      go_ret
      exact ⟨rfl, bw_to hw hB2⟩
    · have R12 := fun w' o (hb : Below wb.heap.size wb w') => HR1.out w' o hb
      clear R10 hb1 hb2
      go_wp2_with fail
      go_region_held3 (fun w' => Below wb.heap.size wb w') (first | exact Below.drew (by assumption) | exact bw_to (by assumption) hb')
        (first | (go_at_call 8; refine (Hsp.out _ _ ((recs_of_own oV).to hb2) (nilok_own oV) SV.out.fit).mono ?_; rintro e w3 ⟨v3, rfl, p3, hb'⟩) | (go_at_call 10; refine (toRecord_agg r _).mono ?_; rintro e wc ⟨rfl, hb'⟩; (have hb2 := hb')) | (go_at_call 9; refine (toRecordS_any V xs _ (HV.out.to (bw_to hw (by assumption))) hxl).mono ?_; rintro e wa ⟨rV, rfl, oV, hb'⟩))
      have hB3 : Below wb.heap.size wb w3 := by assumption
      have P3 := Lib.hid p3
      clear oV hb2 hb' p3 R12
      go_wp2_with fail
      refine (toRecordS_any V xs _ (HV.out.to (bw_to hw hB3)) hxl).mono ?_; rintro e w4 ⟨rX, rfl, oX, hb4⟩
      have hB4 := bw_to hB3 hb4
      have X4 := Lib.hid oX
      have P4 := Lib.hid (own_to P3.out hb4)
      have A1 := Lib.hid (own_apart P3.out X4.out (Nat.le_refl _))
      have A1' := Lib.hid (own_apart' P3.out X4.out (Nat.le_refl _))
      have R4 := fun o => HR1.out w4 o hB4
      clear oX hb4
      go_wp2_with fail
      refine (toRecord_agg r _).mono ?_; rintro e w5 ⟨rfl, hb5⟩
      have hB5 := bw_to hB4 hb5
      have X5 := Lib.hid (own_to X4.out hb5)
      have P5 := Lib.hid (own_to P4.out hb5)
      clear hb5 R4
      go_wp2_with fail
      refine (Him.out rX _ (recs_of_own X5.out) (nilok_own X5.out) SV.out.fit).mono ?_; rintro e w6 ⟨rg, rfl, g6, hb6⟩
      have hB6 := bw_to hB5 hb6
      have X6 := Lib.hid (own_to X5.out hb6)
      have P6 := Lib.hid (own_to P5.out hb6)
      have G6 := Lib.hid g6
      have A2 := Lib.hid (own_apart P5.out G6.out (Nat.le_refl _))
      have A2' := Lib.hid (own_apart' P5.out G6.out (Nat.le_refl _))
      have A3 := Lib.hid (own_apart X5.out G6.out (Nat.le_refl _))
      clear hb6 g6
      have HB3 := Lib.hid hB3.size
      have HB5 := Lib.hid hB5.size
      clear hB3 hB4 hB5
      go_wp2_with fail
      refine (eqRecordS_same _ _ L _ (recs_of_own G6.out) (recs_of_own P6.out)).mono ?_; rintro e w7 ⟨rfl, hb7⟩
      have hB7 := bw_to hB6 hb7
      go_wp2_with fail
      refine (toRecordS_any V xs _ (HV.out.to (bw_to hw hB7)) hxl).mono ?_; rintro e w8 ⟨rY, rfl, oY, hb8⟩
      have hB8 := bw_to hB7 hb8
      have h68 := bw_to hb7 hb8
      go_wp2_with fail
      refine (eqRecordS_same _ _ xs _ (recs_of_own (own_to X6.out h68)) (recs_of_own oY)).mono ?_; rintro e w9 ⟨rfl, hb9⟩
      have hB9 := bw_to hB8 hb9
      have h69 := bw_to h68 hb9
      have X9 := Lib.hid (own_to X6.out h69)
      have P9 := Lib.hid (own_to P6.out h69)
      have G9 := Lib.hid (own_to G6.out h69)
      clear hb7 hb8 hb9 h68 h69 oY hB7 hB8 hB6
      go_wp2_with fail
      refine (markRecordS_any _ xs.length 1 _ _ _ X9.out hxl (by omega)).mono ?_; rintro e w10 ⟨rfl, x10, hg10⟩
      have hB10 := bw_row hB9 X4.out HB3.out hg10
      have P10 := Lib.hid (P9.out.kept hg10 A1'.out)
      have G10 := Lib.hid (G9.out.kept hg10 A3.out)
      clear x10 hg10 hB9
      go_wp2_with fail
      refine (eqRecordS_same _ _ L _ (recs_of_own G10.out) (recs_of_own P10.out)).mono ?_; rintro e w11 ⟨rfl, hb11⟩
      have hB11 := bw_to hB10 hb11
      have P11 := Lib.hid (own_to P10.out hb11)
      have G11 := Lib.hid (own_to G10.out hb11)
      clear hb11 hB10
      go_wp2_with fail
      refine (markRecordS_any _ L.length 1 _ _ _ G11.out (by omega) (by omega)).mono ?_; rintro e w12 ⟨rfl, g12, hg12⟩
      have hB12 := bw_row hB11 G6.out HB5.out hg12
      have P12 := Lib.hid (P11.out.kept hg12 A2'.out)
      have g12' : Recs w12 rg (marksR 1 L.length) := recs_of_own (by rw [marksR_length]; exact g12)
      have G12 := Lib.hid g12'
      clear g12 g12' hg12 hB11
      go_wp2_with fail
      refine (heldRecordS_any _ L.length 1 _ G12.out (by omega) (by omega)).mono ?_; rintro e w13 ⟨rfl, hb13⟩
      have hB13 := bw_to hB12 hb13
      have P13 := Lib.hid (own_to P12.out hb13)
      have G13 := Lib.hid (G12.out.to hb13)
      have HB13 := Lib.hid hB13
      have R12 := fun w' o (hb : Below w13.heap.size w13 w') => HR1.out w' o (bw_to HB13.out hb)
      have hst := Below.refl w13.heap.size w13
      clear hb13 hB12 hB13
      go_wp2_with fail
      go_region_held3 (fun w' => Below w13.heap.size w13 w') (first | exact Below.drew (by assumption) | exact bw_to (by assumption) hb')
        (first | (go_at_call 11; refine (Him.out _ _ ((recs_of_own oV).to hb2) (nilok_own oV) SV.out.fit).mono ?_; rintro e w14 ⟨rh, rfl, h14, hb'⟩) | (go_at_call 10; refine (toRecord_agg r _).mono ?_; rintro e wc ⟨rfl, hb'⟩; (have hb2 := hb')) | (go_at_call 9; refine (toRecordS_any V xs _ (HV.out.to (bw_to hw (bw_to HB13.out (by assumption)))) hxl).mono ?_; rintro e wa ⟨rV, rfl, oV, hb'⟩))
      have hB14 : Below w13.heap.size w13 w14 := by assumption
      have H14 := Lib.hid h14
      clear oV hb2 hb' h14 R12 hst
      go_wp2_with fail
      refine (eqRecordS_same _ _ L _ (recs_of_own H14.out) (recs_of_own (own_to P13.out hB14))).mono ?_; rintro e w15 ⟨rfl, hb15⟩
      go_wp2_with fail
      refine (heldRecordS_any _ L.length 1 _ (G13.out.to (bw_to hB14 hb15)) (by omega) (by omega)).mono ?_; rintro e w16 ⟨rfl, hb16⟩
      go_wp2_with fail
      go_ret
      exact ⟨rfl, bw_to hw (bw_to HB13.out (bw_to (bw_to hB14 hb15) hb16))⟩
end Go.Proofs.Ytamneiffhohleaa

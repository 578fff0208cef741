/- The law SetOf. -/
import Derived.Test.YthgadnhkbmimiaaPk37
import Derived.Test.YthgadnhkbmimiaaPk38
namespace Go.Proofs.Ythgadnhkbmimiaa
open Go Go.RowKit
set_option linter.unusedVariables false
set_option linter.unusedSimpArgs false

theorem toMethod_agO (m : Mt) (v : Value) (w : World) (h1 : MethAt w m v) (hs : MtSmall m) : Calls Try.prog 11 #[.agg #[.string m.name, .int .i64 m.stage, v]] w fun e w' => ∃ A c, e = .returned (.agg #[.string m.name, .int .i64 m.stage, .slice A m.l.length c]) ∧ w'.ownsRow w.heap.size 9 1 (.slice A m.l.length c) m.l.length (m.l.map Value.string) ∧ MethAt w' m (.slice A m.l.length c) ∧ Below w.heap.size w w' := by
  refine (toMethod_any m v w h1 hs).mono fun e w' ⟨r, e1, h3, h4⟩ => ?_
  obtain ⟨A, c, hr, _⟩ := sl_of_own h3
  subst hr
  exact ⟨A, c, e1, h3, ⟨strs_of_own h3, h1.2⟩, h4⟩
theorem set_both (m : Mt) (k : Cl) (r : ByteArray) (hs : MtSmall m) (hk : ClSmall k) : ∃ (L : List ByteArray) (b : Bool), L.length ≤ 16777216 ∧ (∀ v W, MethAt W m v → Calls Try.prog 16 #[m.v v, k.v, .string r] W fun e w' => ∃ A q, e = .returned (.tuple #[.slice A L.length q, .bool b]) ∧ w'.ownsRow W.heap.size 9 1 (.slice A L.length q) L.length (L.map Value.string) ∧ Below W.heap.size W w') ∧ (∀ v W, MethAt W m v → Calls Try.prog 15 #[m.v v, k.v, .string r] W fun e w' => ∃ A q, e = .returned (.tuple #[.slice A L.length q, .bool b]) ∧ w'.ownsRow W.heap.size 9 1 (.slice A L.length q) L.length (L.map Value.string) ∧ Below W.heap.size W w') := by
  rcases blk_cases m k with hb | ⟨n, T, P, B, B', Q, hK, hF⟩
  · exact ⟨[], false, by simp, fun v W h => implSetOf_no m v k r W hb h hs hk, fun v W h => specSetOf_no m v k r W hb h hs hk⟩
  · obtain ⟨K, hKb, hO⟩ := ord_ex hK.hn hK.invQ
    refine ⟨_, _, ?_, fun v W h => implSetOf_yes m v k n T K P B B' Q r W hK hF hO hKb h hs hk, fun v W h => specSetOf_yes m v k n T K P B B' Q r W hK hF hO hKb h hs hk⟩
    unfold setO
    split
    · rw [sortB_len, setB_len]; exact hKb
    · simp
set_option maxRecDepth 100000 in
set_option maxHeartbeats 4000000 in
theorem lawSetOf_any (m : Mt) (v : Value) (k : Cl) (r0 : ByteArray) (w : World) (hm : MethAt w m v) (hk : ClFit k) (hr : r0.size ≤ maxLen) : Calls Try.prog 4 #[m.v v, k.v, .string r0] w fun e w' => e = .returned (.bool true) ∧ Below w.heap.size w w' := by
  have Hm := Lib.hid hm
  have Hk := Lib.hid hk
  obtain ⟨A, c, hv⟩ := hm.form
  subst hv
  unfold maxLen at hr
  clear hm hk
  unfold Mt.v Cl.v
  by_cases hbig : 1048576 < r0.size
  · have hbz : (1048576 : Int) < r0.size := by omega
    go_enter Try.func4, Try.ntmps4
    go_wp2_with fail
    go_ret
    exact ⟨rfl, bw_al (bw_al (Below.refl _ _) _) _⟩
  have ht2 : r0.size ≤ 1048576 := by omega
  have hbz : (r0.size : Int) ≤ 1048576 := by omega
  go_enter Try.func4, Try.ntmps4
  go_wp2_with fail
  refine box2 (C := fun W => Calls _ _ _ W _) ?_
  intro wb hw k1 k2 hB0
  have R1 := boxRule k1
  have R2 := boxRule k2
  clear k1 k2
  have Hz1 := Lib.hid (fun W hW => szMethod_any m (.slice A m.l.length c) 1048576 W (Hm.out.to (bw_to hw hW)) (by omega) (by omega))
  have Hz2 := Lib.hid (fun k0 W => szCalls_any k k0 W Hk.out)
  unfold Mt.v Cl.v at *
  refine (Hz1.out _ hB0).mono ?_; rintro e w1 ⟨r, rfl, hr0, hr1, hrl, hb1⟩
  have Hrl := Lib.hid hrl
  clear hrl
  by_cases hneg : r < 0
  · go_wp2_with fail
    go_ret
    exact ⟨rfl, bw_to hw hb1⟩
  · have Sm := Lib.hid (Hrl.out (by omega))
    go_wp2_with fail
    refine (Hz2.out r _ (by omega) hr1).mono ?_; rintro e w2 ⟨r2, rfl, hr20, hr21, hrl2, hb2⟩
    have Hrl2 := Lib.hid hrl2
    have hB2 := bw_to hb1 hb2
    clear hrl2 hb1 hb2
    by_cases hneg2 : r2 < 0
    · go_wp2_with fail
      go_ret
      exact ⟨rfl, bw_to hw hB2⟩
    · have Sk := Lib.hid (Hrl2.out (by omega))
      have Hto := Lib.hid (fun W hW => toMethod_agO m (.slice A m.l.length c) W (Hm.out.to (bw_to hw hW)) Sm.out)
      have Htk := Lib.hid (fun W => toCalls_any k W)
      obtain ⟨L, b, hL, hi, hs⟩ := set_both m k r0 Sm.out Sk.out
      have Hi := Lib.hid hi
      have Hs := Lib.hid hs
      unfold Mt.v Cl.v at *
      clear hi hs
      have hdr : Below wb.heap.size wb w2.drew := hB2.drew
      go_upto_region 10 with fail
      go_cut [8, 9] (fun s8 s9 wx => ∃ Aa qa, s8 = .slice Aa L.length qa ∧ s9 = .bool b ∧ wx.ownsRow wb.heap.size 9 1 (.slice Aa L.length qa) L.length (L.map Value.string) ∧ Below wb.heap.size wb wx)
      case first =>
        go_region_held3 (fun W => Below wb.heap.size wb W) (first | with_reducible assumption | exact Below.drew (by assumption) | exact bw_to (by assumption) hb')
          (first | (go_at_call 15; refine (Hs.out _ _ ?_).mono ?_; (· first | exact tm | exact tm.to (by assumption)); rintro e w' ⟨Aa, qa, rfl, oa, hb'⟩; (have hBn := bw_to (by assumption : Below wb.heap.size wb _) hb'); (have oz := own_base (base' := wb.heap.size) oa (Below.size (by assumption : Below wb.heap.size wb _)))) | (go_at_call 12; refine (Htk.out _).mono ?_; rintro e w' ⟨rfl, hb'⟩; (have hBn := bw_to (by assumption : Below wb.heap.size wb _) hb'); (try (have tm := tm.to hb'))) | (go_at_call 11; refine (Hto.out _ (by assumption)).mono ?_; rintro e w' ⟨A1, c1, rfl, om, tm, hb'⟩; (have hBn := bw_to (by assumption : Below wb.heap.size wb _) hb')))
        all_goals
          have hBB : Below wb.heap.size wb w' := by assumption
          go_wp2_with fail
          go_meet
          exact ⟨Aa, qa, rfl, rfl, oz, hBB⟩
      obtain ⟨Ap, qp, rfl, rfl, hp, hB3⟩ := hcut
      obtain ⟨w3, rfl⟩ : ∃ w3, w3 = wc := ⟨_, rfl⟩
      have HP3 := Lib.hid hp
      have Hz3 := Lib.hid hB3.size
      clear hp hB2 hdr
      go_wp2_with fail
      refine (Hto.out _ hB3).mono ?_; rintro e w4 ⟨Aq, cq, rfl, q4, tm, hb4⟩
      have HQ4 := Lib.hid q4
      have HP4 := Lib.hid (own_to HP3.out hb4)
      have HB4 := Lib.hid (bw_to hB3 hb4)
      have hz34 := Lib.hid hb4.size
      go_upto_region 12 with fail
      refine box1 (C := fun W => Code.wp _ _ _ _ W) ?_
      intro w5 hw5 k5 hB05
      have X5 := Lib.hid (own_to (xbox_of (m := m) k5) (Below.refl _ _))
      have hB5 := bw_to HB4.out hw5
      have TM := Lib.hid (tm.to hw5)
      have HQ5 := Lib.hid (own_to HQ4.out hw5)
      have HP5 := Lib.hid (own_to HP4.out hw5)
      have RB := boxRule k5
      have R15 := fun W i hb => R1 W i (bw_to hB5 hb)
      have R25 := fun W i hb => R2 W i (bw_to hB5 hb)
      have HB5 := Lib.hid hB5
      have Hz5 := Lib.hid (show w4.heap.size < w5.heap.size by have := blk_lt k5; exact this)
      have hdr5 : Below w5.heap.size w5 w5.drew := Below.drew (Below.refl _ _)
      have HR1 := Lib.hid R1
      have HR2 := Lib.hid R2
      clear tm hb4 hw5 k5 R1 R2 hB3 hB0 q4 hB5
      go_upto_region 12 with fail
      go_cut [11, 12] (fun s11 s12 wx => ∃ Aa qa, s11 = .slice Aa L.length qa ∧ s12 = .bool b ∧ wx.ownsRow w5.heap.size 9 1 (.slice Aa L.length qa) L.length (L.map Value.string) ∧ Below w5.heap.size w5 wx)
      case first =>
        go_region_held3 (fun W => Below w5.heap.size w5 W) (first | with_reducible assumption | exact Below.drew (by assumption) | exact bw_to (by assumption) hb')
          (first | (go_at_call 16; refine (Hi.out _ _ ?_).mono ?_; (· exact TM.out.to (by assumption)); rintro e w' ⟨Aa, qa, rfl, oa, hb'⟩; (have hBn := bw_to (by assumption : Below w5.heap.size w5 _) hb'); (have oz := own_base (base' := w5.heap.size) oa (Below.size (by assumption : Below w5.heap.size w5 _)))) | (go_at_call 12; refine (Htk.out _).mono ?_; rintro e w' ⟨rfl, hb'⟩; (have hBn := bw_to (by assumption : Below w5.heap.size w5 _) hb')))
        all_goals
          have hBB : Below w5.heap.size w5 w' := by assumption
          go_wp2_with fail
          go_meet
          exact ⟨Aa, qa, rfl, rfl, oz, hBB⟩
      obtain ⟨Ag, qg, rfl, rfl, hg, hB6⟩ := hcut
      obtain ⟨w6, rfl⟩ : ∃ w6, w6 = wc := ⟨_, rfl⟩
      have HG6 := Lib.hid hg
      have HP6 := Lib.hid (own_to HP5.out hB6)
      have HQ6 := Lib.hid (own_to HQ5.out hB6)
      have X6 := Lib.hid (xbox_to X5.out hB6)
      have HB6 := Lib.hid (bw_to HB5.out hB6)
      clear hg hB6 hdr5 RB R15 R25
      go_wp2_with fail
      refine (eqStringS_same _ _ L _ (strs_ownX HG6.out) (strs_ownX HP6.out)).mono ?_; rintro e w7 ⟨rfl, hb7⟩
      have RB7 := fun W (hb : Below w7.heap.size w7 W) => xbox_c (xbox_to (xbox_to X6.out hb7) hb)
      have R17 := fun W i (hb : Below w7.heap.size w7 W) => HR1.out W i (bw_to (bw_to HB6.out hb7) hb)
      have HB7 := Lib.hid (bw_to HB6.out hb7)
      have HQ7 := Lib.hid (own_to HQ6.out hb7)
      have hst := Below.refl w7.heap.size w7
      have hd7 : Below w7.heap.size w7 w7.drew := Below.drew (Below.refl _ _)
      go_upto_region 15 with fail
      go_region_held3 (fun W => Below w7.heap.size w7 W) (first | with_reducible assumption | exact Below.drew (by assumption) | exact bw_to (by assumption) hb')
        (first | (go_at_call 14; refine (eqMethod_same m _ _ _ (Strs.to (strs_ownX HQ7.out) (by assumption)) tm.1).mono ?_; rintro e w8 ⟨rfl, hb'⟩) | (go_at_call 11; refine (Hto.out _ (bw_to HB7.out (by assumption))).mono ?_; rintro e w' ⟨A1, c1, rfl, om, tm, hb'⟩))
      all_goals
        have hBB : Below w7.heap.size w7 w8 := by assumption
        have hQ8 := own_to HQ7.out hBB
        have HG8 := Lib.hid (own_to (own_to HG6.out hb7) hBB)
        have HP8 := Lib.hid (own_to (own_to HP6.out hb7) hBB)
        have HB8 := Lib.hid (bw_to HB7.out hBB)
        clear hd7 hst R17
        go_wp2_with fail
        refine (markMethod_any m _ m.l.length 1 _ _ _ hQ8 (by have := Sm.out.2.1; omega) (by omega)).mono ?_; rintro e w12 ⟨k12, rfl, hk12, q12, hg12⟩
        have hk0 : ¬ k12 < 0 := by omega
        have HP12 := Lib.hid (HP8.out.kept hg12 (own_apart' HP3.out HQ4.out (Nat.le_refl _)))
        have HG12 := Lib.hid (HG8.out.kept hg12 (own_apart HQ5.out HG6.out (Nat.le_refl _)))
        have HB12 := Lib.hid (bw_row HB8.out HQ4.out Hz3.out hg12)
        clear hg12 q12 hQ8 hBB hb' RB7 hk12
        go_wp2_with fail
        refine (eqStringS_same _ _ L _ (strs_ownX HG12.out) (strs_ownX HP12.out)).mono ?_; rintro e w13 ⟨rfl, hb13⟩
        go_wp2_with fail
        refine (markStringS_any _ L.length 1 _ _ _ (own_to HG12.out hb13) (by omega) (by omega)).mono ?_; rintro e w14 ⟨rfl, g14, hg14⟩
        have HP14 := Lib.hid ((own_to HP12.out hb13).kept hg14 (own_apart' HP5.out HG6.out (Nat.le_refl _)))
        have HG14 := Lib.hid g14
        have HB14 := Lib.hid (bw_row (bw_to HB12.out hb13) HG6.out HB5.out.size hg14)
        clear hg14 g14 hb13
        go_wp2_with fail
        refine (heldStringS_any _ L.length 1 _ (strs_ownX HG14.out) (by omega) (by omega)).mono ?_; rintro e w15 ⟨rfl, hb15⟩
        have HB15 := Lib.hid (bw_to HB14.out hb15)
        have HP15 := Lib.hid (own_to HP14.out hb15)
        have HG15 := Lib.hid (own_to HG14.out hb15)
        have R16 := fun W i (hb : Below w15.heap.size w15 W) => HR1.out W i (bw_to HB15.out hb)
        have R26 := fun W i (hb : Below w15.heap.size w15 W) => HR2.out W i (bw_to HB15.out hb)
        have hst : Below w15.heap.size w15 w15 := Below.refl _ _
        have hd15 : Below w15.heap.size w15 w15.drew := Below.drew (Below.refl _ _)
        clear hb15
        go_upto_region 29 with fail
        go_cut [16, 17] (fun s16 s17 wx => ∃ Aa qa, s16 = .slice Aa L.length qa ∧ s17 = .bool b ∧ wx.ownsRow w15.heap.size 9 1 (.slice Aa L.length qa) L.length (L.map Value.string) ∧ Below w15.heap.size w15 wx)
        case first =>
          go_region_held3 (fun W => Below w15.heap.size w15 W) (first | with_reducible assumption | exact Below.drew (by assumption) | exact bw_to (by assumption) hb')
            (first | (go_at_call 16; refine (Hi.out _ _ ?_).mono ?_; (· first | exact tm | exact tm.to (by assumption)); rintro e w' ⟨Aa, qa, rfl, oa, hb'⟩; (have hBn := bw_to (by assumption : Below w15.heap.size w15 _) hb'); (have oz := own_base (base' := w15.heap.size) oa (Below.size (by assumption : Below w15.heap.size w15 _)))) | (go_at_call 12; refine (Htk.out _).mono ?_; rintro e w' ⟨rfl, hb'⟩; (have hBn := bw_to (by assumption : Below w15.heap.size w15 _) hb'); (try (have tm := tm.to hb'))) | (go_at_call 11; refine (Hto.out _ (bw_to HB15.out (by assumption))).mono ?_; rintro e w' ⟨A1, c1, rfl, om, tm, hb'⟩; (have hBn := bw_to (by assumption : Below w15.heap.size w15 _) hb')))
          all_goals
            have hBB : Below w15.heap.size w15 w' := by assumption
            go_wp2_with fail
            go_meet
            exact ⟨Aa, qa, rfl, rfl, oz, hBB⟩
        obtain ⟨Ah, qh, rfl, rfl, hh, hB16⟩ := hcut
        have HH16 := Lib.hid hh
        have HP16 := Lib.hid (own_to HP15.out hB16)
        have HG16 := Lib.hid (own_to HG15.out hB16)
        have HB16 := Lib.hid (bw_to HB15.out hB16)
        clear hh hB16 hst hd15 R16 R26
        go_wp2_with fail
        refine (eqStringS_same _ _ L _ (strs_ownX HH16.out) (strs_ownX HP16.out)).mono ?_; rintro e w17 ⟨rfl, hb17⟩
        have HG17 := Lib.hid (own_to HG16.out hb17)
        have HB17 := Lib.hid (bw_to HB16.out hb17)
        clear hb17
        go_wp2_with fail
        refine (heldStringS_any _ L.length 1 _ (strs_ownX HG17.out) (by omega) (by omega)).mono ?_; rintro e w18 ⟨rfl, hb18⟩
        go_wp2_with fail
        go_ret
        exact ⟨rfl, bw_to hw (bw_to HB17.out hb18)⟩
end Go.Proofs.Ythgadnhkbmimiaa

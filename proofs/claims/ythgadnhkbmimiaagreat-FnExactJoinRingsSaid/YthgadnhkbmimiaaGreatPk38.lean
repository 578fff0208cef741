/- The law RingsIn. (Printed by a program: tools/mkLaw.py.) -/
import Derived.Test.YthgadnhkbmimiaaGreatPk37
namespace Go.Proofs.YthgadnhkbmimiaaGreat
open Go Go.RowKit
set_option linter.unusedVariables false
set_option linter.unusedSimpArgs false

/-- What RingsIn answers on both sides. -/
def BothRingsIn (m : Mt) (k : Cl) (bobs : List ByteArray) : Prop := ∃ (L : List (List ByteArray)) (b : Bool), FitSS L ∧ (∀ v Vb W, MethAt W m v → Strs W Vb bobs → NilOk Vb → Calls Tryz.prog 29 #[m.v v, k.v, Vb] W fun e w' => ∃ A q, e = .returned (.tuple #[.slice A L.length q, .bool b]) ∧ OwnSS w' W.heap.size (.slice A L.length q) L ∧ Below W.heap.size W w') ∧ (∀ v Vb W, MethAt W m v → Strs W Vb bobs → NilOk Vb → Calls Tryz.prog 28 #[m.v v, k.v, Vb] W fun e w' => ∃ A q, e = .returned (.tuple #[.slice A L.length q, .bool b]) ∧ OwnSS w' W.heap.size (.slice A L.length q) L ∧ Below W.heap.size W w')
set_option maxRecDepth 100000 in
set_option maxHeartbeats 8000000 in
theorem lawRingsIn_of (m : Mt) (v : Value) (k : Cl) (Vb : Value) (bobs : List ByteArray) (w : World) (hm : MethAt w m v) (hk : ClFit k) (hT : Strs w Vb bobs) (hTf : Fits bobs) (hboth : MtSmall m → ClSmall k → Small bobs → BothRingsIn m k bobs) : Calls Tryz.prog 6 #[m.v v, k.v, Vb] w fun e w' => e = .returned (.bool true) ∧ Below w.heap.size w w' := by
  have Hm := Lib.hid hm
  have Hk := Lib.hid hk
  have Hboth := Lib.hid hboth
  clear hboth
  have HT := Lib.hid hT
  have HTf := Lib.hid hTf
  obtain ⟨Ab, cb, rfl⟩ : ∃ A c, Vb = .slice A bobs.length c := by obtain ⟨A, c, e, _⟩ := hT; exact ⟨A, c, e⟩
  clear hT hTf
  obtain ⟨A, c, hv⟩ := hm.form
  subst hv
  clear hm hk
  unfold Mt.v Cl.v
  go_enter Tryz.func6, Tryz.ntmps6
  go_wp2_with fail
  refine box2 (C := fun W => Calls _ _ _ W _) ?_
  intro wb hw k1 k2 hB0
  have R1 := boxRule k1
  have R2 := boxRule k2
  clear k1 k2
  have Hz1 := Lib.hid (fun W hW => szMethod_any m (.slice A m.l.length c) 1048576 W (Hm.out.to (bw_to hw hW)) (by omega) (by omega))
  have Hz2 := Lib.hid (fun k0 W => szCalls_any k k0 W Hk.out)
  unfold Mt.v Cl.v at *
  refine (Hz1.out _ hB0).mono ?_; rintro e w1 ⟨r, rfl, hr0, hr1, hrl, hb1⟩
  have Hrl := Lib.hid hrl
  clear hrl
  by_cases hneg : r < 0
  · go_wp2_with fail
    go_ret
    exact ⟨rfl, bw_to hw hb1⟩
  have Sm := Lib.hid (Hrl.out (by omega))
  go_wp2_with fail
  refine (Hz2.out r _ (by omega) hr1).mono ?_; rintro e w2 ⟨r2, rfl, hr20, hr21, hrl2, hb2⟩
  have Hrl2 := Lib.hid hrl2
  have hB2 := bw_to hb1 hb2
  clear hrl2 hb1 hb2
  by_cases hneg2 : r2 < 0
  · go_wp2_with fail
    go_ret
    exact ⟨rfl, bw_to hw hB2⟩
  have Sk := Lib.hid (Hrl2.out (by omega))
  go_wp2_with fail
  have Hz3 := Lib.hid (fun k0 W hW => szStringS_any (.slice Ab bobs.length cb) bobs k0 W (HT.out.to (bw_to hw hW)) HTf.out)
  refine (Hz3.out r2 _ hB2 (by omega) hr21).mono ?_; rintro e w2b ⟨r3, rfl, hr30, hr31, hrl3, rfl⟩
  have Hrl3 := Lib.hid hrl3
  clear hrl3
  by_cases hneg3 : r3 < 0
  · go_wp2_with fail
    go_ret
    exact ⟨rfl, bw_to hw hB2⟩
  have St := Lib.hid (Hrl3.out (by omega))
  have Htt := Lib.hid (fun W hW => toStringS_any (.slice Ab bobs.length cb) bobs W (HT.out.to (bw_to hw hW)) St.out.1)
  have Hto := Lib.hid (fun W hW => toMethod_agP m (.slice A m.l.length c) W (Hm.out.to (bw_to hw hW)) Sm.out)
  have Htk := Lib.hid (fun W => toCalls_any k W)
  obtain ⟨L, b, hL, hi, hs⟩ := Hboth.out Sm.out Sk.out St.out
  have Hi := Lib.hid hi
  have Hs := Lib.hid hs
  have HL := Lib.hid hL
  unfold Mt.v Cl.v at *
  clear hi hs hL
  have hdr : Below wb.heap.size wb w2.drew := hB2.drew
  go_upto_region 11 with fail
  go_cut [8, 9] (fun s8 s9 wx => ∃ Aa qa, s8 = .slice Aa L.length qa ∧ s9 = .bool b ∧ OwnSS wx wb.heap.size (.slice Aa L.length qa) L ∧ Below wb.heap.size wb wx)
  case first =>
    go_region_held3 (fun W => Below wb.heap.size wb W) (first | with_reducible assumption | exact Below.drew (by assumption) | exact bw_to (by assumption) hb')
      (first | (go_at_call 28; refine (Hs.out _ _ _ ?_ ?_ ?_).mono ?_; (· first | exact tm | exact tm.to (by assumption)); (· exact OwnS.strs ts); (· exact OwnS.nilok ts); rintro e w' ⟨Aa, qa, rfl, oa, hb'⟩; (have hBn := bw_to (by assumption : Below wb.heap.size wb _) hb'); (have oz := OwnSS.base (b2 := wb.heap.size) oa (Below.size (by assumption : Below wb.heap.size wb _)))) | (go_at_call 12; refine (Htk.out _).mono ?_; rintro e w' ⟨rfl, hb'⟩; (have hBn := bw_to (by assumption : Below wb.heap.size wb _) hb'); (try (have tm := tm.to hb')); (try (have ts := OwnS.to ts hb'))) | (go_at_call 11; refine (Hto.out _ (by assumption)).mono ?_; rintro e w' ⟨A1, c1, rfl, om, tm, hb'⟩; (have hBn := bw_to (by assumption : Below wb.heap.size wb _) hb')) | (go_at_call 23; refine (Htt.out _ (by assumption)).mono ?_; rintro e w' ⟨rr, rfl, ts, hb'⟩; (have hBn := bw_to (by assumption : Below wb.heap.size wb _) hb'); (try (have tm := tm.to hb'))))
    all_goals
      have hBB : Below wb.heap.size wb w' := by assumption
      go_wp2_with fail
      go_meet
      exact ⟨Aa, qa, rfl, rfl, oz, hBB⟩
  obtain ⟨Ap, qp, rfl, rfl, hp, hB3⟩ := hcut
  obtain ⟨w3, rfl⟩ : ∃ w3, w3 = wc := ⟨_, rfl⟩
  have HP3 := Lib.hid (LowSS.of hp)
  have Hz3w := Lib.hid hB3.size
  clear hp hB2 hdr
  go_wp2_with fail
  refine (Hto.out _ hB3).mono ?_; rintro e w4 ⟨Aq, cq, rfl, q4, tm, hb4⟩
  have HQ4 := Lib.hid (show OwnS w4 w3.heap.size _ m.l from q4)
  have HP4 := Lib.hid (HP3.out.to hb4)
  have HB4 := Lib.hid (bw_to hB3 hb4)
  have hz34 := Lib.hid hb4.size
  go_wp2_with fail
  refine box1 (C := fun W => Calls _ _ _ W _) ?_
  intro w5 hw5 k5 hB05
  have X5 := Lib.hid (own_to (xbox_of (m := m) k5) (Below.refl _ _))
  have hB5 := bw_to HB4.out hw5
  have TM := Lib.hid (tm.to hw5)
  have HQ5 := Lib.hid (HQ4.out.to hw5)
  have HP5 := Lib.hid (HP4.out.to hw5)
  have RB := boxRule k5
  have HB5 := Lib.hid hB5
  have Hz5 := Lib.hid (show w4.heap.size < w5.heap.size by have := blk_lt k5; exact this)
  have HR1 := Lib.hid R1
  have HR2 := Lib.hid R2
  have HRB := Lib.hid RB
  clear tm hb4 hw5 k5 R1 R2 hB3 hB0 q4 hB5 RB
  refine (Htt.out _ HB5.out).mono ?_; rintro e w6 ⟨vz, rfl, hz6, hb6⟩
  have HZ6 := Lib.hid (show OwnS w6 w5.heap.size vz bobs from hz6)
  have HB6 := Lib.hid (bw_to HB5.out hb6)
  have HQ6 := Lib.hid (HQ5.out.to hb6)
  have HP6 := Lib.hid (HP5.out.to hb6)
  have X6 := Lib.hid (xbox_to X5.out hb6)
  have TM6 := Lib.hid (TM.out.to hb6)
  have Hz56 := Lib.hid hb6.size
  have RB := fun W i (hb : Below w6.heap.size w6 W) => HRB.out W i (bw_to hb6 hb)
  clear hz6 hb6
  have R16 := fun W i (hb : Below w6.heap.size w6 W) => HR1.out W i (bw_to HB6.out hb)
  have R26 := fun W i (hb : Below w6.heap.size w6 W) => HR2.out W i (bw_to HB6.out hb)
  have hst6 : Below w6.heap.size w6 w6 := Below.refl _ _
  have hdr6 : Below w6.heap.size w6 w6.drew := Below.drew (Below.refl _ _)
  go_upto_region 14 with fail
  go_cut [12, 13] (fun s11 s12 wx => ∃ Aa qa, s11 = .slice Aa L.length qa ∧ s12 = .bool b ∧ OwnSS wx w6.heap.size (.slice Aa L.length qa) L ∧ Below w6.heap.size w6 wx)
  case first =>
    go_region_held3 (fun W => Below w6.heap.size w6 W) (first | with_reducible assumption | exact Below.drew (by assumption) | exact bw_to (by assumption) hb')
      (first | (go_at_call 29; refine (Hi.out _ _ _ ?_ ?_ ?_).mono ?_; (· exact TM6.out.to (by assumption)); (· exact OwnS.strs (HZ6.out.to (by assumption))); (· exact OwnS.nilok HZ6.out); rintro e w' ⟨Aa, qa, rfl, oa, hb'⟩; (have hBn := bw_to (by assumption : Below w6.heap.size w6 _) hb'); (have oz := OwnSS.base (b2 := w6.heap.size) oa (Below.size (by assumption : Below w6.heap.size w6 _)))) | (go_at_call 12; refine (Htk.out _).mono ?_; rintro e w' ⟨rfl, hb'⟩; (have hBn := bw_to (by assumption : Below w6.heap.size w6 _) hb'); (try (have tm := tm.to hb')); (try (have ts := OwnS.to ts hb'))))
    all_goals
      have hBB : Below w6.heap.size w6 w' := by assumption
      go_wp2_with fail
      go_meet
      exact ⟨Aa, qa, rfl, rfl, oz, hBB⟩
  obtain ⟨Ag, qg, rfl, rfl, hg, hB7⟩ := hcut
  obtain ⟨w7, rfl⟩ : ∃ w7, w7 = wc := ⟨_, rfl⟩
  have HG7 := Lib.hid hg
  have HP7 := Lib.hid (HP6.out.to hB7)
  have HQ7 := Lib.hid (HQ6.out.to hB7)
  have X7 := Lib.hid (xbox_to X6.out hB7)
  have HB7 := Lib.hid (bw_to HB6.out hB7)
  have HS7 := Lib.hid hB7.size
  have HZ7 := Lib.hid (HZ6.out.to hB7)
  clear hg hB7 hst6 hdr6 RB R16 R26
  go_wp2_with fail
  refine (eqSS_ok HG7.out HP7.out.own).mono ?_; rintro e w8 ⟨rfl, hb8⟩
  have X8 := Lib.hid (xbox_to X7.out hb8)
  have RB7 := fun W (hb : Below w8.heap.size w8 W) => xbox_c (xbox_to X8.out hb)
  have R17 := fun W i (hb : Below w8.heap.size w8 W) => HR1.out W i (bw_to (bw_to HB7.out hb8) hb)
  have HB8 := Lib.hid (bw_to HB7.out hb8)
  have HS8 := Lib.hid (Nat.le_trans HS7.out hb8.size)
  have HQ8 := Lib.hid (HQ7.out.to hb8)
  have HG8 := Lib.hid (HG7.out.to hb8)
  have HP8 := Lib.hid (HP7.out.to hb8)
  have HZ8 := Lib.hid (HZ7.out.to hb8)
  have hst8 := Below.refl w8.heap.size w8
  have hd8 : Below w8.heap.size w8 w8.drew := Below.drew (Below.refl _ _)
  go_upto_region 17 with fail
  go_region_held3 (fun W => Below w8.heap.size w8 W) (first | with_reducible assumption | exact Below.drew (by assumption) | exact bw_to (by assumption) hb')
    (first | (go_at_call 14; refine (eqMethod_same m _ _ _ (OwnS.strs (HQ8.out.to (by assumption))) tm.1).mono ?_; rintro e w9 ⟨rfl, hb'⟩) | (go_at_call 11; refine (Hto.out _ (bw_to HB8.out (by assumption))).mono ?_; rintro e w' ⟨A1, c1, rfl, om, tm, hb'⟩))
  all_goals
    have hBB : Below w8.heap.size w8 w9 := by assumption
    have HQ9 := Lib.hid (HQ8.out.to hBB)
    have HG9 := Lib.hid (HG8.out.to hBB)
    have HP9 := Lib.hid (HP8.out.to hBB)
    have HB9 := Lib.hid (bw_to HB8.out hBB)
    have HS9 := Lib.hid (Nat.le_trans HS8.out hBB.size)
    have X9 := Lib.hid (xbox_to X8.out hBB)
    have HZ9 := Lib.hid (HZ8.out.to hBB)
    clear hd8 hst8 R17 hBB hb' RB7
    go_wp2_with fail
    refine (Htt.out _ HB9.out).mono ?_; rintro e w10 ⟨vy, rfl, hz10, hb10⟩
    have Hy10 := Lib.hid (show OwnS w10 w9.heap.size vy bobs from hz10)
    have HZ10 := Lib.hid (HZ9.out.to hb10)
    clear hz10
    go_wp2_with fail
    refine (eqS_ok HZ10.out Hy10.out).mono ?_; rintro e w11 ⟨rfl, hb11⟩
    have HQ11 := Lib.hid ((HQ9.out.to hb10).to hb11)
    have HG11 := Lib.hid ((HG9.out.to hb10).to hb11)
    have HP11 := Lib.hid ((HP9.out.to hb10).to hb11)
    have HB11 := Lib.hid (bw_to (bw_to HB9.out hb10) hb11)
    have HS11 := Lib.hid (Nat.le_trans HS9.out (Nat.le_trans hb10.size hb11.size))
    have HZ11 := Lib.hid (HZ10.out.to hb11)
    have X11 := Lib.hid (xbox_c (xbox_to (xbox_to X9.out hb10) hb11))
    clear hb10 hb11
    have hXc := X11.out
    obtain ⟨xc0, xc1, xc2⟩ := hXc
    go_wp2_with fail
    refine (markMethod_any m _ m.l.length 1 _ _ _ HQ11.out (by have := Sm.out.2.1; omega) (by omega)).mono ?_; rintro e w12 ⟨k12, rfl, hk12, q12, hg12⟩
    have hxx : w3.heap.size ≤ w11.heap.size := Nat.le_trans (Nat.le_trans hz34.out (Nat.le_of_lt Hz5.out)) (Nat.le_trans Hz56.out HS11.out)
    have Hsz5 := Lib.hid (Nat.le_trans Hz56.out HS11.out)
    have Hsz6 := HS11
    have hbd := Lib.hid (HQ11.out.row HQ4.out hxx hg12)
    have HP12 := Lib.hid (HP11.out.low hbd.out (Nat.le_refl _))
    have HG12 := Lib.hid (HG11.out.kept hg12 (fun k e => Nat.lt_of_lt_of_le (Nat.lt_trans (HQ4.out.lt k e).2 Hz5.out) Hz56.out))
    have HB12 := Lib.hid (HB11.out.trans (hbd.out.mono Hz3w.out))
    have Hz12 := Lib.hid hg12.size
    have HZ12 := Lib.hid (HZ11.out.kept hg12 (fun k e => Nat.lt_trans (HQ4.out.lt k e).2 Hz5.out))
    clear hg12 q12 xc0 xc1 xc2 hxx
    subst hk12
    go_wp2_with fail
    refine (markStringS_any _ bobs.length (1 + m.l.length) _ _ _ HZ12.out (by have := St.out.1; omega) (by have := Sm.out.2.1; omega)).mono ?_; rintro e w13 ⟨rfl, z13, hg13⟩
    have hk0 : ¬ ((1 + m.l.length + bobs.length : Nat) : Int) < 0 := by omega
    have hyy : w5.heap.size ≤ w12.heap.size := Nat.le_trans Hsz5.out Hz12.out
    have hbd2 := Lib.hid (HZ12.out.row HZ6.out hyy hg13)
    have HP13 := Lib.hid (HP12.out.low hbd2.out (Nat.le_trans hz34.out (Nat.le_of_lt Hz5.out)))
    have HG13 := Lib.hid (HG12.out.kept hg13 (fun k e => (HZ6.out.lt k e).2))
    have HB13 := Lib.hid (HB12.out.trans (hbd2.out.mono HB5.out.size))
    have Hz13 := Lib.hid (Nat.le_trans Hz12.out hg13.size)
    clear hg13 z13 hyy
    go_wp2_with fail
    refine (eqSS_ok HG13.out HP13.out.own).mono ?_; rintro e w14 ⟨rfl, hb14⟩
    have HG14 := Lib.hid (HG13.out.to hb14)
    have HP14 := Lib.hid (HP13.out.to hb14)
    have HB14 := Lib.hid (bw_to HB13.out hb14)
    have Hw6 := Lib.hid (Nat.le_trans (Nat.le_trans Hsz6.out Hz13.out) hb14.size)
    clear hb14 hk0
    go_wp2_with fail
    refine (markSS_ok HG14.out HL.out Hw6.out).mono ?_; rintro e w15 ⟨rfl, g15, hbm⟩
    have HG15 := Lib.hid g15
    have HP15 := Lib.hid (HP14.out.low hbm (Nat.le_trans (Nat.le_trans hz34.out (Nat.le_of_lt Hz5.out)) Hz56.out))
    have HB15 := Lib.hid (HB14.out.trans (hbm.mono HB6.out.size))
    clear g15 hbm
    obtain ⟨N, hN⟩ : ∃ N, N = endSS 1 L := ⟨_, rfl⟩
    have HN := Lib.hid hN
    have hN0 : ¬ ((N : Nat) : Int) < 0 := by omega
    rw [← hN]
    clear hN
    go_wp2_with fail
    refine (heldSS_ok HG15.out HL.out).mono ?_; rintro e w16 ⟨rfl, hb16⟩
    rw [← HN.out]
    have HB16 := Lib.hid (bw_to HB15.out hb16)
    have HP16 := Lib.hid (HP15.out.to hb16)
    have HG16 := Lib.hid (HG15.out.to hb16)
    have R16 := fun W i (hb : Below w16.heap.size w16 W) => HR1.out W i (bw_to HB16.out hb)
    have R26 := fun W i (hb : Below w16.heap.size w16 W) => HR2.out W i (bw_to HB16.out hb)
    have hst16 : Below w16.heap.size w16 w16 := Below.refl _ _
    have hd16 : Below w16.heap.size w16 w16.drew := Below.drew (Below.refl _ _)
    clear hb16
    go_upto_region 34 with fail
    go_cut [17, 18] (fun s16 s17 wx => ∃ Aa qa, s16 = .slice Aa L.length qa ∧ s17 = .bool b ∧ OwnSS wx w16.heap.size (.slice Aa L.length qa) L ∧ Below w16.heap.size w16 wx)
    case first =>
      go_region_held3 (fun W => Below w16.heap.size w16 W) (first | with_reducible assumption | exact Below.drew (by assumption) | exact bw_to (by assumption) hb')
        (first | (go_at_call 29; refine (Hi.out _ _ _ ?_ ?_ ?_).mono ?_; (· first | exact tm | exact tm.to (by assumption)); (· exact OwnS.strs ts); (· exact OwnS.nilok ts); rintro e w' ⟨Aa, qa, rfl, oa, hb'⟩; (have hBn := bw_to (by assumption : Below w16.heap.size w16 _) hb'); (have oz := OwnSS.base (b2 := w16.heap.size) oa (Below.size (by assumption : Below w16.heap.size w16 _)))) | (go_at_call 12; refine (Htk.out _).mono ?_; rintro e w' ⟨rfl, hb'⟩; (have hBn := bw_to (by assumption : Below w16.heap.size w16 _) hb'); (try (have tm := tm.to hb')); (try (have ts := OwnS.to ts hb'))) | (go_at_call 11; refine (Hto.out _ (bw_to HB16.out (by assumption))).mono ?_; rintro e w' ⟨A1, c1, rfl, om, tm, hb'⟩; (have hBn := bw_to (by assumption : Below w16.heap.size w16 _) hb')) | (go_at_call 23; refine (Htt.out _ (bw_to HB16.out (by assumption))).mono ?_; rintro e w' ⟨rr, rfl, ts, hb'⟩; (have hBn := bw_to (by assumption : Below w16.heap.size w16 _) hb'); (try (have tm := tm.to hb'))))
      all_goals
        have hBB : Below w16.heap.size w16 w' := by assumption
        go_wp2_with fail
        go_meet
        exact ⟨Aa, qa, rfl, rfl, oz, hBB⟩
    obtain ⟨Ah, qh, rfl, rfl, hh, hB17⟩ := hcut
    have HH17 := Lib.hid hh
    have HP17 := Lib.hid (HP16.out.to hB17)
    have HG17 := Lib.hid (HG16.out.to hB17)
    have HB17 := Lib.hid (bw_to HB16.out hB17)
    clear hh hB17 hst16 hd16 R16 R26
    go_wp2_with fail
    refine (eqSS_ok HH17.out HP17.out.own).mono ?_; rintro e w18 ⟨rfl, hb18⟩
    have HG18 := Lib.hid (HG17.out.to hb18)
    have HB18 := Lib.hid (bw_to HB17.out hb18)
    clear hb18
    go_wp2_with fail
    refine (heldSS_ok HG18.out HL.out).mono ?_; rintro e w19 ⟨rfl, hb19⟩
    rw [← HN.out]
    go_wp2_with fail
    go_ret
    exact ⟨rfl, bw_to hw (bw_to HB18.out hb19)⟩
end Go.Proofs.YthgadnhkbmimiaaGreat

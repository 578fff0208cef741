/- The law RecordTouch. (Printed by a program: tools/mkLaw.py.) -/
import Derived.Test.YtimeecimaokldaaGreatDoorPk38
import Derived.Test.YtimeecimaokldaaGreatDoorPk19
import Derived.Test.YtimeecimaokldaaGreatDoorRows
import Derived.Lib.LaidTab
import Derived.Stop.LaidErr
namespace Go.Proofs.YtimeecimaokldaaGreatDoor
open Go Go.RowKit
set_option linter.unusedVariables false
set_option linter.unusedSimpArgs false

/-- What RecordTouch answers on both sides. -/
def BothRecordTouch (be : Bt) (m : Mt) (k : Cl) (r0 : ByteArray) : Prop := ∃ (L : List (Int × Int)) (b : Bool), FitK L ∧ (∀ v W, MethAt W m v → NilOk v → Tab10 W → Calls Tryz.prog 20 #[be.v, m.v v, k.v, .string r0] W fun e w' => ∃ A q, e = .returned (.tuple #[.slice A L.length q, .bool b]) ∧ OwnK w' W.heap.size (.slice A L.length q) L ∧ Below W.heap.size W w') ∧ (∀ v W, MethAt W m v → NilOk v → Tab10 W → Calls Tryz.prog 18 #[be.v, m.v v, k.v, .string r0] W fun e w' => ∃ A q, e = .returned (.tuple #[.slice A L.length q, .bool b]) ∧ OwnK w' W.heap.size (.slice A L.length q) L ∧ Below W.heap.size W w')
set_option maxRecDepth 100000 in
set_option maxHeartbeats 8000000 in
theorem lawRecordTouch_of (be : Bt) (m : Mt) (v : Value) (k : Cl) (r0 : ByteArray) (w : World) (hm : MethAt w m v) (hk : ClFit k) (htab : Tab10 w) (hr : r0.size ≤ maxLen) (hboth : MtSmall m → ClSmall k → r0.size ≤ 1048576 → BothRecordTouch be m k r0) : Calls Tryz.prog 4 #[be.v, m.v v, k.v, .string r0] w fun e w' => e = .returned (.bool true) ∧ Below w.heap.size w w' := by
  have Hm := Lib.hid hm
  have Hk := Lib.hid hk
  have Hboth := Lib.hid hboth
  clear hboth
  obtain ⟨A, c, hv⟩ := hm.form
  subst hv
  clear hm hk
  unfold Bt.v Mt.v Cl.v
  unfold maxLen at hr
  by_cases hbig : 1048576 < r0.size
  · have hbz : (1048576 : Int) < r0.size := by omega
    go_enter Tryz.func4, Tryz.ntmps4
    go_wp2_with fail
    go_ret
    exact ⟨rfl, bw_al (bw_al (bw_al (Below.refl _ _) _) _) _⟩
  have ht2 : r0.size ≤ 1048576 := by omega
  have hbz : (r0.size : Int) ≤ 1048576 := by omega
  go_enter Tryz.func4, Tryz.ntmps4
  go_wp2_with fail
  refine box3 (C := fun W => Calls _ _ _ W _) ?_
  intro wb hw k0 k1 k2 hB0
  have R0 := boxRule k0
  have R1 := boxRule k1
  have R2 := boxRule k2
  have HTB := Lib.hid (htab.to hw)
  have Htb := Lib.hid (fun W => toBeatL_any be W)
  clear k0 k1 k2 htab
  have Hz1 := Lib.hid (fun W hW => szMethod_any m (.slice A m.l.length c) 1048576 W (Hm.out.to (bw_to hw hW)) (by omega) (by omega))
  have Hz2 := Lib.hid (fun k0 W => szCalls_any k k0 W Hk.out)
  unfold Bt.v Mt.v Cl.v at *
  refine (Hz1.out _ hB0).mono ?_; rintro e w1 ⟨r, rfl, hr0, hr1, hrl, hb1⟩
  have Hrl := Lib.hid hrl
  clear hrl
  by_cases hneg : r < 0
  · go_wp2_with fail
    go_ret
    exact ⟨rfl, bw_to hw hb1⟩
  have Sm := Lib.hid (Hrl.out (by omega))
  go_wp2_with fail
  refine (Hz2.out r _ (by omega) hr1).mono ?_; rintro e w2 ⟨r2, rfl, hr20, hr21, hrl2, hb2⟩
  have Hrl2 := Lib.hid hrl2
  have hB2 := bw_to hb1 hb2
  clear hrl2 hb1 hb2
  by_cases hneg2 : r2 < 0
  · go_wp2_with fail
    go_ret
    exact ⟨rfl, bw_to hw hB2⟩
  have Sk := Lib.hid (Hrl2.out (by omega))
  have Hto := Lib.hid (fun W hW => toMethod_agP m (.slice A m.l.length c) W (Hm.out.to (bw_to hw hW)) Sm.out)
  have Htk := Lib.hid (fun W => toCalls_any k W)
  obtain ⟨L, b, hL, hi, hs⟩ := Hboth.out Sm.out Sk.out ht2
  have Hi := Lib.hid hi
  have Hs := Lib.hid hs
  have HL := Lib.hid hL
  unfold Bt.v Mt.v Cl.v at *
  clear hi hs hL
  have hdr : Below wb.heap.size wb w2.drew := hB2.drew
  go_upto_region 10 with fail
  go_cut [10, 11] (fun s8 s9 wx => ∃ Aa qa, s8 = .slice Aa L.length qa ∧ s9 = .bool b ∧ OwnK wx wb.heap.size (.slice Aa L.length qa) L ∧ Below wb.heap.size wb wx)
  case first =>
    go_region_held3 (fun W => Below wb.heap.size wb W) (first | with_reducible assumption | exact Below.drew (by assumption) | exact bw_to (by assumption) hb')
      (first | (go_at_call 18; refine (Hs.out _ _ ?_ ?_ ?_).mono ?_; (· first | exact tm | exact tm.to (by assumption)); (· exact nilok_own om); (· exact HTB.out.to (by assumption)); rintro e w' ⟨Aa, qa, rfl, oa, hb'⟩; (have hBn := bw_to (by assumption : Below wb.heap.size wb _) hb'); (have oz := OwnK.base (b2 := wb.heap.size) oa (Below.size (by assumption : Below wb.heap.size wb _)))) | (go_at_call 11; refine (Htk.out _).mono ?_; rintro e w' ⟨rfl, hb'⟩; (have hBn := bw_to (by assumption : Below wb.heap.size wb _) hb'); (try (have tm := tm.to hb'))) | (go_at_call 19; refine (Htb.out _).mono ?_; rintro e w' ⟨rfl, hb'⟩; (have hBn := bw_to (by assumption : Below wb.heap.size wb _) hb'); (try (have tm := tm.to hb'))) | (go_at_call 10; refine (Hto.out _ (by assumption)).mono ?_; rintro e w' ⟨A1, c1, rfl, om, tm, hb'⟩; (have hBn := bw_to (by assumption : Below wb.heap.size wb _) hb')))
    all_goals
      have hBB : Below wb.heap.size wb w' := by assumption
      go_wp2_with fail
      go_meet
      exact ⟨Aa, qa, rfl, rfl, oz, hBB⟩
  obtain ⟨Ap, qp, rfl, rfl, hp, hB3⟩ := hcut
  obtain ⟨w3, rfl⟩ : ∃ w3, w3 = wc := ⟨_, rfl⟩
  have HP3 := Lib.hid (LowK.of hp)
  have Hz3w := Lib.hid hB3.size
  clear hp hB2 hdr
  go_wp2_with fail
  refine (Hto.out _ hB3).mono ?_; rintro e w4 ⟨Aq, cq, rfl, q4, tm, hb4⟩
  have HQ4 := Lib.hid (show OwnS w4 w3.heap.size _ m.l from q4)
  have HP4 := Lib.hid (HP3.out.to hb4)
  have HB4 := Lib.hid (bw_to hB3 hb4)
  have hz34 := Lib.hid hb4.size
  go_upto_region 12 with fail
  refine box1 (C := fun W => Code.wp _ _ _ _ W) ?_
  intro w5 hw5 k5 hB05
  have X5 := Lib.hid (own_to (xbox_of (m := m) k5) (Below.refl _ _))
  have hB5 := bw_to HB4.out hw5
  have TM := Lib.hid (tm.to hw5)
  have HQ5 := Lib.hid (HQ4.out.to hw5)
  have HP5 := Lib.hid (HP4.out.to hw5)
  have RB := boxRule k5
  have HB5 := Lib.hid hB5
  have Hz5 := Lib.hid (show w4.heap.size < w5.heap.size by have := blk_lt k5; exact this)
  have HR0 := Lib.hid R0
  have HR1 := Lib.hid R1
  have HR2 := Lib.hid R2
  have HRB := Lib.hid RB
  clear tm hb4 hw5 k5 R0 R1 R2 hB3 hB0 q4 hB5 RB
  obtain ⟨w6, hw6⟩ : ∃ w6, w6 = w5 := ⟨_, rfl⟩
  subst hw6
  have HB6 := HB5
  have HQ6 := HQ5
  have HP6 := HP5
  have X6 := X5
  have TM6 := TM
  have Hz56 : Hid (w6.heap.size ≤ w6.heap.size) := Lib.hid (Nat.le_refl _)
  have RB := HRB.out
  have R06 := fun W i (hb : Below w6.heap.size w6 W) => HR0.out W i (bw_to HB6.out hb)
  have R16 := fun W i (hb : Below w6.heap.size w6 W) => HR1.out W i (bw_to HB6.out hb)
  have R26 := fun W i (hb : Below w6.heap.size w6 W) => HR2.out W i (bw_to HB6.out hb)
  have hst6 : Below w6.heap.size w6 w6 := Below.refl _ _
  have hdr6 : Below w6.heap.size w6 w6.drew := Below.drew (Below.refl _ _)
  go_upto_region 12 with fail
  go_cut [13, 14] (fun s11 s12 wx => ∃ Aa qa, s11 = .slice Aa L.length qa ∧ s12 = .bool b ∧ OwnK wx w6.heap.size (.slice Aa L.length qa) L ∧ Below w6.heap.size w6 wx)
  case first =>
    go_region_held3 (fun W => Below w6.heap.size w6 W) (first | with_reducible assumption | exact Below.drew (by assumption) | exact bw_to (by assumption) hb')
      (first | (go_at_call 20; refine (Hi.out _ _ ?_ ?_ ?_).mono ?_; (· exact TM6.out.to (by assumption)); (· exact HQ6.out.nilok); (· exact HTB.out.to (bw_to HB6.out (by assumption))); rintro e w' ⟨Aa, qa, rfl, oa, hb'⟩; (have hBn := bw_to (by assumption : Below w6.heap.size w6 _) hb'); (have oz := OwnK.base (b2 := w6.heap.size) oa (Below.size (by assumption : Below w6.heap.size w6 _)))) | (go_at_call 11; refine (Htk.out _).mono ?_; rintro e w' ⟨rfl, hb'⟩; (have hBn := bw_to (by assumption : Below w6.heap.size w6 _) hb'); (try (have tm := tm.to hb'))) | (go_at_call 19; refine (Htb.out _).mono ?_; rintro e w' ⟨rfl, hb'⟩; (have hBn := bw_to (by assumption : Below w6.heap.size w6 _) hb'); (try (have tm := tm.to hb'))))
    all_goals
      have hBB : Below w6.heap.size w6 w' := by assumption
      go_wp2_with fail
      go_meet
      exact ⟨Aa, qa, rfl, rfl, oz, hBB⟩
  obtain ⟨Ag, qg, rfl, rfl, hg, hB7⟩ := hcut
  obtain ⟨w7, rfl⟩ : ∃ w7, w7 = wc := ⟨_, rfl⟩
  have HG7 := Lib.hid hg
  have HP7 := Lib.hid (HP6.out.to hB7)
  have HQ7 := Lib.hid (HQ6.out.to hB7)
  have X7 := Lib.hid (xbox_to X6.out hB7)
  have HB7 := Lib.hid (bw_to HB6.out hB7)
  have HS7 := Lib.hid hB7.size
  clear hg hB7 hst6 hdr6 RB R06 R16 R26
  go_wp2_with fail
  refine (eqK_ok HG7.out HP7.out.own).mono ?_; rintro e w8 ⟨rfl, hb8⟩
  have X8 := Lib.hid (xbox_to X7.out hb8)
  have RB7 := fun W (hb : Below w8.heap.size w8 W) => xbox_c (xbox_to X8.out hb)
  have R17 := fun W i (hb : Below w8.heap.size w8 W) => HR1.out W i (bw_to (bw_to HB7.out hb8) hb)
  have HB8 := Lib.hid (bw_to HB7.out hb8)
  have HS8 := Lib.hid (Nat.le_trans HS7.out hb8.size)
  have HQ8 := Lib.hid (HQ7.out.to hb8)
  have HG8 := Lib.hid (HG7.out.to hb8)
  have HP8 := Lib.hid (HP7.out.to hb8)
  have hst8 := Below.refl w8.heap.size w8
  have hd8 : Below w8.heap.size w8 w8.drew := Below.drew (Below.refl _ _)
  go_upto_region 15 with fail
  go_region_held3 (fun W => Below w8.heap.size w8 W) (first | with_reducible assumption | exact Below.drew (by assumption) | exact bw_to (by assumption) hb')
    (first | (go_at_call 14; refine (eqMethod_same m _ _ _ (OwnS.strs (HQ8.out.to (by assumption))) tm.1).mono ?_; rintro e w9 ⟨rfl, hb'⟩) | (go_at_call 10; refine (Hto.out _ (bw_to HB8.out (by assumption))).mono ?_; rintro e w' ⟨A1, c1, rfl, om, tm, hb'⟩))
  all_goals
    have hBB : Below w8.heap.size w8 w9 := by assumption
    have HQ9 := Lib.hid (HQ8.out.to hBB)
    have HG9 := Lib.hid (HG8.out.to hBB)
    have HP9 := Lib.hid (HP8.out.to hBB)
    have HB9 := Lib.hid (bw_to HB8.out hBB)
    have HS9 := Lib.hid (Nat.le_trans HS8.out hBB.size)
    have X9 := Lib.hid (xbox_to X8.out hBB)
    clear hd8 hst8 R17 hBB hb' RB7
    obtain ⟨w11, hw11⟩ : ∃ w11, w11 = w9 := ⟨_, rfl⟩
    subst hw11
    have HQ11 := HQ9
    have HG11 := HG9
    have HP11 := HP9
    have HB11 := HB9
    have HS11 := HS9
    have X11 := Lib.hid (xbox_c X9.out)
    have hXc := X11.out
    obtain ⟨xc0, xc1, xc2⟩ := hXc
    go_wp2_with fail
    refine (markMethod_any m _ m.l.length 1 _ _ _ HQ11.out (by have := Sm.out.2.1; omega) (by omega)).mono ?_; rintro e w12 ⟨k12, rfl, hk12, q12, hg12⟩
    have hxx : w3.heap.size ≤ w11.heap.size := Nat.le_trans (Nat.le_trans hz34.out (Nat.le_of_lt Hz5.out)) (Nat.le_trans Hz56.out HS11.out)
    have Hsz5 := Lib.hid (Nat.le_trans Hz56.out HS11.out)
    have Hsz6 := HS11
    have hbd := Lib.hid (HQ11.out.row HQ4.out hxx hg12)
    have HP12 := Lib.hid (HP11.out.low hbd.out (Nat.le_refl _))
    have HG12 := Lib.hid (HG11.out.kept hg12 (fun k e => Nat.lt_of_lt_of_le (Nat.lt_trans (HQ4.out.lt k e).2 Hz5.out) Hz56.out))
    have HB12 := Lib.hid (HB11.out.trans (hbd.out.mono Hz3w.out))
    have Hz12 := Lib.hid hg12.size
    clear hg12 q12 xc0 xc1 xc2 hxx
    subst hk12
    have hk0 : ¬ ((1 + m.l.length : Nat) : Int) < 0 := by omega
    have HP13 := HP12
    have HG13 := HG12
    have HB13 := HB12
    have Hz13 := Hz12
    go_wp2_with fail
    refine (eqK_ok HG13.out HP13.out.own).mono ?_; rintro e w14 ⟨rfl, hb14⟩
    have HG14 := Lib.hid (HG13.out.to hb14)
    have HP14 := Lib.hid (HP13.out.to hb14)
    have HB14 := Lib.hid (bw_to HB13.out hb14)
    have Hw6 := Lib.hid (Nat.le_trans (Nat.le_trans Hsz6.out Hz13.out) hb14.size)
    clear hb14 hk0
    go_wp2_with fail
    refine (markK_ok HG14.out HL.out Hw6.out).mono ?_; rintro e w15 ⟨rfl, g15, hbm⟩
    have HG15 := Lib.hid g15
    have HP15 := Lib.hid (HP14.out.low hbm (Nat.le_trans (Nat.le_trans hz34.out (Nat.le_of_lt Hz5.out)) Hz56.out))
    have HB15 := Lib.hid (HB14.out.trans (hbm.mono HB6.out.size))
    clear g15 hbm
    obtain ⟨N, hN⟩ : ∃ N, N = endK L := ⟨_, rfl⟩
    have HN := Lib.hid hN
    have hN0 : ¬ ((N : Nat) : Int) < 0 := by omega
    rw [← hN]
    clear hN
    go_wp2_with fail
    refine (heldK_ok HG15.out HL.out).mono ?_; rintro e w16 ⟨rfl, hb16⟩
    rw [← HN.out]
    have HB16 := Lib.hid (bw_to HB15.out hb16)
    have HP16 := Lib.hid (HP15.out.to hb16)
    have HG16 := Lib.hid (HG15.out.to hb16)
    have R06 := fun W i (hb : Below w16.heap.size w16 W) => HR0.out W i (bw_to HB16.out hb)
    have R16 := fun W i (hb : Below w16.heap.size w16 W) => HR1.out W i (bw_to HB16.out hb)
    have R26 := fun W i (hb : Below w16.heap.size w16 W) => HR2.out W i (bw_to HB16.out hb)
    have hst16 : Below w16.heap.size w16 w16 := Below.refl _ _
    have hd16 : Below w16.heap.size w16 w16.drew := Below.drew (Below.refl _ _)
    clear hb16
    go_upto_region 29 with fail
    go_cut [18, 19] (fun s16 s17 wx => ∃ Aa qa, s16 = .slice Aa L.length qa ∧ s17 = .bool b ∧ OwnK wx w16.heap.size (.slice Aa L.length qa) L ∧ Below w16.heap.size w16 wx)
    case first =>
      go_region_held3 (fun W => Below w16.heap.size w16 W) (first | with_reducible assumption | exact Below.drew (by assumption) | exact bw_to (by assumption) hb')
        (first | (go_at_call 20; refine (Hi.out _ _ ?_ ?_ ?_).mono ?_; (· first | exact tm | exact tm.to (by assumption)); (· exact nilok_own om); (· exact HTB.out.to (bw_to HB16.out (by assumption))); rintro e w' ⟨Aa, qa, rfl, oa, hb'⟩; (have hBn := bw_to (by assumption : Below w16.heap.size w16 _) hb'); (have oz := OwnK.base (b2 := w16.heap.size) oa (Below.size (by assumption : Below w16.heap.size w16 _)))) | (go_at_call 11; refine (Htk.out _).mono ?_; rintro e w' ⟨rfl, hb'⟩; (have hBn := bw_to (by assumption : Below w16.heap.size w16 _) hb'); (try (have tm := tm.to hb'))) | (go_at_call 19; refine (Htb.out _).mono ?_; rintro e w' ⟨rfl, hb'⟩; (have hBn := bw_to (by assumption : Below w16.heap.size w16 _) hb'); (try (have tm := tm.to hb'))) | (go_at_call 10; refine (Hto.out _ (bw_to HB16.out (by assumption))).mono ?_; rintro e w' ⟨A1, c1, rfl, om, tm, hb'⟩; (have hBn := bw_to (by assumption : Below w16.heap.size w16 _) hb')))
      all_goals
        have hBB : Below w16.heap.size w16 w' := by assumption
        go_wp2_with fail
        go_meet
        exact ⟨Aa, qa, rfl, rfl, oz, hBB⟩
    obtain ⟨Ah, qh, rfl, rfl, hh, hB17⟩ := hcut
    have HH17 := Lib.hid hh
    have HP17 := Lib.hid (HP16.out.to hB17)
    have HG17 := Lib.hid (HG16.out.to hB17)
    have HB17 := Lib.hid (bw_to HB16.out hB17)
    clear hh hB17 hst16 hd16 R06 R16 R26
    go_wp2_with fail
    refine (eqK_ok HH17.out HP17.out.own).mono ?_; rintro e w18 ⟨rfl, hb18⟩
    have HG18 := Lib.hid (HG17.out.to hb18)
    have HB18 := Lib.hid (bw_to HB17.out hb18)
    clear hb18
    go_wp2_with fail
    refine (heldK_ok HG18.out HL.out).mono ?_; rintro e w19 ⟨rfl, hb19⟩
    rw [← HN.out]
    go_wp2_with fail
    go_ret
    exact ⟨rfl, bw_to hw (bw_to HB18.out hb19)⟩
end Go.Proofs.YtimeecimaokldaaGreatDoor

/- RecordTouch answers as the reference's: joined. -/
namespace Go.Proofs.YtimeecimaokldaaGreatDoor
open Go Go.RowKit
set_option linter.unusedVariables false
set_option linter.unusedSimpArgs false

theorem bothRecordTouch (be : Bt) (m : Mt) (k : Cl) (t : ByteArray) (hs : MtSmall m) (hk : ClSmall k) (ht : t.size ≤ 1048576) : BothRecordTouch be m k t := by
  have key : ∀ {w w' : World} {e : Ending} (ok : Bool) (L : List (Int × Int)), (ok = true ↔ RtOk m k t ∧ (GoodB be ∧ GoodRs (rtRows m k t) ∧ GoodS (idL be 0 (rtRows m k t)))) → L = (if ok then idL be 0 (rtRows m k t) else []) → RecPost w be m k t e w' →
      ∃ A q, e = .returned (.tuple #[.slice A L.length q, .bool ok]) ∧ OwnK w' w.heap.size (.slice A L.length q) L ∧ Below w.heap.size w w' := by
    intro w w' e ok L h1 h2 h
    obtain ⟨ok', L', A, c, rfl, ho, hb, hiff, hL⟩ := h
    have e1 : ok' = ok := by
      rw [Bool.eq_iff_iff, hiff, h1]
    subst e1
    have e2 : L' = L := by rw [hL, h2]
    subst e2
    exact ⟨A, c, rfl, ho, hb⟩
  by_cases hP : RtOk m k t ∧ (GoodB be ∧ GoodRs (rtRows m k t) ∧ GoodS (idL be 0 (rtRows m k t)))
  · refine ⟨idL be 0 (rtRows m k t), true, ?_, ?_, ?_⟩
    · have := hP.2.2.2.1
      unfold FitK
      omega
    · exact fun v W h hn hT => (recordTouch_any be m v k t W h hn hs hk ht hT).mono fun e w' hp => key true _ (iff_of_true rfl hP) rfl hp
    · exact fun v W h hn hT => (specRecordTouch_any be m v k t W h hn hs hk ht).mono fun e w' hp => key true _ (iff_of_true rfl hP) rfl hp
  · refine ⟨[], false, ?_, ?_, ?_⟩
    · unfold FitK; simp
    · exact fun v W h hn hT => (recordTouch_any be m v k t W h hn hs hk ht hT).mono fun e w' hp => key false _ (iff_of_false (by simp) hP) rfl hp
    · exact fun v W h hn hT => (specRecordTouch_any be m v k t W h hn hs hk ht).mono fun e w' hp => key false _ (iff_of_false (by simp) hP) rfl hp
theorem lawRecordTouch_row (be : Bt) (m : Mt) (v : Value) (k : Cl) (t : ByteArray) (w : World) (hm : MethAt w m v) (hk : ClFit k) (hr : t.size ≤ maxLen) (htab : Tab10 w) : Calls Tryz.prog 4 #[be.v, m.v v, k.v, .string t] w fun e w' => e = .returned (.bool true) ∧ Below w.heap.size w w' :=
  lawRecordTouch_of be m v k t w hm hk htab hr (fun h1 h2 h3 => bothRecordTouch be m k t h1 h2 h3)
end Go.Proofs.YtimeecimaokldaaGreatDoor

/- From a row's list to the library's table of powers of ten. -/
namespace Go.Proofs.YtimeecimaokldaaGreatDoor
open Go Go.RowKit
set_option maxRecDepth 100000
theorem tab_same : (Rows.laid_internal_strconv_uint64pow10 : DataW Unit) = Lib.tabData .u64 Lib.pow10Tab := by kernel_rfl
theorem tab_of {x y : String × DataW Unit} {rest : List (String × DataW Unit)} {W : World} (h : laidMet Tryz.prog (x :: y :: ("internal/strconv.uint64pow10", Rows.laid_internal_strconv_uint64pow10) :: rest) W) : Tab10 W := by
  have h1 := laidMet.tail (laidMet.tail h)
  rw [tab_same] at h1
  exact Lib.tabBelow_of_tabIs (Lib.tabIs_of_head (g := 0) (by kernel_rfl) (t := 207) (e := 97) (n := 20) (by kernel_rfl) Tryz.underlying207 Tryz.underlying97 (by kernel_rfl) (by kernel_rfl) h1)
end Go.Proofs.YtimeecimaokldaaGreatDoor

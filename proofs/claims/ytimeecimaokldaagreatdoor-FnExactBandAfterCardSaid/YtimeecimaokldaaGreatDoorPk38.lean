/- The law BandAfter, walked. (Printed by a program: tools/mkLawB.py.) -/
import Derived.Test.YtimeecimaokldaaGreatDoorPk37
namespace Go.Proofs.YtimeecimaokldaaGreatDoor
open Go Go.RowKit
set_option linter.unusedVariables false
set_option linter.unusedSimpArgs false

theorem zin1 {X w' : World} {o : Obj} (hb : Below (X.alloc o).heap.size (X.alloc o) w') : w'.heap[X.heap.size]? = some o ∧ X.heap.size < (X.alloc o).heap.size := ⟨box_in hb, by simp⟩
theorem zin1D {X w' : World} {o : Obj} (hb : Below (X.alloc o).drew.heap.size (X.alloc o).drew w') : w'.heap[X.heap.size]? = some o ∧ X.heap.size < (X.alloc o).drew.heap.size := ⟨box_inD hb, by show X.heap.size < (X.alloc o).heap.size; simp⟩
theorem zin2 {W w' : World} {g : Nat} {o : Obj} (h : W.heap[g]? = some o) (hb : Below W.heap.size W w') : w'.heap[g]? = some o ∧ g < W.heap.size := ⟨(hb.block _ (blk_lt h)).trans h, blk_lt h⟩
theorem zat_put {W : World} {base base2 G : Nat} {m : Mt} {k : Cl} {b : Bd} {A1 : Option Addr} {c1 : Nat} {A2 : Option Addr} {c2 : Nat} {z0 z1 z2 z3 z4 z5 z6 z7 z8 : Value} (hz : Bc W G [z0, z1, z2, z3, z4, z5, z6, z7, z8] 33) (hlt : G < base2) (hG : base ≤ G)
    (o1 : W.ownsRow base2 9 1 (.slice A1 m.l.length c1) m.l.length (m.l.map Value.string)) (o2 : W.ownsRow base2 104 2 (.slice A2 b.rs.length c2) b.rs.length (b.rs.flatMap rsC)) :
    ZAt (((((((((W.setCell ⟨G, 0, none⟩ (.string m.name)).setCell ⟨G, 1, none⟩ (.int .i64 m.stage)).setCell ⟨G, 2, none⟩ (.slice A1 m.l.length c1)).setCell ⟨G, 3, none⟩ (.string k.bob)).setCell ⟨G, 4, none⟩ (.string k.single)).setCell ⟨G, 5, none⟩ (.int .i64 b.st)).setCell ⟨G, 6, none⟩ (.string b.call)).setCell ⟨G, 7, none⟩ (.string b.tr)).setCell ⟨G, 8, none⟩ (.slice A2 b.rs.length c2)) base G m k b A1 c1 A2 c2 m.l b.rs :=
  ⟨hz.s9 _ _ _ _ _ _ _ _ _, hG, own_base (own9 o1 hlt) (by omega), own_base (own9 o2 hlt) (by omega)⟩
theorem zat_new {W : World} {base base2 : Nat} {m : Mt} {k : Cl} {b : Bd} {A1 : Option Addr} {c1 : Nat} {A2 : Option Addr} {c2 : Nat} (hb : base ≤ base2) (hG : base ≤ W.heap.size)
    (o1 : W.ownsRow base2 9 1 (.slice A1 m.l.length c1) m.l.length (m.l.map Value.string)) (o2 : W.ownsRow base2 104 2 (.slice A2 b.rs.length c2) b.rs.length (b.rs.flatMap rsC)) :
    ZAt (W.alloc (.cells #[.string m.name, .int .i64 m.stage, .slice A1 m.l.length c1, .string k.bob, .string k.single, .int .i64 b.st, .string b.call, .string b.tr, .slice A2 b.rs.length c2] 33 (0, 0))) base W.heap.size m k b A1 c1 A2 c2 m.l b.rs :=
  ⟨heap_new _ _, hG, own_base (own_to o1 (bw_al (Below.refl _ _) _)) hb, own_base (own_to o2 (bw_al (Below.refl _ _) _)) hb⟩
/-- What BandAfter answers on both sides. -/
def BothBandAfter (m : Mt) (k : Cl) (r0 : ByteArray) (bell : Int) : Prop := ∃ (M : Mt) (K : Cl) (b : Bd) (ok : Bool), (M.l.length ≤ 1048576 ∧ b.rs.length ≤ 1048576) ∧ (∀ v W, MethAt W m v → NilOk v → Tab10 W → Calls Tryz.prog 12 #[m.v v, k.v, .string r0, .int .i64 bell] W fun e w' => ∃ A1 c1 A2 c2, e = .returned (.tuple #[.agg #[.string M.name, .int .i64 M.stage, .slice A1 M.l.length c1, .string K.bob, .string K.single, .int .i64 b.st, .string b.call, .string b.tr, .slice A2 b.rs.length c2], .bool ok]) ∧ w'.ownsRow W.heap.size 9 1 (.slice A1 M.l.length c1) M.l.length (M.l.map Value.string) ∧ w'.ownsRow W.heap.size 104 2 (.slice A2 b.rs.length c2) b.rs.length (b.rs.flatMap rsC) ∧ Below W.heap.size W w') ∧ (∀ v W, MethAt W m v → NilOk v → Tab10 W → Calls Tryz.prog 9 #[m.v v, k.v, .string r0, .int .i64 bell] W fun e w' => ∃ A1 c1 A2 c2, e = .returned (.tuple #[.agg #[.string M.name, .int .i64 M.stage, .slice A1 M.l.length c1, .string K.bob, .string K.single, .int .i64 b.st, .string b.call, .string b.tr, .slice A2 b.rs.length c2], .bool ok]) ∧ w'.ownsRow W.heap.size 9 1 (.slice A1 M.l.length c1) M.l.length (M.l.map Value.string) ∧ w'.ownsRow W.heap.size 104 2 (.slice A2 b.rs.length c2) b.rs.length (b.rs.flatMap rsC) ∧ Below W.heap.size W w')
set_option maxRecDepth 100000 in
set_option maxHeartbeats 8000000 in
theorem lawBandAfter_of (m : Mt) (v : Value) (k : Cl) (r0 : ByteArray) (bell : Int) (w : World) (hm : MethAt w m v) (hk : ClFit k) (htab : Tab10 w) (hr : r0.size ≤ maxLen) (hboth : MtSmall m → ClSmall k → r0.size ≤ 1048576 → BothBandAfter m k r0 bell) : Calls Tryz.prog 3 #[m.v v, k.v, .string r0, .int .i64 bell] w fun e w' => e = .returned (.bool true) ∧ Below w.heap.size w w' := by
  have Hm := Lib.hid hm
  have Hk := Lib.hid hk
  have Hboth := Lib.hid hboth
  clear hboth
  obtain ⟨A, c, hv⟩ := hm.form
  subst hv
  clear hm hk
  unfold Mt.v Cl.v
  unfold maxLen at hr
  by_cases hbig : 1048576 < r0.size
  · have hbz : (1048576 : Int) < r0.size := by omega
    go_enter Tryz.func3, Tryz.ntmps3
    go_wp2_with fail
    go_ret
    exact ⟨rfl, bw_al (bw_al (Below.refl _ _) _) _⟩
  have ht2 : r0.size ≤ 1048576 := by omega
  have hbz : (r0.size : Int) ≤ 1048576 := by omega
  go_enter Tryz.func3, Tryz.ntmps3
  go_wp2_with fail
  refine box2 (C := fun W => Calls _ _ _ W _) ?_
  intro wb hw k0 k1 hB0
  have R0 := boxRule k0
  have R1 := boxRule k1
  have HTB := Lib.hid (htab.to hw)
  clear k0 k1 htab
  have Hz1 := Lib.hid (fun W hW => szMethod_any m (.slice A m.l.length c) 1048576 W (Hm.out.to (bw_to hw hW)) (by omega) (by omega))
  have Hz2 := Lib.hid (fun k0 W => szCalls_any k k0 W Hk.out)
  unfold Mt.v Cl.v at *
  refine (Hz1.out _ hB0).mono ?_; rintro e w1 ⟨r, rfl, hr0, hr1, hrl, hb1⟩
  have Hrl := Lib.hid hrl
  clear hrl
  by_cases hneg : r < 0
  · go_wp2_with fail
    go_ret
    exact ⟨rfl, bw_to hw hb1⟩
  have Sm := Lib.hid (Hrl.out (by omega))
  go_wp2_with fail
  refine (Hz2.out r _ (by omega) hr1).mono ?_; rintro e w2 ⟨r2, rfl, hr20, hr21, hrl2, hb2⟩
  have Hrl2 := Lib.hid hrl2
  have hB2 := bw_to hb1 hb2
  clear hrl2 hb1 hb2
  by_cases hneg2 : r2 < 0
  · go_wp2_with fail
    go_ret
    exact ⟨rfl, bw_to hw hB2⟩
  have Sk := Lib.hid (Hrl2.out (by omega))
  have Hto := Lib.hid (fun W hW => toMethod_agP m (.slice A m.l.length c) W (Hm.out.to (bw_to hw hW)) Sm.out)
  have Htk := Lib.hid (fun W => toCalls_any k W)
  obtain ⟨M, K, b, ok, hL, hi, hs⟩ := Hboth.out Sm.out Sk.out ht2
  have Hi := Lib.hid hi
  have Hs := Lib.hid hs
  have HL := Lib.hid hL
  unfold Mt.v Cl.v at *
  clear hi hs hL
  have hdr : Below wb.heap.size wb w2.drew := hB2.drew
  have hz2 : wb.heap.size ≤ w2.heap.size := hB2.size
  go_upto_region 10 with fail
  go_cut [10, 11] (fun s8 s9 wx => ∃ G Aa qa Ab qb, s8 = .pointer (some ⟨G, 0, none⟩) ∧ s9 = .bool ok ∧ Hid (ZAt wx wb.heap.size G M K b Aa qa Ab qb M.l b.rs) ∧ Hid (Below wb.heap.size wb wx))
  case first =>
    go_region_held3 (fun W => Below wb.heap.size wb W) (first | with_reducible assumption | with_reducible exact Below.drew (by assumption) | with_reducible exact hBn | with_reducible exact bw_al (by assumption) _ | with_reducible exact bw9 hBn (Below.size (by with_reducible assumption)) | with_reducible exact bw9 hBn (Nat.le_refl _) | with_reducible exact bw9 (bw_al hBn _) hBn.size | exact bw_al (Below.drew (Below.refl _ _)) _ | exact bw_al (by assumption) _ | exact bw9 hBn (by first | assumption | omega))
      (first | (go_at_call 9; refine (Hs.out _ _ ?_ ?_ ?_).mono ?_; (· first | exact tm | exact tm.to (bw_al (Below.refl _ _) _)); (· exact nilok_own om); (· exact HTB.out.to (by assumption)); rintro e w' ⟨Aa, qa, Ab, qb, rfl, oa, ob, hb'⟩; (have hBn := bw_to (by assumption : Below wb.heap.size wb _) hb'); (have hzb := hBn.size); (try ((first | (have kz := zin1D hb') | (have kz := zin1 hb') | (have kz := zin2 kbA hb')); (have kb := kz.1); (have hgl := kz.2); clear kz; (obtain ⟨⟨c0, c1, c2, c3, c4, c5, c6, c7, c8⟩, f0, f1, f2, f3, f4, f5, f6, f7, f8⟩ := Bc.all9 (bc_of kb))))) | (go_at_call 11; refine (Htk.out _).mono ?_; rintro e w' ⟨rfl, hb'⟩; (have hBn := bw_to (by assumption : Below wb.heap.size wb _) hb'); (try (first | (have tm := tm.to hb') | (have tm := (tm.to (bw_al (Below.refl _ _) _)).to hb'))); (try (first | (have kbA := box_inD hb') | (have kbA := box_in hb') | (have kbA := (hb'.block _ (blk_lt kbA)).trans kbA)))) | (go_at_call 10; refine (Hto.out _ (by assumption)).mono ?_; rintro e w' ⟨A1, c1, rfl, om, tm, hb'⟩; (have hBn := bw_to (by assumption : Below wb.heap.size wb _) hb'); (try (first | (have kbA := box_inD hb') | (have kbA := box_in hb') | (have kbA := (hb'.block _ (blk_lt kbA)).trans kbA)))))
    all_goals
      go_wp2_with fail
      go_meet
      refine ⟨_, Aa, qa, Ab, qb, rfl, rfl, Lib.hid ?_, Lib.hid (by with_reducible assumption)⟩
      first
        | (have kq := bc_of kb; refine zat_put kq hgl ?_ oa ob; first | with_reducible exact Below.size (by with_reducible assumption) | assumption | omega)
        | (refine zat_new ?_ hzb oa ob; with_reducible exact Below.size (by with_reducible assumption))

  obtain ⟨Gp, Ap, qp, Aq, qq, rfl, rfl, hp, hB3⟩ := hcut
  obtain ⟨w3, rfl⟩ : ∃ w3, w3 = wc := ⟨_, rfl⟩
  have HP3 := Lib.hid (LowZ.of hp.out)
  have hB3 := hB3.out
  have Hz3w := Lib.hid hB3.size
  clear hp hB2 hdr hz2
  go_wp2_with fail
  refine (Hto.out _ hB3).mono ?_; rintro e w4 ⟨Am, cm, rfl, q4, tm, hb4⟩
  have HQ4 := Lib.hid (show OwnS w4 w3.heap.size _ m.l from q4)
  have HP4 := Lib.hid (HP3.out.to hb4)
  have HB4 := Lib.hid (bw_to hB3 hb4)
  have hz34 := Lib.hid hb4.size
  go_upto_region 12 with fail
  refine box1 (C := fun W => Code.wp _ _ _ _ W) ?_
  intro w6 hw5 k5 hB05
  have X6 := Lib.hid (own_to (xbox_of (m := m) k5) (Below.refl _ _))
  have HB6 := Lib.hid (bw_to HB4.out hw5)
  have TM6 := Lib.hid (tm.to hw5)
  have HQ6 := Lib.hid (HQ4.out.to hw5)
  have HP6 := Lib.hid (HP4.out.to hw5)
  have RB := boxRule k5
  have Hz5 := Lib.hid (show w4.heap.size < w6.heap.size by have := blk_lt k5; exact this)
  have HR0 := Lib.hid R0
  have HR1 := Lib.hid R1
  have R06 := fun W i (hb : Below w6.heap.size w6 W) => HR0.out W i (bw_to HB6.out hb)
  have R16 := fun W i (hb : Below w6.heap.size w6 W) => HR1.out W i (bw_to HB6.out hb)
  have hst6 : Below w6.heap.size w6 w6 := Below.refl _ _
  have hdr6 : Below w6.heap.size w6 w6.drew := Below.drew (Below.refl _ _)
  have hz6 : w6.heap.size ≤ w6.heap.size := Nat.le_refl _
  clear tm hb4 hw5 k5 R0 R1 hB3 hB0 q4
  go_upto_region 12 with fail
  go_cut [13, 14] (fun s8 s9 wx => ∃ G Aa qa Ab qb, s8 = .pointer (some ⟨G, 0, none⟩) ∧ s9 = .bool ok ∧ Hid (ZAt wx w6.heap.size G M K b Aa qa Ab qb M.l b.rs) ∧ Hid (Below w6.heap.size w6 wx))
  case first =>
    go_region_held3 (fun W => Below w6.heap.size w6 W) (first | with_reducible assumption | with_reducible exact Below.drew (by assumption) | with_reducible exact hBn | with_reducible exact bw_al (by assumption) _ | with_reducible exact bw9 hBn (Below.size (by with_reducible assumption)) | with_reducible exact bw9 hBn (Nat.le_refl _) | with_reducible exact bw9 (bw_al hBn _) hBn.size | exact bw_al (Below.drew (Below.refl _ _)) _ | exact bw_al (by assumption) _ | exact bw9 hBn (by first | assumption | omega))
      (first | (go_at_call 12; refine (Hi.out _ _ ?_ ?_ ?_).mono ?_; (· exact TM6.out.to (by assumption)); (· exact HQ6.out.nilok); (· exact HTB.out.to (bw_to HB6.out (by assumption))); rintro e w' ⟨Aa, qa, Ab, qb, rfl, oa, ob, hb'⟩; (have hBn := bw_to (by assumption : Below w6.heap.size w6 _) hb'); (have hzb := hBn.size); (try ((first | (have kz := zin1D hb') | (have kz := zin1 hb') | (have kz := zin2 kbA hb')); (have kb := kz.1); (have hgl := kz.2); clear kz; (obtain ⟨⟨c0, c1, c2, c3, c4, c5, c6, c7, c8⟩, f0, f1, f2, f3, f4, f5, f6, f7, f8⟩ := Bc.all9 (bc_of kb))))) | (go_at_call 11; refine (Htk.out _).mono ?_; rintro e w' ⟨rfl, hb'⟩; (have hBn := bw_to (by assumption : Below w6.heap.size w6 _) hb'); (try (first | (have tm := tm.to hb') | (have tm := (tm.to (bw_al (Below.refl _ _) _)).to hb'))); (try (first | (have kbA := box_inD hb') | (have kbA := box_in hb') | (have kbA := (hb'.block _ (blk_lt kbA)).trans kbA)))))
    all_goals
      go_wp2_with fail
      go_meet
      refine ⟨_, Aa, qa, Ab, qb, rfl, rfl, Lib.hid ?_, Lib.hid (by with_reducible assumption)⟩
      first
        | (have kq := bc_of kb; refine zat_put kq hgl ?_ oa ob; first | with_reducible exact Below.size (by with_reducible assumption) | assumption | omega)
        | (refine zat_new ?_ hzb oa ob; with_reducible exact Below.size (by with_reducible assumption))

  obtain ⟨Gg, Ag, qg, Ah, qh, rfl, rfl, hg, hB7⟩ := hcut
  obtain ⟨w7, rfl⟩ : ∃ w7, w7 = wc := ⟨_, rfl⟩
  have hB7 := hB7.out
  have HG7 := hg
  have HP7 := Lib.hid (HP6.out.to hB7)
  have HQ7 := Lib.hid (HQ6.out.to hB7)
  have X7 := Lib.hid (xbox_to X6.out hB7)
  have HB7 := Lib.hid (bw_to HB6.out hB7)
  have HS7 := Lib.hid hB7.size
  clear hg hB7 hst6 hdr6 hz6 RB R06 R16
  obtain ⟨y0, y1, y2, y3, y4, y5, y6, y7, y8⟩ := HG7.out.cells
  obtain ⟨z0, z1, z2, z3, z4, z5, z6, z7, z8⟩ := HP7.out.z.cells
  go_wp2_with fail
  refine (eqZ_ok HG7.out HP7.out.z).mono ?_; rintro e w8 ⟨rfl, hb8⟩
  clear y0 y1 y2 y3 y4 y5 y6 y7 y8 z0 z1 z2 z3 z4 z5 z6 z7 z8
  have X8 := Lib.hid (xbox_to X7.out hb8)
  have RB7 := fun W (hb : Below w8.heap.size w8 W) => xbox_c (xbox_to X8.out hb)
  have R07 := fun W i (hb : Below w8.heap.size w8 W) => HR0.out W i (bw_to (bw_to HB7.out hb8) hb)
  have HB8 := Lib.hid (bw_to HB7.out hb8)
  have HS8 := Lib.hid (Nat.le_trans HS7.out hb8.size)
  have HQ8 := Lib.hid (HQ7.out.to hb8)
  have HG8 := Lib.hid (HG7.out.to hb8)
  have HP8 := Lib.hid (HP7.out.to hb8)
  have hst8 := Below.refl w8.heap.size w8
  have hd8 : Below w8.heap.size w8 w8.drew := Below.drew (Below.refl _ _)
  go_upto_region 15 with fail
  go_region_held3 (fun W => Below w8.heap.size w8 W) (first | with_reducible assumption | exact Below.drew (by assumption) | exact bw_to (by assumption) hb')
    (first | (go_at_call 14; refine (eqMethod_same m _ _ _ (OwnS.strs (HQ8.out.to (by assumption))) tm.1).mono ?_; rintro e w9 ⟨rfl, hb'⟩) | (go_at_call 10; refine (Hto.out _ (bw_to HB8.out (by assumption))).mono ?_; rintro e w' ⟨A1, c1, rfl, om, tm, hb'⟩))
  all_goals
    have hBB : Below w8.heap.size w8 w9 := by assumption
    have HQ11 := Lib.hid (HQ8.out.to hBB)
    have HG11 := Lib.hid (HG8.out.to hBB)
    have HP11 := Lib.hid (HP8.out.to hBB)
    have HB11 := Lib.hid (bw_to HB8.out hBB)
    have HS11 := Lib.hid (Nat.le_trans HS8.out hBB.size)
    have X11 := Lib.hid (xbox_c (xbox_to X8.out hBB))
    clear hd8 hst8 R07 hBB hb' RB7
    obtain ⟨w11, hw11⟩ : ∃ w11, w11 = w9 := ⟨_, rfl⟩
    subst hw11
    have hXc := X11.out
    obtain ⟨xc0, xc1, xc2⟩ := hXc
    go_wp2_with fail
    refine (markMethod_any m _ m.l.length 1 _ _ _ HQ11.out (by have := Sm.out.2.1; omega) (by omega)).mono ?_; rintro e w12 ⟨k12, rfl, hk12, q12, hg12⟩
    have hxx : w3.heap.size ≤ w11.heap.size := Nat.le_trans (Nat.le_trans hz34.out (Nat.le_of_lt Hz5.out)) HS11.out
    have hbd := Lib.hid (HQ11.out.row HQ4.out hxx hg12)
    have HP12 := Lib.hid (HP11.out.low hbd.out (Nat.le_refl _))
    have HG12 := Lib.hid (HG11.out.kept hg12 (fun k e => Nat.lt_trans (HQ4.out.lt k e).2 Hz5.out))
    have HB12 := Lib.hid (HB11.out.trans (hbd.out.mono Hz3w.out))
    have Hz12 := Lib.hid hg12.size
    clear hg12 q12 xc0 xc1 xc2 hxx
    subst hk12
    have hk0 : ¬ ((1 + m.l.length : Nat) : Int) < 0 := by omega
    obtain ⟨y0, y1, y2, y3, y4, y5, y6, y7, y8⟩ := HG12.out.cells
    obtain ⟨z0, z1, z2, z3, z4, z5, z6, z7, z8⟩ := HP12.out.z.cells
    go_wp2_with fail
    refine (eqZ_ok HG12.out HP12.out.z).mono ?_; rintro e w14 ⟨rfl, hb14⟩
    clear y0 y1 y2 y3 y4 y5 y6 y7 y8 z0 z1 z2 z3 z4 z5 z6 z7 z8
    have HG14 := Lib.hid (HG12.out.to hb14)
    have HP14 := Lib.hid (HP12.out.to hb14)
    have HB14 := Lib.hid (bw_to HB12.out hb14)
    have Hw6 := Lib.hid (Nat.le_trans (Nat.le_trans HS11.out Hz12.out) hb14.size)
    clear hb14 hk0
    obtain ⟨y0, y1, y2, y3, y4, y5, y6, y7, y8⟩ := HG14.out.cells
    go_wp2_with fail
    refine (markZ_ok HG14.out HL.out.1 HL.out.2 Hw6.out).mono ?_; rintro e w15 ⟨N, rfl, hN, g15, hbm⟩
    clear y0 y1 y2 y3 y4 y5 y6 y7 y8
    have HG15 := Lib.hid g15
    have HP15 := Lib.hid (HP14.out.low hbm (Nat.le_trans hz34.out (Nat.le_of_lt Hz5.out)))
    have HB15 := Lib.hid (HB14.out.trans (hbm.mono HB6.out.size))
    clear g15 hbm
    have HN := Lib.hid hN
    have hN0 : ¬ N < 0 := by omega
    clear hN
    obtain ⟨y0, y1, y2, y3, y4, y5, y6, y7, y8⟩ := HG15.out.cells
    go_wp2_with fail
    refine (heldZ_ok HG15.out HL.out.1 HL.out.2).mono ?_; rintro e w16 ⟨N2, rfl, hN2, hb16⟩
    have hN2 : N2 = N := hN2.trans HN.out.symm
    subst hN2
    clear y0 y1 y2 y3 y4 y5 y6 y7 y8
    have HB16 := Lib.hid (bw_to HB15.out hb16)
    have HP16 := Lib.hid (HP15.out.to hb16)
    have HG16 := Lib.hid (HG15.out.to hb16)
    have R06 := fun W i (hb : Below w16.heap.size w16 W) => HR0.out W i (bw_to HB16.out hb)
    have R16 := fun W i (hb : Below w16.heap.size w16 W) => HR1.out W i (bw_to HB16.out hb)
    have hst16 : Below w16.heap.size w16 w16 := Below.refl _ _
    have hd16 : Below w16.heap.size w16 w16.drew := Below.drew (Below.refl _ _)
    have hz16 : w16.heap.size ≤ w16.heap.size := Nat.le_refl _
    clear hb16
    go_upto_region 29 with fail
    go_cut [18, 19] (fun s8 s9 wx => ∃ G Aa qa Ab qb, s8 = .pointer (some ⟨G, 0, none⟩) ∧ s9 = .bool ok ∧ Hid (ZAt wx w16.heap.size G M K b Aa qa Ab qb M.l b.rs) ∧ Hid (Below w16.heap.size w16 wx))
    case first =>
      go_region_held3 (fun W => Below w16.heap.size w16 W) (first | with_reducible assumption | with_reducible exact Below.drew (by assumption) | with_reducible exact hBn | with_reducible exact bw_al (by assumption) _ | with_reducible exact bw9 hBn (Below.size (by with_reducible assumption)) | with_reducible exact bw9 hBn (Nat.le_refl _) | with_reducible exact bw9 (bw_al hBn _) hBn.size | exact bw_al (Below.drew (Below.refl _ _)) _ | exact bw_al (by assumption) _ | exact bw9 hBn (by first | assumption | omega))
        (first | (go_at_call 12; refine (Hi.out _ _ ?_ ?_ ?_).mono ?_; (· first | exact tm | exact tm.to (bw_al (Below.refl _ _) _)); (· exact nilok_own om); (· exact HTB.out.to (bw_to HB16.out (by assumption))); rintro e w' ⟨Aa, qa, Ab, qb, rfl, oa, ob, hb'⟩; (have hBn := bw_to (by assumption : Below w16.heap.size w16 _) hb'); (have hzb := hBn.size); (try ((first | (have kz := zin1D hb') | (have kz := zin1 hb') | (have kz := zin2 kbA hb')); (have kb := kz.1); (have hgl := kz.2); clear kz; (obtain ⟨⟨c0, c1, c2, c3, c4, c5, c6, c7, c8⟩, f0, f1, f2, f3, f4, f5, f6, f7, f8⟩ := Bc.all9 (bc_of kb))))) | (go_at_call 11; refine (Htk.out _).mono ?_; rintro e w' ⟨rfl, hb'⟩; (have hBn := bw_to (by assumption : Below w16.heap.size w16 _) hb'); (try (first | (have tm := tm.to hb') | (have tm := (tm.to (bw_al (Below.refl _ _) _)).to hb'))); (try (first | (have kbA := box_inD hb') | (have kbA := box_in hb') | (have kbA := (hb'.block _ (blk_lt kbA)).trans kbA)))) | (go_at_call 10; refine (Hto.out _ (bw_to HB16.out (by assumption))).mono ?_; rintro e w' ⟨A1, c1, rfl, om, tm, hb'⟩; (have hBn := bw_to (by assumption : Below w16.heap.size w16 _) hb'); (try (first | (have kbA := box_inD hb') | (have kbA := box_in hb') | (have kbA := (hb'.block _ (blk_lt kbA)).trans kbA)))))
      all_goals
        go_wp2_with fail
        go_meet
        refine ⟨_, Aa, qa, Ab, qb, rfl, rfl, Lib.hid ?_, Lib.hid (by with_reducible assumption)⟩
        first
          | (have kq := bc_of kb; refine zat_put kq hgl ?_ oa ob; first | with_reducible exact Below.size (by with_reducible assumption) | assumption | omega)
          | (refine zat_new ?_ hzb oa ob; with_reducible exact Below.size (by with_reducible assumption))

    obtain ⟨Gh, Ax, qx, Ay, qy, rfl, rfl, hh, hB17⟩ := hcut
    have hB17 := hB17.out
    have HH17 := hh
    have HP17 := Lib.hid (HP16.out.to hB17)
    have HG17 := Lib.hid (HG16.out.to hB17)
    have HB17 := Lib.hid (bw_to HB16.out hB17)
    clear hh hB17 hst16 hd16 hz16 R06 R16
    obtain ⟨y0, y1, y2, y3, y4, y5, y6, y7, y8⟩ := HH17.out.cells
    obtain ⟨z0, z1, z2, z3, z4, z5, z6, z7, z8⟩ := HP17.out.z.cells
    go_wp2_with fail
    refine (eqZ_ok HH17.out HP17.out.z).mono ?_; rintro e w18 ⟨rfl, hb18⟩
    clear y0 y1 y2 y3 y4 y5 y6 y7 y8 z0 z1 z2 z3 z4 z5 z6 z7 z8
    have HG18 := Lib.hid (HG17.out.to hb18)
    have HB18 := Lib.hid (bw_to HB17.out hb18)
    clear hb18
    obtain ⟨y0, y1, y2, y3, y4, y5, y6, y7, y8⟩ := HG18.out.cells
    go_wp2_with fail
    refine (heldZ_ok HG18.out HL.out.1 HL.out.2).mono ?_; rintro e w19 ⟨N3, rfl, hN3, hb19⟩
    have hN3 : N3 = N2 := hN3.trans HN.out.symm
    subst hN3
    go_wp2_with fail
    go_ret
    exact ⟨rfl, bw_to hw (bw_to HB18.out hb19)⟩
end Go.Proofs.YtimeecimaokldaaGreatDoor

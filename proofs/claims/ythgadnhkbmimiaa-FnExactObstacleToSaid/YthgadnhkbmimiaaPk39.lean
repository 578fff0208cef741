/- The law ObstacleTo. -/
import Derived.Test.YthgadnhkbmimiaaPk37
import Derived.Test.YthgadnhkbmimiaaPk38
namespace Go.Proofs.Ythgadnhkbmimiaa
open Go Go.RowKit
set_option linter.unusedVariables false
set_option linter.unusedSimpArgs false

set_option maxHeartbeats 1000000 in
theorem eqObstacle_same (x y z : Int) (w : World) : Calls Try.prog 26 #[.agg #[.int .i64 x, .int .i64 y, .int .i64 z], .agg #[.int .i64 x, .int .i64 y, .int .i64 z]] w fun e w' => e = .returned (.bool true) ∧ Below w.heap.size w w' := by
  go_enter Try.func26, Try.ntmps26
  go_wp2_with fail
  go_ret
  exact ⟨rfl, bw_al (bw_al (Below.refl _ _) _) _⟩
theorem obst_both (m : Mt) (k : Cl) (hs : MtSmall m) (hk : ClSmall k) : ∃ (y : Int × Int × Int) (s b : Bool), (∀ v W, MethAt W m v → Calls Try.prog 25 #[m.v v, k.v] W fun e w' => e = .returned (.tuple #[.agg #[.int .i64 y.1, .int .i64 y.2.1, .int .i64 y.2.2], .bool s, .bool b]) ∧ Below W.heap.size W w') ∧ (∀ v W, MethAt W m v → Calls Try.prog 24 #[m.v v, k.v] W fun e w' => e = .returned (.tuple #[.agg #[.int .i64 y.1, .int .i64 y.2.1, .int .i64 y.2.2], .bool s, .bool b]) ∧ Below W.heap.size W w') := by
  rcases blk_cases m k with hb | ⟨n, T, P, B, B', Q, hK, hF⟩
  · exact ⟨(0, 0, 0), false, false, fun v W h => implObstacleTo_no m v k W (fun W' hW => obstacleTo_no m v k W' hb (h.to hW) hs hk) h.form, fun v W h => specObstacleTo_no m v k W hb h hs hk⟩
  · obtain ⟨RR, K, hX⟩ := cx_of hK hF (bobs := []) (by intro x hx; cases hx)
    exact ⟨(_, _, _), _, _, fun v W h => implObstacleTo_yes m v k _ _ _ W (fun W' hW => obstacleTo_yes m v k n T P B B' Q RR K W' hK hF hX (h.to hW) hs hk) h.form, fun v W h => specObstacleTo_yes m v k n T P B B' Q RR K W hK hF hX h hs hk⟩
/-- A box of an obstacle of the call's own. -/
def OBox (w : World) (base G : Nat) (y : Int × Int × Int) : Prop := w.ownsRow base 46 3 (.slice (some ⟨G, 0, none⟩) 1 1) 1 [.int .i64 y.1, .int .i64 y.2.1, .int .i64 y.2.2]
theorem box_inD {X w' : World} {o : Obj} (hb : Below (X.alloc o).drew.heap.size (X.alloc o).drew w') : w'.heap[X.heap.size]? = some o := (hb.block _ (show X.heap.size < (X.alloc o).heap.size by simp)).trans (heap_new X o)
theorem obox_al {W : World} {base : Nat} {y : Int × Int × Int} (hb : base ≤ W.heap.size) : OBox (W.alloc (.cells #[.int .i64 y.1, .int .i64 y.2.1, .int .i64 y.2.2] 46)) base W.heap.size y :=
  own_of_heap (heap_new _ _) hb (by unfold maxLen; omega) rfl
theorem obox_set {W : World} {base G : Nat} {y : Int × Int × Int} {x0 x1 x2 : Value} (hk : W.heap[G]? = some (.cells #[x0, x1, x2] 46 (0, 0))) (hG : base ≤ G) :
    OBox (((W.setCell ⟨G, 0, none⟩ (.int .i64 y.1)).setCell ⟨G, 1, none⟩ (.int .i64 y.2.1)).setCell ⟨G, 2, none⟩ (.int .i64 y.2.2)) base G y := by
  have hbox : W.ownsRow base 46 3 (.slice (some ⟨G, 0, none⟩) 1 1) 1 [x0, x1, x2] := own_of_heap hk hG (by unfold maxLen; omega) rfl
  exact own_set (own_set (own_set hbox 0 _) 1 _) 2 _
theorem obox_cells {w W : World} {base G : Nat} {y : Int × Int × Int} (h : OBox w base G y) (hb : Below w.heap.size w W) :
    W.cell? ⟨G, 0, none⟩ = some (.int .i64 y.1) ∧ W.cell? ⟨G, 1, none⟩ = some (.int .i64 y.2.1) ∧ W.cell? ⟨G, 2, none⟩ = some (.int .i64 y.2.2) := by
  have h := own_to h hb
  exact ⟨(h.cellAt 0 (by omega)).trans rfl, (h.cellAt 1 (by omega)).trans rfl, (h.cellAt 2 (by omega)).trans rfl⟩
set_option maxRecDepth 100000 in
set_option maxHeartbeats 4000000 in
theorem lawObstacleTo_any (m : Mt) (v : Value) (k : Cl) (w : World) (hm : MethAt w m v) (hk : ClFit k) : Calls Try.prog 6 #[m.v v, k.v] w fun e w' => e = .returned (.bool true) ∧ Below w.heap.size w w' := by
  have Hm := Lib.hid hm
  have Hk := Lib.hid hk
  obtain ⟨A, c, hv⟩ := hm.form
  subst hv
  clear hm hk
  unfold Mt.v Cl.v
  go_enter Try.func6, Try.ntmps6
  go_wp2_with fail
  refine box2 (C := fun W => Calls _ _ _ W _) ?_
  intro wb hw k1 k2 hB0
  have R1 := boxRule k1
  have R2 := boxRule k2
  clear k1 k2
  have Hz1 := Lib.hid (fun W hW => szMethod_any m (.slice A m.l.length c) 1048576 W (Hm.out.to (bw_to hw hW)) (by omega) (by omega))
  have Hz2 := Lib.hid (fun k0 W => szCalls_any k k0 W Hk.out)
  unfold Mt.v Cl.v at *
  refine (Hz1.out _ hB0).mono ?_; rintro e w1 ⟨r, rfl, hr0, hr1, hrl, hb1⟩
  have Hrl := Lib.hid hrl
  clear hrl
  by_cases hneg : r < 0
  · go_wp2_with fail
    go_ret
    exact ⟨rfl, bw_to hw hb1⟩
  · have Sm := Lib.hid (Hrl.out (by omega))
    go_wp2_with fail
    refine (Hz2.out r _ (by omega) hr1).mono ?_; rintro e w2 ⟨r2, rfl, hr20, hr21, hrl2, hb2⟩
    have Hrl2 := Lib.hid hrl2
    have hB2 := bw_to hb1 hb2
    clear hrl2 hb1 hb2
    by_cases hneg2 : r2 < 0
    · go_wp2_with fail
      go_ret
      exact ⟨rfl, bw_to hw hB2⟩
    · have Sk := Lib.hid (Hrl2.out (by omega))
      have Hto := Lib.hid (fun W hW => toMethod_agK m (.slice A m.l.length c) W (Hm.out.to (bw_to hw hW)) Sm.out)
      have Htk := Lib.hid (fun W => toCalls_any k W)
      obtain ⟨y, s, b, hi, hs⟩ := obst_both m k Sm.out Sk.out
      have Heq := Lib.hid (fun W => eqObstacle_same y.1 y.2.1 y.2.2 W)
      have Hi := Lib.hid hi
      have Hs := Lib.hid hs
      unfold Mt.v Cl.v at *
      clear hi hs
      have hdr : Below wb.heap.size wb w2.drew := hB2.drew
      go_upto_region 8 with fail
      go_cut [6, 7, 8] (fun s6 s7 s8 wx => ∃ G, s6 = .pointer (some ⟨G, 0, none⟩) ∧ s7 = .bool s ∧ s8 = .bool b ∧ OBox wx wb.heap.size G y ∧ Below wb.heap.size wb wx)
      case first =>
        go_region_held3 (fun W => Below wb.heap.size wb W) (first | with_reducible assumption | exact Below.drew (by assumption) | exact bw_to (by assumption) hb' | exact bw_al (by assumption) _ | exact set3_low (by assumption) (Below.size (by assumption)))
          (first | (go_at_call 24; refine (Hs.out _ _ ?_).mono ?_; (· first | exact tm | exact tm.to (bw_al (Below.refl _ _) _)); rintro e w' ⟨rfl, hb'⟩; (have hBn := bw_to (by assumption : Below wb.heap.size wb _) hb'); (try ((first | have kb := box_in hb' | have kb := box_inD hb' | have kb := (hb'.block _ (blk_lt kb)).trans kb); have c0 := heap_cell kb 0; have c1 := heap_cell kb 1; have c2 := heap_cell kb 2; have f0 := frozen_of_heap kb 0 (Below.refl _ _); have f1 := frozen_of_heap kb 1 (Below.refl _ _); have f2 := frozen_of_heap kb 2 (Below.refl _ _)))) | (go_at_call 12; refine (Htk.out _).mono ?_; rintro e w' ⟨rfl, hb'⟩; (have hBn := bw_to (by assumption : Below wb.heap.size wb _) hb'); (try (first | have tm := tm.to hb' | have tm := tm.to (bw_to (bw_al (Below.refl _ _) _) hb'))); (try (first | have kb := box_in hb' | have kb := box_inD hb' | have kb := (hb'.block _ (blk_lt kb)).trans kb))) | (go_at_call 11; refine (Hto.out _ (by assumption)).mono ?_; rintro e w' ⟨A1, c1, rfl, tm, hb'⟩; (have hBn := bw_to (by assumption : Below wb.heap.size wb _) hb'); (try (first | have kb := box_in hb' | have kb := box_inD hb' | have kb := (hb'.block _ (blk_lt kb)).trans kb))))
        all_goals
          have hBB : Below wb.heap.size wb w' := by assumption
          go_wp2_with fail
          go_meet
          refine ⟨_, rfl, rfl, rfl, ?_, ?_⟩
          · first
              | exact obox_al hBB.size
              | (refine obox_set kb ?_; refine Below.size (B := wb.heap.size) ?_; assumption)
          · first
              | exact bw_al hBB _
              | (refine set3_low hBB ?_; refine Below.size (B := wb.heap.size) ?_; assumption)
      case rest =>
        obtain ⟨G, rfl, rfl, rfl, hI, hB3⟩ := hcut
        clear hB2 hdr
        have HI := Lib.hid hI
        clear hI
        go_wp2_with fail
        refine (Hto.out _ hB3).mono ?_; rintro e w4 ⟨A1, c1, rfl, tm, hb4⟩
        go_upto_region 10 with fail
        refine box1 (C := fun W => Code.wp _ _ _ _ W) ?_
        intro w5 hw5 k5 hB05
        have RB := boxRule k5
        have hB5 := bw_to hB3 (bw_to hb4 hw5)
        have I5 := Lib.hid (own_to HI.out (bw_to hb4 hw5))
        have T5 := Lib.hid (tm.to hw5)
        have R15 := fun W i hb => R1 W i (bw_to hB5 hb)
        have R25 := fun W i hb => R2 W i (bw_to hB5 hb)
        have HR1 := Lib.hid R1
        have HR2 := Lib.hid R2
        have HB5 := Lib.hid hB5
        have hdr5 : Below w5.heap.size w5 w5.drew := Below.drew (Below.refl _ _)
        clear tm hb4 hw5 k5 R1 R2 hB3 HI hB0
        go_cut [10, 11, 12] (fun s10 s11 s12 wx => ∃ G2, s10 = .pointer (some ⟨G2, 0, none⟩) ∧ s11 = .bool s ∧ s12 = .bool b ∧ OBox wx w5.heap.size G2 y ∧ Below w5.heap.size w5 wx)
        case first =>
          go_region_held3 (fun W => Below w5.heap.size w5 W) (first | with_reducible assumption | exact Below.drew (by assumption) | exact bw_to (by assumption) hb' | exact bw_al (by assumption) _ | exact set3_low (by assumption) (Below.size (by assumption)))
            (first | (go_at_call 25; refine (Hi.out _ _ ?_).mono ?_; (· exact T5.out.to (by assumption)); rintro e w' ⟨rfl, hb'⟩; (have hBn := bw_to (by assumption : Below w5.heap.size w5 _) hb'); (try ((first | have kb := box_in hb' | have kb := box_inD hb' | have kb := (hb'.block _ (blk_lt kb)).trans kb); have c0 := heap_cell kb 0; have c1 := heap_cell kb 1; have c2 := heap_cell kb 2; have f0 := frozen_of_heap kb 0 (Below.refl _ _); have f1 := frozen_of_heap kb 1 (Below.refl _ _); have f2 := frozen_of_heap kb 2 (Below.refl _ _)))) | (go_at_call 12; refine (Htk.out _).mono ?_; rintro e w' ⟨rfl, hb'⟩; (have hBn := bw_to (by assumption : Below w5.heap.size w5 _) hb'); (try (first | have kb := box_in hb' | have kb := box_inD hb' | have kb := (hb'.block _ (blk_lt kb)).trans kb))))
          all_goals
            have hBB : Below w5.heap.size w5 w' := by assumption
            go_wp2_with fail
            go_meet
            refine ⟨_, rfl, rfl, rfl, ?_, ?_⟩
            · first
                | exact obox_al hBB.size
                | (refine obox_set kb ?_; refine Below.size (B := w5.heap.size) ?_; assumption)
            · first
                | exact bw_al hBB _
                | (refine set3_low hBB ?_; refine Below.size (B := w5.heap.size) ?_; assumption)
        case rest =>
          obtain ⟨G2, rfl, rfl, rfl, hI2, hB6⟩ := hcut
          obtain ⟨a0, a1, a2⟩ := obox_cells hI2 (Below.refl _ _)
          obtain ⟨b0, b1, b2⟩ := obox_cells I5.out hB6
          have hBw6 := bw_to HB5.out hB6
          clear hI2 hdr5
          go_wp2_with (go_at_call 26; refine (Heq.out _).mono ?_; rintro e w7 ⟨rfl, hb7⟩)
          have hB7 := bw_to hB6 hb7
          have hBw7 := bw_to HB5.out hB7
          have hst := Below.refl w7.heap.size w7
          have hd7 : Below w7.heap.size w7 w7.drew := Below.drew hst
          have RB7 := fun W i hb => RB W i (bw_to hB7 hb)
          have R17 := fun W i hb => R15 W i (bw_to hB7 hb)
          have R27 := fun W i hb => R25 W i (bw_to hB7 hb)
          clear a0 a1 a2 b0 b1 b2 RB R15 R25 hB6 hBw6
          go_region_held3 (fun W => Below w7.heap.size w7 W) (first | with_reducible assumption | exact Below.drew (by assumption) | exact bw_to (by assumption) hb')
            (first | (go_at_call 14; refine (eqMethod_same m _ _ _ (Strs.to T5.out.1 (bw_to hB7 (by assumption))) tm.1).mono ?_; rintro e w' ⟨rfl, hb'⟩) | (go_at_call 11; refine (Hto.out _ (bw_to hBw7 (by assumption))).mono ?_; rintro e w' ⟨A1, c1, rfl, tm, hb'⟩))
          all_goals
            have hBB : Below w7.heap.size w7 w' := by assumption
            go_wp2_with fail
            go_ret
            exact ⟨rfl, bw_to hw (bw_to hBw7 hBB)⟩
end Go.Proofs.Ythgadnhkbmimiaa

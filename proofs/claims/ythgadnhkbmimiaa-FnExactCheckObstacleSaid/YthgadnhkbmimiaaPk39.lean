/- CheckObstacle on both sides. -/
import Derived.Test.YthgadnhkbmimiaaPk37
import Derived.Laws.StructEq
import Derived.Test.YthgadnhkbmimiaaPk38
namespace Go.Proofs.Ythgadnhkbmimiaa
open Go Go.RowKit
set_option linter.unusedVariables false
set_option linter.unusedSimpArgs false

def chkB (x y z a b c : Int) : Bool := (x == a && (y == b && z == c)) && provB y z
set_option maxHeartbeats 4000000 in
theorem implCheck_yes (m : Mt) (v : Value) (k : Cl) (x y z a b c : Int) (w : World) (hO : ∀ W, Below w.heap.size w W → Calls Try.prog 60 #[m.v v, k.v] W fun e w' => e = .returned (.tuple #[.agg #[.int .i64 a, .int .i64 b, .int .i64 c], .bool true]) ∧ Below W.heap.size W w') (hf : ∃ A c, v = .slice A m.l.length c) :
    Calls Try.prog 23 #[m.v v, k.v, .agg #[.int .i64 x, .int .i64 y, .int .i64 z]] w fun e w' => e = .returned (.tuple #[.bool (chkB x y z a b c), .bool true]) ∧ Below w.heap.size w w' := by
  have HO := Lib.hid hO
  have HD : Hid (chkB x y z a b c = ((x == a && (y == b && z == c)) && provB y z)) := Lib.hid rfl
  obtain ⟨A, q, hv⟩ := hf
  subst hv
  unfold Mt.v Cl.v at *
  clear hO
  go_enter Try.func23, Try.ntmps23
  go_wp2_with fail
  refine box3s (C := fun W => Calls _ _ _ W _) ?_
  intro wb hw hwsz k1 k2 k3 hB0
  have R3 := boxRule k3
  clear k1 k2 k3
  refine (HO.out _ hw).mono ?_; rintro e w1 ⟨rfl, hb1⟩
  have hB1 := bw_al hb1 (.cells #[.int .i64 a, .int .i64 b, .int .i64 c] 46)
  have r0 := R3 _ 0 hB1
  have r1 := R3 _ 1 hB1
  have r2 := R3 _ 2 hB1
  have Hend := Lib.hid (bw_to hw hB1)
  have Hpr := Lib.hid (proves_any x y z)
  by_cases hx : x = a
  case neg =>
    have hx' : (x == a) = false := by simpa using hx
    rw [hx', Bool.false_and, Bool.false_and] at HD
    go_wp2_with fail
    go_ret2
    exact ⟨by rw [HD.out]; rfl, Hend.out⟩
  subst hx
  by_cases hy : y = b
  case neg =>
    have hy' : (y == b) = false := by simpa using hy
    rw [hy', Bool.false_and, Bool.and_false, Bool.false_and] at HD
    go_wp2_with fail
    go_ret2
    exact ⟨by rw [HD.out]; rfl, Hend.out⟩
  subst hy
  by_cases hz : z = c
  case neg =>
    have hz' : (z == c) = false := by simpa using hz
    rw [hz', Bool.and_false, Bool.and_false, Bool.false_and] at HD
    go_wp2_with fail
    go_ret2
    exact ⟨by rw [HD.out]; rfl, Hend.out⟩
  subst hz
  rw [beq_self_eq_true, beq_self_eq_true, beq_self_eq_true, Bool.true_and, Bool.true_and, Bool.true_and] at HD
  go_wp2_with fail
  refine (Hpr.out _).mono ?_; rintro e w2 ⟨rfl, hb2⟩
  go_wp2_with fail
  go_ret2
  exact ⟨by rw [HD.out]; rfl, bw_to Hend.out hb2⟩
set_option maxHeartbeats 4000000 in
theorem implCheck_no (m : Mt) (v : Value) (k : Cl) (x y z a b c : Int) (w : World) (hO : ∀ W, Below w.heap.size w W → Calls Try.prog 60 #[m.v v, k.v] W fun e w' => e = .returned (.tuple #[.agg #[.int .i64 a, .int .i64 b, .int .i64 c], .bool false]) ∧ Below W.heap.size W w') (hf : ∃ A c, v = .slice A m.l.length c) :
    Calls Try.prog 23 #[m.v v, k.v, .agg #[.int .i64 x, .int .i64 y, .int .i64 z]] w fun e w' => e = .returned (.tuple #[.bool false, .bool false]) ∧ Below w.heap.size w w' := by
  have HO := Lib.hid hO
  obtain ⟨A, q, hv⟩ := hf
  subst hv
  unfold Mt.v Cl.v at *
  clear hO
  go_enter Try.func23, Try.ntmps23
  go_wp2_with fail
  refine box3s (C := fun W => Calls _ _ _ W _) ?_
  intro wb hw hwsz k1 k2 k3 hB0
  clear k1 k2 k3
  refine (HO.out _ hw).mono ?_; rintro e w1 ⟨rfl, hb1⟩
  have hB1 := bw_al hb1 (.cells #[.int .i64 a, .int .i64 b, .int .i64 c] 46)
  have Hend := Lib.hid (bw_to hw hB1)
  go_wp2_with fail
  go_ret2
  exact ⟨rfl, Hend.out⟩
set_option maxRecDepth 100000 in
set_option maxHeartbeats 4000000 in
theorem specCheck_yes (m : Mt) (v : Value) (k : Cl) (n T : Nat) (P B B' Q : ByteArray) (RR : ByteArray → Nat) (K : Nat) (x y z : Int) (w : World) (hK : BK m k n T P B B' Q) (hF : (cloB n [P, B] T).length ≤ 130) (hX : CX n P B Q [] (sortB (cloB n [P, B] T)) RR K) (h : MethAt w m v) (hs : MtSmall m) (hk : ClSmall k) :
    Calls Try.prog 21 #[m.v v, k.v, .agg #[.int .i64 x, .int .i64 y, .int .i64 z]] w fun e w' => e = .returned (.tuple #[.bool (chkB x y z ((sortB (cloB n [P, B] T)).length : Int) (ringN P B [] (sortB (cloB n [P, B] T)) RR : Int) (K : Int)), .bool true]) ∧ Below w.heap.size w w' := by
  have Hnb := Lib.hid (fun W (hW : Below w.heap.size w W) => l17Of_yes m v k n T P B B' Q W hK (h.to hW) hs hk)
  rw [grp8_yes (Nat.le_trans hF (by omega)), decide_eq_true hF] at Hnb
  obtain ⟨G, hG⟩ : ∃ G, G = sortB (cloB n [P, B] T) := ⟨_, rfl⟩
  rw [← hG] at Hnb hX ⊢
  have Hob := Lib.hid (fun gv W (hGv : Strs W gv G) => obstacleS_any n P B Q G RR K gv W hX hGv)
  obtain ⟨N, hN⟩ : ∃ N, N = ringN P B [] G RR := ⟨_, rfl⟩
  rw [← hN] at Hob ⊢
  obtain ⟨a, ha⟩ : ∃ a : Int, a = (G.length : Int) := ⟨_, rfl⟩
  obtain ⟨b, hb⟩ : ∃ a : Int, a = (N : Int) := ⟨_, rfl⟩
  obtain ⟨c, hc⟩ : ∃ a : Int, a = (K : Int) := ⟨_, rfl⟩
  rw [← ha, ← hb, ← hc] at Hob ⊢
  have HD : Hid (chkB x y z a b c = ((x == a && (y == b && z == c)) && provB y z)) := Lib.hid rfl
  have Hpr := Lib.hid (fun W => l18Blocks_any x y z W)
  obtain ⟨A, q, hv⟩ := h.form
  subst hv
  unfold Mt.v Cl.v at *
  clear h hK hG hF hN ha hb hc hX
  go_enter Try.func21, Try.ntmps21
  go_wp2_with fail
  refine box3s (C := fun W => Calls _ _ _ W _) ?_
  intro wb hw hwsz k1 k2 k3 hB0
  have R3 := fun i W hW => boxRule k3 W i hW
  clear k1 k2 k3
  refine (Hnb.out _ hw).mono ?_; rintro e w1 ⟨A1, q1, rfl, hown1, hb1⟩
  go_upto_region 4 with fail
  refine box1 (C := fun W => Code.wp _ _ _ _ W) ?_
  intro w2 hw2 k4 hB2
  have hb2 := bw_to hb1 hw2
  have hS2 : Strs w2 (.slice A1 G.length q1) G := (strs_of_own hown1).to hw2
  have R4 := fun i W hW => boxRule k4 W i hW
  have r3 := fun i W (hW : Below w2.heap.size w2 W) => R3 i W (bw_to hb2 hW)
  have hst : Below w2.heap.size w2 w2 := Below.refl _ _
  have hdr : Below w2.heap.size w2 w2.drew := Below.drew (Below.refl _ _)
  have Hob2 := Lib.hid (fun W (hW : Below w2.heap.size w2 W) => Hob.out _ W (hS2.to hW))
  have Hend := Lib.hid (bw_to hw hb2)
  clear hown1 R3 hS2 k4
  have e0 : ∀ u : Aft w2, u.w.cell? ⟨w.heap.size + 1 + 1, 0, none⟩ = some (.int .i64 x) := fun u => r3 0 u.w u.h
  have e1 : ∀ u : Aft w2, u.w.cell? ⟨w.heap.size + 1 + 1, 1, none⟩ = some (.int .i64 y) := fun u => r3 1 u.w u.h
  have e2 : ∀ u : Aft w2, u.w.cell? ⟨w.heap.size + 1 + 1, 2, none⟩ = some (.int .i64 z) := fun u => r3 2 u.w u.h
  have d0 : ∀ u : Aft w2, u.w.cell? ⟨w1.heap.size, 0, none⟩ = some (.string P) := fun u => R4 0 u.w u.h
  have d1 : ∀ u : Aft w2, u.w.cell? ⟨w1.heap.size, 1, none⟩ = some (.string B) := fun u => R4 1 u.w u.h
  have d2 : ∀ u : Aft w2, u.w.cell? ⟨w1.heap.size, 2, none⟩ = some (.string Q) := fun u => R4 2 u.w u.h
  have d3 : ∀ u : Aft w2, u.w.cell? ⟨w1.heap.size, 3, none⟩ = some (.slice A1 G.length q1) := fun u => R4 3 u.w u.h
  by_cases hx : x = a
  case neg =>
    have hx' : (x == a) = false := by simpa using hx
    rw [hx', Bool.false_and, Bool.false_and] at HD
    refine wp_region_aft (wb := w2) (by kernel_rfl) (by kernel_rfl) hst ?_
    repeat (go_big_quiet_step ((go_at_call 48; exact calls_aft fun w hw => Hob2.out w hw)))
    refine wpQuiet_nil ?_
    rintro _ ⟨⟨w3, hB3⟩, rfl⟩
    go_wp2_with fail
    go_ret2
    exact ⟨by rw [HD.out]; rfl, bw_to Hend.out hB3⟩
  subst hx
  by_cases hy : y = b
  case neg =>
    have hy' : (y == b) = false := by simpa using hy
    rw [hy', Bool.false_and, Bool.and_false, Bool.false_and] at HD
    refine wp_region_aft (wb := w2) (by kernel_rfl) (by kernel_rfl) hst ?_
    repeat (go_big_quiet_step ((go_at_call 48; exact calls_aft fun w hw => Hob2.out w hw)))
    refine wpQuiet_nil ?_
    rintro _ ⟨⟨w3, hB3⟩, rfl⟩
    go_wp2_with fail
    go_ret2
    exact ⟨by rw [HD.out]; rfl, bw_to Hend.out hB3⟩
  subst hy
  by_cases hz : z = c
  case neg =>
    have hz' : (z == c) = false := by simpa using hz
    rw [hz', Bool.and_false, Bool.and_false, Bool.false_and] at HD
    refine wp_region_aft (wb := w2) (by kernel_rfl) (by kernel_rfl) hst ?_
    repeat (go_big_quiet_step ((go_at_call 48; exact calls_aft fun w hw => Hob2.out w hw)))
    refine wpQuiet_nil ?_
    rintro _ ⟨⟨w3, hB3⟩, rfl⟩
    go_wp2_with fail
    go_ret2
    exact ⟨by rw [HD.out]; rfl, bw_to Hend.out hB3⟩
  subst hz
  rw [beq_self_eq_true, beq_self_eq_true, beq_self_eq_true, Bool.true_and, Bool.true_and, Bool.true_and] at HD
  clear e0 e1 e2 d0 d1 d2 d3
  go_region_held3 (fun W => Below w2.heap.size w2 W) (first | with_reducible assumption | exact Below.drew (by assumption) | exact bw_to (by assumption) hb')
    (first | (go_at_call 48; refine (Hob2.out _ (by assumption)).mono ?_; rintro e w' ⟨rfl, hb'⟩) | (go_at_call 59; refine (Hpr.out _).mono ?_; rintro e w' ⟨rfl, hb'⟩))
  all_goals
    have hBB : Below w2.heap.size w2 w' := by assumption
    go_wp2_with fail
    go_ret2
    exact ⟨by rw [HD.out]; rfl, bw_to Hend.out hBB⟩
set_option maxHeartbeats 2000000 in
theorem specCheck_no (m : Mt) (v : Value) (k : Cl) (x y z : Int) (w : World) (hb : BadBlk m k) (h : MethAt w m v) (hs : MtSmall m) (hk : ClSmall k) : Calls Try.prog 21 #[m.v v, k.v, .agg #[.int .i64 x, .int .i64 y, .int .i64 z]] w fun e w' => e = .returned (.tuple #[.bool false, .bool false]) ∧ Below w.heap.size w w' := by
  have Hnb := Lib.hid (fun W (hW : Below w.heap.size w W) => l17Of_bad m v k W hb (h.to hW) hs hk)
  obtain ⟨A, c, hv⟩ := h.form
  subst hv
  unfold Mt.v Cl.v at *
  clear h hb
  go_enter Try.func21, Try.ntmps21
  go_wp2_with fail
  refine box3s (C := fun W => Calls _ _ _ W _) ?_
  intro wb hw hwsz k1 k2 k3 hB0
  clear k1 k2 k3
  refine (Hnb.out _ hw).mono ?_; rintro e w1 ⟨a, b, d, A1, l1, q1, rfl, hb1⟩
  go_wp2_with fail
  go_ret2
  exact ⟨rfl, bw_al (bw_to hw hb1) _⟩
end Go.Proofs.Ythgadnhkbmimiaa

/- The law CheckObstacle. -/
namespace Go.Proofs.Ythgadnhkbmimiaa
open Go Go.RowKit
set_option linter.unusedVariables false
set_option linter.unusedSimpArgs false

set_option maxHeartbeats 1000000 in
theorem toObstacle_any (x y z : Int) (w : World) : Calls Try.prog 22 #[.agg #[.int .i64 x, .int .i64 y, .int .i64 z]] w fun e w' => e = .returned (.agg #[.int .i64 x, .int .i64 y, .int .i64 z]) ∧ Below w.heap.size w w' := by
  go_enter Try.func22, Try.ntmps22
  go_wp2_with fail
  refine bodyPost_ret (v := .agg #[.int .i64 x, .int .i64 y, .int .i64 z]) (by simp [results, go_sem]) rfl ⟨rfl, ?_⟩
  exact bw_al (bw_al (bw_al (Below.refl _ _) _) _) _
theorem check_both (m : Mt) (k : Cl) (x y z : Int) (hs : MtSmall m) (hk : ClSmall k) : ∃ (s b : Bool), (∀ v W, MethAt W m v → Calls Try.prog 23 #[m.v v, k.v, .agg #[.int .i64 x, .int .i64 y, .int .i64 z]] W fun e w' => e = .returned (.tuple #[.bool s, .bool b]) ∧ Below W.heap.size W w') ∧ (∀ v W, MethAt W m v → Calls Try.prog 21 #[m.v v, k.v, .agg #[.int .i64 x, .int .i64 y, .int .i64 z]] W fun e w' => e = .returned (.tuple #[.bool s, .bool b]) ∧ Below W.heap.size W w') := by
  rcases blk_cases m k with hb | ⟨n, T, P, B, B', Q, hK, hF⟩
  · exact ⟨false, false, fun v W h => implCheck_no m v k x y z 0 0 0 W (fun W' hW => obstacleTo_no m v k W' hb (h.to hW) hs hk) h.form, fun v W h => specCheck_no m v k x y z W hb h hs hk⟩
  · obtain ⟨RR, K, hX⟩ := cx_of hK hF (bobs := []) (by intro x hx; cases hx)
    exact ⟨_, _, fun v W h => implCheck_yes m v k x y z _ _ _ W (fun W' hW => obstacleTo_yes m v k n T P B B' Q RR K W' hK hF hX (h.to hW) hs hk) h.form, fun v W h => specCheck_yes m v k n T P B B' Q RR K x y z W hK hF hX h hs hk⟩
set_option maxRecDepth 100000 in
set_option maxHeartbeats 4000000 in
theorem lawCheckObstacle_any (m : Mt) (v : Value) (k : Cl) (x y z : Int) (w : World) (hm : MethAt w m v) (hk : ClFit k) : Calls Try.prog 5 #[m.v v, k.v, .agg #[.int .i64 x, .int .i64 y, .int .i64 z]] w fun e w' => e = .returned (.bool true) ∧ Below w.heap.size w w' := by
  have Hm := Lib.hid hm
  have Hk := Lib.hid hk
  obtain ⟨A, c, hv⟩ := hm.form
  subst hv
  clear hm hk
  unfold Mt.v Cl.v
  go_enter Try.func5, Try.ntmps5
  go_wp2_with fail
  refine box3s (C := fun W => Calls _ _ _ W _) ?_
  intro wb hw hwsz k1 k2 k3 hB0
  have R1 := boxRule k1
  have R2 := boxRule k2
  have R3 := boxRule k3
  clear k1 k2 k3 hwsz
  have Hz1 := Lib.hid (fun W hW => szMethod_any m (.slice A m.l.length c) 1048576 W (Hm.out.to (bw_to hw hW)) (by omega) (by omega))
  have Hz2 := Lib.hid (fun k0 W => szCalls_any k k0 W Hk.out)
  unfold Mt.v Cl.v at *
  refine (Hz1.out _ hB0).mono ?_; rintro e w1 ⟨r, rfl, hr0, hr1, hrl, hb1⟩
  have Hrl := Lib.hid hrl
  clear hrl
  by_cases hneg : r < 0
  · go_wp2_with fail
    go_ret
    exact ⟨rfl, bw_to hw hb1⟩
  · have Sm := Lib.hid (Hrl.out (by omega))
    go_wp2_with fail
    refine (Hz2.out r _ (by omega) hr1).mono ?_; rintro e w2 ⟨r2, rfl, hr20, hr21, hrl2, hb2⟩
    have Hrl2 := Lib.hid hrl2
    have hB2 := bw_to hb1 hb2
    clear hrl2 hb1 hb2
    by_cases hneg2 : r2 < 0
    · go_wp2_with fail
      go_ret
      exact ⟨rfl, bw_to hw hB2⟩
    · have Sk := Lib.hid (Hrl2.out (by omega))
      have Hto := Lib.hid (fun W hW => toMethod_agK m (.slice A m.l.length c) W (Hm.out.to (bw_to hw hW)) Sm.out)
      have Htk := Lib.hid (fun W => toCalls_any k W)
      have Htb := Lib.hid (fun W => toObstacle_any x y z W)
      obtain ⟨s, b, hi, hs⟩ := check_both m k x y z Sm.out Sk.out
      have Hi := Lib.hid hi
      have Hs := Lib.hid hs
      unfold Mt.v Cl.v at *
      clear hi hs
      have hdr : Below wb.heap.size wb w2.drew := hB2.drew
      go_upto_region 8 with fail
      go_cut [8, 9] (fun s8 s9 wx => s8 = .bool s ∧ s9 = .bool b ∧ Below wb.heap.size wb wx)
      case first =>
        go_region_held3 (fun W => Below wb.heap.size wb W) (first | with_reducible assumption | exact Below.drew (by assumption) | exact bw_to (by assumption) hb')
          (first | (go_at_call 21; refine (Hs.out _ _ ?_).mono ?_; (· first | exact tm | exact tm.to (by assumption)); rintro e w' ⟨rfl, hb'⟩; (have hBn := bw_to (by assumption : Below wb.heap.size wb _) hb')) | (go_at_call 12; refine (Htk.out _).mono ?_; rintro e w' ⟨rfl, hb'⟩; (have hBn := bw_to (by assumption : Below wb.heap.size wb _) hb'); (try (have tm := tm.to hb'))) | (go_at_call 22; refine (Htb.out _).mono ?_; rintro e w' ⟨rfl, hb'⟩; (have hBn := bw_to (by assumption : Below wb.heap.size wb _) hb'); (try (have tm := tm.to hb'))) | (go_at_call 11; refine (Hto.out _ (by assumption)).mono ?_; rintro e w' ⟨A1, c1, rfl, tm, hb'⟩; (have hBn := bw_to (by assumption : Below wb.heap.size wb _) hb')))
        all_goals
          have hBB : Below wb.heap.size wb w' := by assumption
          go_wp2_with fail
          go_meet
          exact ⟨rfl, rfl, hBB⟩
      case rest =>
        obtain ⟨rfl, rfl, hB3⟩ := hcut
        clear hB2 hdr
        go_wp2_with fail
        refine (Hto.out _ hB3).mono ?_; rintro e w4 ⟨A1, c1, rfl, tm, hb4⟩
        go_upto_region 10 with fail
        refine box1 (C := fun W => Code.wp _ _ _ _ W) ?_
        intro w5 hw5 k5 hB05
        have RB := boxRule k5
        have hB5 := bw_to hB3 (bw_to hb4 hw5)
        have T5 := Lib.hid (tm.to hw5)
        have R15 := fun W i hb => R1 W i (bw_to hB5 hb)
        have R25 := fun W i hb => R2 W i (bw_to hB5 hb)
        have R35 := fun W i hb => R3 W i (bw_to hB5 hb)
        have HB5 := Lib.hid hB5
        have hdr5 : Below w5.heap.size w5 w5.drew := Below.drew (Below.refl _ _)
        clear tm hb4 hw5 k5 R1 R2 R3 hB3 hB0
        go_cut [11, 12] (fun s11 s12 wx => s11 = .bool s ∧ s12 = .bool b ∧ Below w5.heap.size w5 wx)
        case first =>
          go_region_held3 (fun W => Below w5.heap.size w5 W) (first | with_reducible assumption | exact Below.drew (by assumption) | exact bw_to (by assumption) hb')
            (first | (go_at_call 23; refine (Hi.out _ _ ?_).mono ?_; (· exact T5.out.to (by assumption)); rintro e w' ⟨rfl, hb'⟩; (have hBn := bw_to (by assumption : Below w5.heap.size w5 _) hb')) | (go_at_call 12; refine (Htk.out _).mono ?_; rintro e w' ⟨rfl, hb'⟩; (have hBn := bw_to (by assumption : Below w5.heap.size w5 _) hb')) | (go_at_call 22; refine (Htb.out _).mono ?_; rintro e w' ⟨rfl, hb'⟩; (have hBn := bw_to (by assumption : Below w5.heap.size w5 _) hb')))
          all_goals
            have hBB : Below w5.heap.size w5 w' := by assumption
            go_wp2_with fail
            go_meet
            exact ⟨rfl, rfl, hBB⟩
        case rest =>
          obtain ⟨rfl, rfl, hB6⟩ := hcut
          obtain ⟨w6, rfl⟩ : ∃ w6, w6 = wc := ⟨_, rfl⟩
          have hBw6 := bw_to HB5.out hB6
          clear hdr5
          have hst := Below.refl w6.heap.size w6
          have hd7 : Below w6.heap.size w6 w6.drew := Below.drew hst
          have RB7 := fun W i hb => RB W i (bw_to hB6 hb)
          have R17 := fun W i hb => R15 W i (bw_to hB6 hb)
          have R27 := fun W i hb => R25 W i (bw_to hB6 hb)
          have R37 := fun W i hb => R35 W i (bw_to hB6 hb)
          clear RB R15 R25 R35
          go_upto_region 13 with fail
          go_region_held3 (fun W => Below w6.heap.size w6 W) (first | with_reducible assumption | exact Below.drew (by assumption) | exact bw_to (by assumption) hb')
            (first | (go_at_call 14; refine (eqMethod_same m _ _ _ (Strs.to T5.out.1 (bw_to hB6 (by assumption))) tm.1).mono ?_; rintro e w' ⟨rfl, hb'⟩) | (go_at_call 11; refine (Hto.out _ (bw_to hBw6 (by assumption))).mono ?_; rintro e w' ⟨A1, c1, rfl, tm, hb'⟩))
          all_goals
            have hBB : Below w6.heap.size w6 w' := by assumption
            go_wp2_with fail
            go_ret
            exact ⟨rfl, bw_to hw (bw_to hBw6 hBB)⟩
end Go.Proofs.Ythgadnhkbmimiaa

/- ObstacleTo on both sides. -/
import Derived.Test.YtheppimoncokcaaGreatPk22
import Derived.Test.YtheppimoncokcaaGreatPk32
namespace Go.Proofs.YtheppimoncokcaaGreat
open Go Go.RowKit
set_option linter.unusedVariables false
set_option linter.unusedSimpArgs false

set_option maxRecDepth 100000 in
set_option maxHeartbeats 4000000 in
theorem implObstacleTo_yes (m : Mt) (v : Value) (k : Cl) (a b c : Int) (w : World) (hO : ∀ W, Below w.heap.size w W → Calls Tryz.prog 75 #[m.v v, k.v] W fun e w' => e = .returned (.tuple #[.agg #[.int .i64 a, .int .i64 b, .int .i64 c], .bool true]) ∧ Below W.heap.size W w') (hf : ∃ A c, v = .slice A m.l.length c) :
    Calls Tryz.prog 41 #[m.v v, k.v] w fun e w' => e = .returned (.tuple #[.agg #[.int .i64 a, .int .i64 b, .int .i64 c], .bool (provB b c), .bool true]) ∧ Below w.heap.size w w' := by
  have HO := Lib.hid hO
  obtain ⟨A, q, hv⟩ := hf
  subst hv
  unfold Mt.v Cl.v at *
  clear hO
  go_enter Tryz.func41, Tryz.ntmps41
  go_wp2_with fail
  refine box3s (C := fun W => Calls _ _ _ W _) ?_
  intro wb hw hwsz k1 k2 k3 hB0
  have R3 := fun i W hW => boxRule k3 W i hW
  have F3 := fun j W hb => frozen_of_heap k3 j (w' := W) hb
  have hz3 := blk_lt k3
  clear k1 k2 k3 hwsz
  refine (HO.out _ hw).mono ?_; rintro e w1 ⟨rfl, hb1⟩
  have Hpr := fun W => proves_any a b c W
  go_upto_region 2 with fail
  refine box1 (C := fun W => Code.wp _ _ _ _ W) ?_
  intro w2 hw2 k4 hB2
  have hb2 := bw_to hb1 hw2
  have R4 := fun i W hW => boxRule k4 W i hW
  have hst : Below w2.heap.size w2 w2 := Below.refl _ _
  have hdr : Below w2.heap.size w2 w2.drew := Below.drew (Below.refl _ _)
  have r30 := fun W (hW : Below w2.heap.size w2 W) => R3 0 W (bw_to hb2 hW)
  have r31 := fun W (hW : Below w2.heap.size w2 W) => R3 1 W (bw_to hb2 hW)
  have r32 := fun W (hW : Below w2.heap.size w2 W) => R3 2 W (bw_to hb2 hW)
  have f30 := fun W (hW : Below w2.heap.size w2 W) => F3 0 W (bw_to hb2 hW)
  have f31 := fun W (hW : Below w2.heap.size w2 W) => F3 1 W (bw_to hb2 hW)
  have f32 := fun W (hW : Below w2.heap.size w2 W) => F3 2 W (bw_to hb2 hW)
  have hne : w1.heap.size ≠ w.heap.size + 2 := by have := hb1.size; omega
  have hlow : w.heap.size + 2 ≤ w2.heap.size := by have := hb2.size; omega
  have hS : ∀ W, Below w2.heap.size w2 W → (Below (w.heap.size + 2) w2 W ∧ W.cell? ⟨w1.heap.size, 0, none⟩ = some (.int .i64 a) ∧ W.cell? ⟨w1.heap.size, 1, none⟩ = some (.int .i64 b) ∧ W.cell? ⟨w1.heap.size, 2, none⟩ = some (.int .i64 c)) := fun W hW => ⟨hW.mono hlow, R4 0 W hW, R4 1 W hW, R4 2 W hW⟩
  have hSs : ∀ W, Below w2.heap.size w2 W → ∀ u0 u1 u2, (Below (w.heap.size + 2) w2 (((W.setCell ⟨w.heap.size + 2, 0, none⟩ u0).setCell ⟨w.heap.size + 2, 1, none⟩ u1).setCell ⟨w.heap.size + 2, 2, none⟩ u2) ∧ (((W.setCell ⟨w.heap.size + 2, 0, none⟩ u0).setCell ⟨w.heap.size + 2, 1, none⟩ u1).setCell ⟨w.heap.size + 2, 2, none⟩ u2).cell? ⟨w1.heap.size, 0, none⟩ = some (.int .i64 a) ∧ (((W.setCell ⟨w.heap.size + 2, 0, none⟩ u0).setCell ⟨w.heap.size + 2, 1, none⟩ u1).setCell ⟨w.heap.size + 2, 2, none⟩ u2).cell? ⟨w1.heap.size, 1, none⟩ = some (.int .i64 b) ∧ (((W.setCell ⟨w.heap.size + 2, 0, none⟩ u0).setCell ⟨w.heap.size + 2, 1, none⟩ u1).setCell ⟨w.heap.size + 2, 2, none⟩ u2).cell? ⟨w1.heap.size, 2, none⟩ = some (.int .i64 c)) := fun W hW u0 u1 u2 => by
    have hg := gb_set3 W (w.heap.size + 2) u0 u1 u2
    have hx : w1.heap.size < W.heap.size := Nat.lt_of_lt_of_le (by have := hw2.size; have := blk_lt k4; omega) hW.size
    have hc := fun i => gb_cellG hg (p := ⟨w1.heap.size, i, none⟩) hx hne
    exact ⟨set3_low (hW.mono hlow) (Nat.le_refl _), (hc 0).trans (R4 0 W hW), (hc 1).trans (R4 1 W hW), (hc 2).trans (R4 2 W hW)⟩
  have HS := Lib.hid hS
  have HSs := Lib.hid hSs
  clear R3 F3 k4 hS hSs
  go_region_held3 (fun W => Below (w.heap.size + 2) w2 W ∧ W.cell? ⟨w1.heap.size, 0, none⟩ = some (.int .i64 a) ∧ W.cell? ⟨w1.heap.size, 1, none⟩ = some (.int .i64 b) ∧ W.cell? ⟨w1.heap.size, 2, none⟩ = some (.int .i64 c)) (first | exact HS.out _ (by with_reducible assumption) | exact HSs.out _ (by with_reducible assumption) _ _ _)
    ((go_at_call 76; refine (Hpr _).mono ?_; rintro e w' ⟨rfl, hb'⟩; (have hBn := bw_to (by assumption : Below w2.heap.size w2 _) hb'); (have c30 := r30 _ hBn); (have c31 := r31 _ hBn); (have c32 := r32 _ hBn); (have g30 := f30 _ hBn); (have g31 := f31 _ hBn); (have g32 := f32 _ hBn)))
  all_goals
    go_wp2_with fail
    refine bodyPost_ret (v := .tuple #[.agg #[.int .i64 a, .int .i64 b, .int .i64 c], .bool (provB b c), .bool true]) (by simp [results, go_sem, c30, c31, c32]) rfl ⟨rfl, ?_⟩
    exact grow_set (grow_set (grow_set (bw_to hw (bw_to hb2 hBn)) (Nat.le_add_right _ 2) _) (Nat.le_add_right _ 2) _) (Nat.le_add_right _ 2) _
set_option maxRecDepth 100000 in
set_option maxHeartbeats 4000000 in
theorem implObstacleTo_no (m : Mt) (v : Value) (k : Cl) (w : World) (hO : ∀ W, Below w.heap.size w W → Calls Tryz.prog 75 #[m.v v, k.v] W fun e w' => e = .returned (.tuple #[.agg #[.int .i64 0, .int .i64 0, .int .i64 0], .bool false]) ∧ Below W.heap.size W w') (hf : ∃ A c, v = .slice A m.l.length c) :
    Calls Tryz.prog 41 #[m.v v, k.v] w fun e w' => e = .returned (.tuple #[.agg #[.int .i64 0, .int .i64 0, .int .i64 0], .bool false, .bool false]) ∧ Below w.heap.size w w' := by
  have HO := Lib.hid hO
  obtain ⟨A, q, hv⟩ := hf
  subst hv
  unfold Mt.v Cl.v at *
  clear hO
  go_enter Tryz.func41, Tryz.ntmps41
  go_wp2_with fail
  refine box3s (C := fun W => Calls _ _ _ W _) ?_
  intro wb hw hwsz k1 k2 k3 hB0
  have R3 := fun i W hW => boxRule k3 W i hW
  have F3 := fun j W hb => frozen_of_heap k3 j (w' := W) hb
  have hz3 := blk_lt k3
  clear k1 k2 k3 hwsz
  refine (HO.out _ hw).mono ?_; rintro e w1 ⟨rfl, hb1⟩
  have Hpr := fun W => proves_any 0 0 0 W
  go_upto_region 2 with fail
  refine box1 (C := fun W => Code.wp _ _ _ _ W) ?_
  intro w2 hw2 k4 hB2
  have hb2 := bw_to hb1 hw2
  have R4 := fun i W hW => boxRule k4 W i hW
  have hst : Below w2.heap.size w2 w2 := Below.refl _ _
  have hdr : Below w2.heap.size w2 w2.drew := Below.drew (Below.refl _ _)
  have r30 := fun W (hW : Below w2.heap.size w2 W) => R3 0 W (bw_to hb2 hW)
  have r31 := fun W (hW : Below w2.heap.size w2 W) => R3 1 W (bw_to hb2 hW)
  have r32 := fun W (hW : Below w2.heap.size w2 W) => R3 2 W (bw_to hb2 hW)
  have f30 := fun W (hW : Below w2.heap.size w2 W) => F3 0 W (bw_to hb2 hW)
  have f31 := fun W (hW : Below w2.heap.size w2 W) => F3 1 W (bw_to hb2 hW)
  have f32 := fun W (hW : Below w2.heap.size w2 W) => F3 2 W (bw_to hb2 hW)
  have c30 := r30 w2 hst
  have c31 := r31 w2 hst
  have c32 := r32 w2 hst
  have g30 := f30 w2 hst
  have g31 := f31 w2 hst
  have g32 := f32 w2 hst
  have c30d := r30 w2.drew hdr
  have c31d := r31 w2.drew hdr
  have c32d := r32 w2.drew hdr
  have g30d := f30 w2.drew hdr
  have g31d := f31 w2.drew hdr
  have g32d := f32 w2.drew hdr
  go_region_with (fail)
  all_goals
    go_wp2_with fail
    refine bodyPost_ret (v := .tuple #[.agg #[.int .i64 0, .int .i64 0, .int .i64 0], .bool false, .bool false]) (by simp [results, go_sem, c30, c31, c32, c30d, c31d, c32d]) rfl ⟨rfl, ?_⟩
    exact grow_set (grow_set (grow_set (bw_to hw (bw_to hb2 (by first | exact hdr | exact hst))) (Nat.le_add_right _ 2) _) (Nat.le_add_right _ 2) _) (Nat.le_add_right _ 2) _
set_option maxRecDepth 100000 in
set_option maxHeartbeats 4000000 in
theorem specObstacleTo_yes (m : Mt) (v : Value) (k : Cl) (n T : Nat) (P B B' Q : ByteArray) (RR : ByteArray → Nat) (K : Nat) (w : World) (hK : BK m k n T P B B' Q) (hF : (cloB n [P, B] T).length ≤ 130) (hX : CX n P B Q [] (sortB (cloB n [P, B] T)) RR K) (h : MethAt w m v) (hs : MtSmall m) (hk : ClSmall k) :
    Calls Tryz.prog 42 #[m.v v, k.v] w fun e w' => e = .returned (.tuple #[.agg #[.int .i64 ((sortB (cloB n [P, B] T)).length : Int), .int .i64 (ringN P B [] (sortB (cloB n [P, B] T)) RR : Int), .int .i64 (K : Int)], .bool (provB (ringN P B [] (sortB (cloB n [P, B] T)) RR : Int) (K : Int)), .bool true]) ∧ Below w.heap.size w w' := by
  have Hnb := Lib.hid (fun W (hW : Below w.heap.size w W) => l17Of_yes m v k n T P B B' Q W hK (h.to hW) hs hk)
  rw [grp8_yes (Nat.le_trans hF (by omega)), decide_eq_true hF] at Hnb
  obtain ⟨G, hG⟩ : ∃ G, G = sortB (cloB n [P, B] T) := ⟨_, rfl⟩
  rw [← hG] at Hnb hX ⊢
  have Hob := Lib.hid (fun gv W (hGv : Strs W gv G) => obstacleS_any n P B Q G RR K gv W hX hGv)
  obtain ⟨N, hN⟩ : ∃ N, N = ringN P B [] G RR := ⟨_, rfl⟩
  rw [← hN] at Hob ⊢
  have Hpr := Lib.hid (fun W => l18Blocks_any G.length N K W)
  obtain ⟨A, q, hv⟩ := h.form
  subst hv
  unfold Mt.v Cl.v at *
  clear h hK hG hF hN hX
  go_enter Tryz.func42, Tryz.ntmps42
  go_wp2_with fail
  refine box3s (C := fun W => Calls _ _ _ W _) ?_
  intro wb hw hwsz k1 k2 k3 hB0
  have R3 := fun i W hW => boxRule k3 W i hW
  have F3 := fun j W hb => frozen_of_heap k3 j (w' := W) hb
  have hz3 := blk_lt k3
  clear k1 k2 k3 hwsz
  refine (Hnb.out _ hw).mono ?_; rintro e w1 ⟨A1, q1, rfl, hown1, hb1⟩
  go_upto_region 4 with fail
  refine box1 (C := fun W => Code.wp _ _ _ _ W) ?_
  intro w2 hw2 k4 hB2
  have hb2 := bw_to hb1 hw2
  have hS2 : Strs w2 (.slice A1 G.length q1) G := (strs_of_own hown1).to hw2
  have R4 := fun i W hW => boxRule k4 W i hW
  have hst : Below w2.heap.size w2 w2 := Below.refl _ _
  have hdr : Below w2.heap.size w2 w2.drew := Below.drew (Below.refl _ _)
  have Hob2 := Lib.hid (fun W (hW : Below w2.heap.size w2 W) => Hob.out _ W (hS2.to hW))
  have r30 := fun W (hW : Below w2.heap.size w2 W) => R3 0 W (bw_to hb2 hW)
  have r31 := fun W (hW : Below w2.heap.size w2 W) => R3 1 W (bw_to hb2 hW)
  have r32 := fun W (hW : Below w2.heap.size w2 W) => R3 2 W (bw_to hb2 hW)
  have f30 := fun W (hW : Below w2.heap.size w2 W) => F3 0 W (bw_to hb2 hW)
  have f31 := fun W (hW : Below w2.heap.size w2 W) => F3 1 W (bw_to hb2 hW)
  have f32 := fun W (hW : Below w2.heap.size w2 W) => F3 2 W (bw_to hb2 hW)
  have hne : w1.heap.size ≠ w.heap.size + 2 := by have := hb1.size; omega
  have hlow : w.heap.size + 2 ≤ w2.heap.size := by have := hb2.size; omega
  have hS : ∀ W, Below w2.heap.size w2 W → (Below (w.heap.size + 2) w2 W ∧ W.cell? ⟨w1.heap.size, 0, none⟩ = some (.string P) ∧ W.cell? ⟨w1.heap.size, 1, none⟩ = some (.string B) ∧ W.cell? ⟨w1.heap.size, 2, none⟩ = some (.string Q) ∧ W.cell? ⟨w1.heap.size, 3, none⟩ = some (.slice A1 G.length q1)) := fun W hW => ⟨hW.mono hlow, R4 0 W hW, R4 1 W hW, R4 2 W hW, R4 3 W hW⟩
  have hSs : ∀ W, Below w2.heap.size w2 W → ∀ u0 u1 u2, (Below (w.heap.size + 2) w2 (((W.setCell ⟨w.heap.size + 2, 0, none⟩ u0).setCell ⟨w.heap.size + 2, 1, none⟩ u1).setCell ⟨w.heap.size + 2, 2, none⟩ u2) ∧ (((W.setCell ⟨w.heap.size + 2, 0, none⟩ u0).setCell ⟨w.heap.size + 2, 1, none⟩ u1).setCell ⟨w.heap.size + 2, 2, none⟩ u2).cell? ⟨w1.heap.size, 0, none⟩ = some (.string P) ∧ (((W.setCell ⟨w.heap.size + 2, 0, none⟩ u0).setCell ⟨w.heap.size + 2, 1, none⟩ u1).setCell ⟨w.heap.size + 2, 2, none⟩ u2).cell? ⟨w1.heap.size, 1, none⟩ = some (.string B) ∧ (((W.setCell ⟨w.heap.size + 2, 0, none⟩ u0).setCell ⟨w.heap.size + 2, 1, none⟩ u1).setCell ⟨w.heap.size + 2, 2, none⟩ u2).cell? ⟨w1.heap.size, 2, none⟩ = some (.string Q) ∧ (((W.setCell ⟨w.heap.size + 2, 0, none⟩ u0).setCell ⟨w.heap.size + 2, 1, none⟩ u1).setCell ⟨w.heap.size + 2, 2, none⟩ u2).cell? ⟨w1.heap.size, 3, none⟩ = some (.slice A1 G.length q1)) := fun W hW u0 u1 u2 => by
    have hg := gb_set3 W (w.heap.size + 2) u0 u1 u2
    have hx : w1.heap.size < W.heap.size := Nat.lt_of_lt_of_le (by have := hw2.size; have := blk_lt k4; omega) hW.size
    have hc := fun i => gb_cellG hg (p := ⟨w1.heap.size, i, none⟩) hx hne
    exact ⟨set3_low (hW.mono hlow) (Nat.le_refl _), (hc 0).trans (R4 0 W hW), (hc 1).trans (R4 1 W hW), (hc 2).trans (R4 2 W hW), (hc 3).trans (R4 3 W hW)⟩
  have HS := Lib.hid hS
  have HSs := Lib.hid hSs
  clear R3 F3 k4 hS hSs hown1
  go_region_held3 (fun W => Below (w.heap.size + 2) w2 W ∧ W.cell? ⟨w1.heap.size, 0, none⟩ = some (.string P) ∧ W.cell? ⟨w1.heap.size, 1, none⟩ = some (.string B) ∧ W.cell? ⟨w1.heap.size, 2, none⟩ = some (.string Q) ∧ W.cell? ⟨w1.heap.size, 3, none⟩ = some (.slice A1 G.length q1)) (first | exact HS.out _ (by with_reducible assumption) | exact HSs.out _ (by with_reducible assumption) _ _ _)
    (first | (go_at_call 78; refine (Hpr.out _).mono ?_; rintro e w' ⟨rfl, hb'⟩; (have hBn := bw_to (by assumption : Below w2.heap.size w2 _) hb'); (have c30 := r30 _ hBn); (have c31 := r31 _ hBn); (have c32 := r32 _ hBn); (have g30 := f30 _ hBn); (have g31 := f31 _ hBn); (have g32 := f32 _ hBn)) | (go_at_call 77; refine (Hob2.out _ (by assumption)).mono ?_; rintro e w' ⟨rfl, hb'⟩; (have hBn := bw_to (by assumption : Below w2.heap.size w2 _) hb'); (have c30 := r30 _ hBn); (have c31 := r31 _ hBn); (have c32 := r32 _ hBn); (have g30 := f30 _ hBn); (have g31 := f31 _ hBn); (have g32 := f32 _ hBn)))
  all_goals
    go_wp2_with fail
    refine bodyPost_ret (v := .tuple #[.agg #[.int .i64 (G.length : Int), .int .i64 (N : Int), .int .i64 (K : Int)], .bool (provB N K), .bool true]) (by simp [results, go_sem, c30, c31, c32]) rfl ⟨rfl, ?_⟩
    exact grow_set (grow_set (grow_set (bw_to hw (bw_to hb2 hBn)) (Nat.le_add_right _ 2) _) (Nat.le_add_right _ 2) _) (Nat.le_add_right _ 2) _
set_option maxHeartbeats 2000000 in
theorem specObstacleTo_no (m : Mt) (v : Value) (k : Cl) (w : World) (hb : BadBlk m k) (h : MethAt w m v) (hs : MtSmall m) (hk : ClSmall k) : Calls Tryz.prog 42 #[m.v v, k.v] w fun e w' => e = .returned (.tuple #[.agg #[.int .i64 0, .int .i64 0, .int .i64 0], .bool false, .bool false]) ∧ Below w.heap.size w w' := by
  have Hnb := Lib.hid (fun W (hW : Below w.heap.size w W) => l17Of_bad m v k W hb (h.to hW) hs hk)
  obtain ⟨A, c, hv⟩ := h.form
  subst hv
  unfold Mt.v Cl.v at *
  clear h hb
  go_enter Tryz.func42, Tryz.ntmps42
  go_wp2_with fail
  refine box3s (C := fun W => Calls _ _ _ W _) ?_
  intro wb hw hwsz k1 k2 k3 hB0
  have R3 := boxRule k3
  have F3 := fun j W hb => frozen_of_heap k3 j (w' := W) hb
  clear k1 k2 k3 hwsz
  refine (Hnb.out _ hw).mono ?_; rintro e w1 ⟨a, b, d, A1, l1, q1, rfl, hb1⟩
  have hB1 := bw_al hb1 (.cells #[.string a, .string b, .string d, .slice A1 l1 q1] 78)
  have r0 := R3 _ 0 hB1
  have r1 := R3 _ 1 hB1
  have r2 := R3 _ 2 hB1
  have f0 := F3 0 _ hB1
  have f1 := F3 1 _ hB1
  have f2 := F3 2 _ hB1
  have Hend := Lib.hid (bw_to hw hB1)
  go_wp2_with fail
  refine bodyPost_ret (v := .tuple #[.agg #[.int .i64 0, .int .i64 0, .int .i64 0], .bool false, .bool false]) (by simp [results, go_sem, r0, r1, r2]) rfl ⟨rfl, ?_⟩
  exact grow_set (grow_set (grow_set Hend.out (Nat.le_add_right _ 2) _) (Nat.le_add_right _ 2) _) (Nat.le_add_right _ 2) _
end Go.Proofs.YtheppimoncokcaaGreat

/- The law ObstacleTo. -/
namespace Go.Proofs.YtheppimoncokcaaGreat
open Go Go.RowKit
set_option linter.unusedVariables false
set_option linter.unusedSimpArgs false

theorem obst_both (m : Mt) (k : Cl) (hs : MtSmall m) (hk : ClSmall k) : ∃ (y : Int × Int × Int) (s b : Bool), (∀ v W, MethAt W m v → Calls Tryz.prog 41 #[m.v v, k.v] W fun e w' => e = .returned (.tuple #[.agg #[.int .i64 y.1, .int .i64 y.2.1, .int .i64 y.2.2], .bool s, .bool b]) ∧ Below W.heap.size W w') ∧ (∀ v W, MethAt W m v → Calls Tryz.prog 42 #[m.v v, k.v] W fun e w' => e = .returned (.tuple #[.agg #[.int .i64 y.1, .int .i64 y.2.1, .int .i64 y.2.2], .bool s, .bool b]) ∧ Below W.heap.size W w') := by
  rcases blk_cases m k with hb | ⟨n, T, P, B, B', Q, hK, hF⟩
  · exact ⟨(0, 0, 0), false, false, fun v W h => implObstacleTo_no m v k W (fun W' hW => obstacleTo_no m v k W' hb (h.to hW) hs hk) h.form, fun v W h => specObstacleTo_no m v k W hb h hs hk⟩
  · obtain ⟨RR, K, hX⟩ := cx_of hK hF (bobs := []) (by intro x hx; cases hx)
    exact ⟨(_, _, _), _, _, fun v W h => implObstacleTo_yes m v k _ _ _ W (fun W' hW => obstacleTo_yes m v k n T P B B' Q RR K W' hK hF hX (h.to hW) hs hk) h.form, fun v W h => specObstacleTo_yes m v k n T P B B' Q RR K W hK hF hX h hs hk⟩
end Go.Proofs.YtheppimoncokcaaGreat

/- CheckObstacle on both sides. -/
import Derived.Test.YtheppimoncokcaaGreatPk22
import Derived.Laws.StructEq
import Derived.Test.YtheppimoncokcaaGreatPk32
import Derived.Test.YtheppimoncokcaaGreatPk41
import Derived.Test.YtheppimoncokcaaGreatPk48
namespace Go.Proofs.YtheppimoncokcaaGreat
open Go Go.RowKit
set_option linter.unusedVariables false
set_option linter.unusedSimpArgs false

def chkB (x y z a b c : Int) : Bool := (x == a && (y == b && z == c)) && provB y z
set_option maxHeartbeats 4000000 in
theorem implCheck_yes (m : Mt) (v : Value) (k : Cl) (x y z a b c : Int) (w : World) (hO : ∀ W, Below w.heap.size w W → Calls Tryz.prog 75 #[m.v v, k.v] W fun e w' => e = .returned (.tuple #[.agg #[.int .i64 a, .int .i64 b, .int .i64 c], .bool true]) ∧ Below W.heap.size W w') (hf : ∃ A c, v = .slice A m.l.length c) :
    Calls Tryz.prog 43 #[m.v v, k.v, .agg #[.int .i64 x, .int .i64 y, .int .i64 z]] w fun e w' => e = .returned (.tuple #[.bool (chkB x y z a b c), .bool true]) ∧ Below w.heap.size w w' := by
  have HO := Lib.hid hO
  have HD : Hid (chkB x y z a b c = ((x == a && (y == b && z == c)) && provB y z)) := Lib.hid rfl
  obtain ⟨A, q, hv⟩ := hf
  subst hv
  unfold Mt.v Cl.v at *
  clear hO
  go_enter Tryz.func43, Tryz.ntmps43
  go_wp2_with fail
  refine box3s (C := fun W => Calls _ _ _ W _) ?_
  intro wb hw hwsz k1 k2 k3 hB0
  have R3 := boxRule k3
  clear k1 k2 k3
  refine (HO.out _ hw).mono ?_; rintro e w1 ⟨rfl, hb1⟩
  have hB1 := bw_al hb1 (.cells #[.int .i64 a, .int .i64 b, .int .i64 c] 58)
  have r0 := R3 _ 0 hB1
  have r1 := R3 _ 1 hB1
  have r2 := R3 _ 2 hB1
  have Hend := Lib.hid (bw_to hw hB1)
  have Hpr := Lib.hid (proves_any x y z)
  by_cases hx : x = a
  case neg =>
    have hx' : (x == a) = false := by simpa using hx
    rw [hx', Bool.false_and, Bool.false_and] at HD
    go_wp2_with fail
    go_ret2
    exact ⟨by rw [HD.out]; rfl, Hend.out⟩
  subst hx
  by_cases hy : y = b
  case neg =>
    have hy' : (y == b) = false := by simpa using hy
    rw [hy', Bool.false_and, Bool.and_false, Bool.false_and] at HD
    go_wp2_with fail
    go_ret2
    exact ⟨by rw [HD.out]; rfl, Hend.out⟩
  subst hy
  by_cases hz : z = c
  case neg =>
    have hz' : (z == c) = false := by simpa using hz
    rw [hz', Bool.and_false, Bool.and_false, Bool.false_and] at HD
    go_wp2_with fail
    go_ret2
    exact ⟨by rw [HD.out]; rfl, Hend.out⟩
  subst hz
  rw [beq_self_eq_true, beq_self_eq_true, beq_self_eq_true, Bool.true_and, Bool.true_and, Bool.true_and] at HD
  go_wp2_with fail
  refine (Hpr.out _).mono ?_; rintro e w2 ⟨rfl, hb2⟩
  go_wp2_with fail
  go_ret2
  exact ⟨by rw [HD.out]; rfl, bw_to Hend.out hb2⟩
set_option maxHeartbeats 4000000 in
theorem implCheck_no (m : Mt) (v : Value) (k : Cl) (x y z a b c : Int) (w : World) (hO : ∀ W, Below w.heap.size w W → Calls Tryz.prog 75 #[m.v v, k.v] W fun e w' => e = .returned (.tuple #[.agg #[.int .i64 a, .int .i64 b, .int .i64 c], .bool false]) ∧ Below W.heap.size W w') (hf : ∃ A c, v = .slice A m.l.length c) :
    Calls Tryz.prog 43 #[m.v v, k.v, .agg #[.int .i64 x, .int .i64 y, .int .i64 z]] w fun e w' => e = .returned (.tuple #[.bool false, .bool false]) ∧ Below w.heap.size w w' := by
  have HO := Lib.hid hO
  obtain ⟨A, q, hv⟩ := hf
  subst hv
  unfold Mt.v Cl.v at *
  clear hO
  go_enter Tryz.func43, Tryz.ntmps43
  go_wp2_with fail
  refine box3s (C := fun W => Calls _ _ _ W _) ?_
  intro wb hw hwsz k1 k2 k3 hB0
  clear k1 k2 k3
  refine (HO.out _ hw).mono ?_; rintro e w1 ⟨rfl, hb1⟩
  have hB1 := bw_al hb1 (.cells #[.int .i64 a, .int .i64 b, .int .i64 c] 58)
  have Hend := Lib.hid (bw_to hw hB1)
  go_wp2_with fail
  go_ret2
  exact ⟨rfl, Hend.out⟩
set_option maxRecDepth 100000 in
set_option maxHeartbeats 4000000 in
theorem specCheck_yes (m : Mt) (v : Value) (k : Cl) (n T : Nat) (P B B' Q : ByteArray) (RR : ByteArray → Nat) (K : Nat) (x y z : Int) (w : World) (hK : BK m k n T P B B' Q) (hF : (cloB n [P, B] T).length ≤ 130) (hX : CX n P B Q [] (sortB (cloB n [P, B] T)) RR K) (h : MethAt w m v) (hs : MtSmall m) (hk : ClSmall k) :
    Calls Tryz.prog 45 #[m.v v, k.v, .agg #[.int .i64 x, .int .i64 y, .int .i64 z]] w fun e w' => e = .returned (.tuple #[.bool (chkB x y z ((sortB (cloB n [P, B] T)).length : Int) (ringN P B [] (sortB (cloB n [P, B] T)) RR : Int) (K : Int)), .bool true]) ∧ Below w.heap.size w w' := by
  have Hnb := Lib.hid (fun W (hW : Below w.heap.size w W) => l17Of_yes m v k n T P B B' Q W hK (h.to hW) hs hk)
  rw [grp8_yes (Nat.le_trans hF (by omega)), decide_eq_true hF] at Hnb
  obtain ⟨G, hG⟩ : ∃ G, G = sortB (cloB n [P, B] T) := ⟨_, rfl⟩
  rw [← hG] at Hnb hX ⊢
  have Hob := Lib.hid (fun gv W (hGv : Strs W gv G) => obstacleS_any n P B Q G RR K gv W hX hGv)
  obtain ⟨N, hN⟩ : ∃ N, N = ringN P B [] G RR := ⟨_, rfl⟩
  rw [← hN] at Hob ⊢
  obtain ⟨a, ha⟩ : ∃ a : Int, a = (G.length : Int) := ⟨_, rfl⟩
  obtain ⟨b, hb⟩ : ∃ a : Int, a = (N : Int) := ⟨_, rfl⟩
  obtain ⟨c, hc⟩ : ∃ a : Int, a = (K : Int) := ⟨_, rfl⟩
  rw [← ha, ← hb, ← hc] at Hob ⊢
  have HD : Hid (chkB x y z a b c = ((x == a && (y == b && z == c)) && provB y z)) := Lib.hid rfl
  have Hpr := Lib.hid (fun W => l18Blocks_any x y z W)
  obtain ⟨A, q, hv⟩ := h.form
  subst hv
  unfold Mt.v Cl.v at *
  clear h hK hG hF hN ha hb hc hX
  go_enter Tryz.func45, Tryz.ntmps45
  go_wp2_with fail
  refine box3s (C := fun W => Calls _ _ _ W _) ?_
  intro wb hw hwsz k1 k2 k3 hB0
  have R3 := fun i W hW => boxRule k3 W i hW
  clear k1 k2 k3
  refine (Hnb.out _ hw).mono ?_; rintro e w1 ⟨A1, q1, rfl, hown1, hb1⟩
  go_upto_region 4 with fail
  refine box1 (C := fun W => Code.wp _ _ _ _ W) ?_
  intro w2 hw2 k4 hB2
  have hb2 := bw_to hb1 hw2
  have hS2 : Strs w2 (.slice A1 G.length q1) G := (strs_of_own hown1).to hw2
  have R4 := fun i W hW => boxRule k4 W i hW
  have r3 := fun i W (hW : Below w2.heap.size w2 W) => R3 i W (bw_to hb2 hW)
  have hst : Below w2.heap.size w2 w2 := Below.refl _ _
  have hdr : Below w2.heap.size w2 w2.drew := Below.drew (Below.refl _ _)
  have Hob2 := Lib.hid (fun W (hW : Below w2.heap.size w2 W) => Hob.out _ W (hS2.to hW))
  have Hend := Lib.hid (bw_to hw hb2)
  clear hown1 R3 hS2 k4
  have e0 : ∀ u : Aft w2, u.w.cell? ⟨w.heap.size + 1 + 1, 0, none⟩ = some (.int .i64 x) := fun u => r3 0 u.w u.h
  have e1 : ∀ u : Aft w2, u.w.cell? ⟨w.heap.size + 1 + 1, 1, none⟩ = some (.int .i64 y) := fun u => r3 1 u.w u.h
  have e2 : ∀ u : Aft w2, u.w.cell? ⟨w.heap.size + 1 + 1, 2, none⟩ = some (.int .i64 z) := fun u => r3 2 u.w u.h
  have d0 : ∀ u : Aft w2, u.w.cell? ⟨w1.heap.size, 0, none⟩ = some (.string P) := fun u => R4 0 u.w u.h
  have d1 : ∀ u : Aft w2, u.w.cell? ⟨w1.heap.size, 1, none⟩ = some (.string B) := fun u => R4 1 u.w u.h
  have d2 : ∀ u : Aft w2, u.w.cell? ⟨w1.heap.size, 2, none⟩ = some (.string Q) := fun u => R4 2 u.w u.h
  have d3 : ∀ u : Aft w2, u.w.cell? ⟨w1.heap.size, 3, none⟩ = some (.slice A1 G.length q1) := fun u => R4 3 u.w u.h
  by_cases hx : x = a
  case neg =>
    have hx' : (x == a) = false := by simpa using hx
    rw [hx', Bool.false_and, Bool.false_and] at HD
    refine wp_region_aft (wb := w2) (by kernel_rfl) (by kernel_rfl) hst ?_
    repeat (go_big_quiet_step ((go_at_call 77; exact calls_aft fun w hw => Hob2.out w hw)))
    refine wpQuiet_nil ?_
    rintro _ ⟨⟨w3, hB3⟩, rfl⟩
    go_wp2_with fail
    go_ret2
    exact ⟨by rw [HD.out]; rfl, bw_to Hend.out hB3⟩
  subst hx
  by_cases hy : y = b
  case neg =>
    have hy' : (y == b) = false := by simpa using hy
    rw [hy', Bool.false_and, Bool.and_false, Bool.false_and] at HD
    refine wp_region_aft (wb := w2) (by kernel_rfl) (by kernel_rfl) hst ?_
    repeat (go_big_quiet_step ((go_at_call 77; exact calls_aft fun w hw => Hob2.out w hw)))
    refine wpQuiet_nil ?_
    rintro _ ⟨⟨w3, hB3⟩, rfl⟩
    go_wp2_with fail
    go_ret2
    exact ⟨by rw [HD.out]; rfl, bw_to Hend.out hB3⟩
  subst hy
  by_cases hz : z = c
  case neg =>
    have hz' : (z == c) = false := by simpa using hz
    rw [hz', Bool.and_false, Bool.and_false, Bool.false_and] at HD
    refine wp_region_aft (wb := w2) (by kernel_rfl) (by kernel_rfl) hst ?_
    repeat (go_big_quiet_step ((go_at_call 77; exact calls_aft fun w hw => Hob2.out w hw)))
    refine wpQuiet_nil ?_
    rintro _ ⟨⟨w3, hB3⟩, rfl⟩
    go_wp2_with fail
    go_ret2
    exact ⟨by rw [HD.out]; rfl, bw_to Hend.out hB3⟩
  subst hz
  rw [beq_self_eq_true, beq_self_eq_true, beq_self_eq_true, Bool.true_and, Bool.true_and, Bool.true_and] at HD
  clear e0 e1 e2 d0 d1 d2 d3
  go_region_held3 (fun W => Below w2.heap.size w2 W) (first | with_reducible assumption | exact Below.drew (by assumption) | exact bw_to (by assumption) hb')
    (first | (go_at_call 77; refine (Hob2.out _ (by assumption)).mono ?_; rintro e w' ⟨rfl, hb'⟩) | (go_at_call 78; refine (Hpr.out _).mono ?_; rintro e w' ⟨rfl, hb'⟩))
  all_goals
    have hBB : Below w2.heap.size w2 w' := by assumption
    go_wp2_with fail
    go_ret2
    exact ⟨by rw [HD.out]; rfl, bw_to Hend.out hBB⟩
set_option maxHeartbeats 2000000 in
theorem specCheck_no (m : Mt) (v : Value) (k : Cl) (x y z : Int) (w : World) (hb : BadBlk m k) (h : MethAt w m v) (hs : MtSmall m) (hk : ClSmall k) : Calls Tryz.prog 45 #[m.v v, k.v, .agg #[.int .i64 x, .int .i64 y, .int .i64 z]] w fun e w' => e = .returned (.tuple #[.bool false, .bool false]) ∧ Below w.heap.size w w' := by
  have Hnb := Lib.hid (fun W (hW : Below w.heap.size w W) => l17Of_bad m v k W hb (h.to hW) hs hk)
  obtain ⟨A, c, hv⟩ := h.form
  subst hv
  unfold Mt.v Cl.v at *
  clear h hb
  go_enter Tryz.func45, Tryz.ntmps45
  go_wp2_with fail
  refine box3s (C := fun W => Calls _ _ _ W _) ?_
  intro wb hw hwsz k1 k2 k3 hB0
  clear k1 k2 k3
  refine (Hnb.out _ hw).mono ?_; rintro e w1 ⟨a, b, d, A1, l1, q1, rfl, hb1⟩
  go_wp2_with fail
  go_ret2
  exact ⟨rfl, bw_al (bw_to hw hb1) _⟩
end Go.Proofs.YtheppimoncokcaaGreat

/- The law CheckObstacle. -/
namespace Go.Proofs.YtheppimoncokcaaGreat
open Go Go.RowKit
set_option linter.unusedVariables false
set_option linter.unusedSimpArgs false

theorem check_both (m : Mt) (k : Cl) (x y z : Int) (hs : MtSmall m) (hk : ClSmall k) : ∃ (s b : Bool), (∀ v W, MethAt W m v → Calls Tryz.prog 43 #[m.v v, k.v, .agg #[.int .i64 x, .int .i64 y, .int .i64 z]] W fun e w' => e = .returned (.tuple #[.bool s, .bool b]) ∧ Below W.heap.size W w') ∧ (∀ v W, MethAt W m v → Calls Tryz.prog 45 #[m.v v, k.v, .agg #[.int .i64 x, .int .i64 y, .int .i64 z]] W fun e w' => e = .returned (.tuple #[.bool s, .bool b]) ∧ Below W.heap.size W w') := by
  rcases blk_cases m k with hb | ⟨n, T, P, B, B', Q, hK, hF⟩
  · exact ⟨false, false, fun v W h => implCheck_no m v k x y z 0 0 0 W (fun W' hW => obstacleTo_no m v k W' hb (h.to hW) hs hk) h.form, fun v W h => specCheck_no m v k x y z W hb h hs hk⟩
  · obtain ⟨RR, K, hX⟩ := cx_of hK hF (bobs := []) (by intro x hx; cases hx)
    exact ⟨_, _, fun v W h => implCheck_yes m v k x y z _ _ _ W (fun W' hW => obstacleTo_yes m v k n T P B B' Q RR K W' hK hF hX (h.to hW) hs hk) h.form, fun v W h => specCheck_yes m v k n T P B B' Q RR K x y z W hK hF hX h hs hk⟩
end Go.Proofs.YtheppimoncokcaaGreat

/- The law on obstacles. -/
namespace Go.Proofs.YtheppimoncokcaaGreat
open Go Go.RowKit
set_option linter.unusedVariables false
set_option linter.unusedSimpArgs false

structure PF2 (m : Mt) (k : Cl) (bobs : List ByteArray) (a b c : Int) (is ok one : Bool) (L : Nat) : Prop where
  oi : ∀ v W, MethAt W m v → Calls Tryz.prog 41 #[m.v v, k.v] W fun e w' => e = .returned (.tuple #[.agg #[.int .i64 a, .int .i64 b, .int .i64 c], .bool is, .bool ok]) ∧ Below W.heap.size W w'
  os : ∀ v W, MethAt W m v → Calls Tryz.prog 42 #[m.v v, k.v] W fun e w' => e = .returned (.tuple #[.agg #[.int .i64 a, .int .i64 b, .int .i64 c], .bool is, .bool ok]) ∧ Below W.heap.size W w'
  ri : ∀ v Vb W, MethAt W m v → Strs W Vb bobs → Calls Tryz.prog 27 #[m.v v, k.v, Vb] W fun e w' => ∃ A q, e = .returned (.tuple #[.slice A L q, .bool one]) ∧ Below W.heap.size W w'
  bb : 0 ≤ b ∧ b ≤ 130
  no : ok = true → is = true → one = true → L ≠ 1
  ck : ok = true → ∀ v W, MethAt W m v → Calls Tryz.prog 43 #[m.v v, k.v, .agg #[.int .i64 a, .int .i64 b, .int .i64 c]] W fun e w' => e = .returned (.tuple #[.bool is, .bool true]) ∧ Below W.heap.size W w'
  ck2 : ok = true → ∀ v W, MethAt W m v → Calls Tryz.prog 43 #[m.v v, k.v, .agg #[.int .i64 a, .int .i64 (b + 1), .int .i64 c]] W fun e w' => e = .returned (.tuple #[.bool false, .bool true]) ∧ Below W.heap.size W w'
  Lb : L ≤ 130
theorem prov_no {N L K s : Nat} (hK : 1 ≤ K) (h : (L + N) % 2 = (s * (K - 1)) % 2) (h1 : K = 1 → L = N) (hp : provB N K = true) : L ≠ 1 := by
  unfold provB at hp
  rw [Bool.or_eq_true, Bool.and_eq_true, Bool.and_eq_true, beq_iff_eq, beq_iff_eq, beq_iff_eq] at hp
  rcases hp with ⟨h2, h3⟩ | ⟨h2, h3⟩
  · have e2 : K % 2 = 1 := by
      have : Int.tmod (K : Int) 2 = ((K % 2 : Nat) : Int) := rfl
      omega
    have e3 : N % 2 = 0 := by
      have : Int.tmod (N : Int) 2 = ((N % 2 : Nat) : Int) := rfl
      omega
    have e4 : (s * (K - 1)) % 2 = 0 := by
      rw [Nat.mul_mod, show (K - 1) % 2 = 0 by omega]; simp
    omega
  · have e2 : K = 1 := by omega
    have e3 := h1 e2
    intro e
    have hN : N = 1 := by omega
    rw [hN] at h3
    simp at h3
theorem obst_facts (m : Mt) (k : Cl) (bobs : List ByteArray) (hs : MtSmall m) (hk : ClSmall k) (hbl : bobs.length ≤ 100000000) : ∃ (a b c : Int) (is ok one : Bool) (L : Nat), PF2 m k bobs a b c is ok one L := by
  rcases blk_cases m k with hb | ⟨n, T, P, B, B', Q, hK, hF⟩
  · refine ⟨0, 0, 0, false, false, false, 0, ⟨fun v W hm => implObstacleTo_no m v k W (fun W' hW' => obstacleTo_no m v k W' hb (hm.to hW') hs hk) hm.form, fun v W hm => specObstacleTo_no m v k W hb hm hs hk, fun v Vb W hm hV => ?_, by omega, by simp, by simp, by simp, by omega⟩⟩
    exact (implRingsIn_no m v k Vb bobs W (.inl hb) hm hs hk hV hbl).mono fun e w' ⟨A, q, vs, h1, _, _, h2⟩ => ⟨A, q, h1, h2⟩
  · obtain ⟨RR, K, hO, hKb, hX⟩ := cx_all hK hF
    have hX0 := hX [] (good_nil Q)
    have hN : ringN P B [] (sortB (cloB n [P, B] T)) (RR []) ≤ 130 := Nat.le_trans (rgs_len _ _ _ _) (by rw [sortB_len]; exact hF)
    have hoi := fun v W (hm : MethAt W m v) => implObstacleTo_yes m v k _ _ _ W (fun W' hW' => obstacleTo_yes m v k n T P B B' Q (RR []) K W' hK hF hX0 (hm.to hW') hs hk) hm.form
    have hos := fun v W (hm : MethAt W m v) => specObstacleTo_yes m v k n T P B B' Q (RR []) K W hK hF hX0 hm hs hk
    have hck := fun v W (x y z : Int) (hm : MethAt W m v) => implCheck_yes m v k x y z _ _ _ W (fun W' hW' => obstacleTo_yes m v k n T P B B' Q (RR []) K W' hK hF hX0 (hm.to hW') hs hk) hm.form
    have hgi : ∀ one L, (∀ v Vb W, MethAt W m v → Strs W Vb bobs → Calls Tryz.prog 27 #[m.v v, k.v, Vb] W fun e w' => ∃ A q, e = .returned (.tuple #[.slice A L q, .bool one]) ∧ Below W.heap.size W w') → L ≤ 130 → (provB (ringN P B [] (sortB (cloB n [P, B] T)) (RR []) : Int) K = true → one = true → L ≠ 1) →
        PF2 m k bobs ((sortB (cloB n [P, B] T)).length : Int) (ringN P B [] (sortB (cloB n [P, B] T)) (RR []) : Int) (K : Int) (provB (ringN P B [] (sortB (cloB n [P, B] T)) (RR []) : Int) K) true one L := by
      intro one L hri hL hno
      refine ⟨hoi, hos, hri, by omega, fun _ h1 h2 => hno h1 h2, fun _ v W hm => ?_, fun _ v W hm => ?_, hL⟩
      · have h := hck v W ((sortB (cloB n [P, B] T)).length : Int) (ringN P B [] (sortB (cloB n [P, B] T)) (RR []) : Int) (K : Int) hm
        unfold chkB at h
        simpa using h
      · have h := hck v W ((sortB (cloB n [P, B] T)).length : Int) ((ringN P B [] (sortB (cloB n [P, B] T)) (RR []) : Int) + 1) (K : Int) hm
        have e : chkB ((sortB (cloB n [P, B] T)).length : Int) ((ringN P B [] (sortB (cloB n [P, B] T)) (RR []) : Int) + 1) (K : Int) ((sortB (cloB n [P, B] T)).length : Int) (ringN P B [] (sortB (cloB n [P, B] T)) (RR []) : Int) (K : Int) = false := by
          unfold chkB
          have : ((ringN P B [] (sortB (cloB n [P, B] T)) (RR []) : Int) + 1 == (ringN P B [] (sortB (cloB n [P, B] T)) (RR []) : Int)) = false := by rw [beq_eq_false_iff_ne]; omega
          rw [this]; simp
        rw [e] at h
        exact h
    by_cases hbg : BG (sortB (cloB n [P, B] T)) bobs Q
    · have hXb := hX bobs hbg.2
      obtain ⟨s, hs1, hs2, hs3⟩ := rings_sign hK hXb hX0 hbg
      refine ⟨_, _, _, _, true, true, _, hgi true (rgs (nxB bobs P B) (RR bobs) (sortB (cloB n [P, B] T)) []).length (fun v Vb W hm hV => ?_) (Nat.le_trans (rgs_len _ _ _ _) (by rw [sortB_len]; exact hF)) (fun hp _ => prov_no hO.1 hs2 hs3 hp)⟩
      exact (implRingsIn_yes m v k Vb n T K P B B' Q RR bobs W hK hF hbg hXb hm hs hk hV).mono fun e w' ⟨A, q, vs, h1, _, _, h2⟩ => ⟨A, q, h1, h2⟩
    · refine ⟨_, _, _, _, true, false, _, hgi false 0 (fun v Vb W hm hV => ?_) (by omega) (fun _ h => by cases h)⟩
      exact (implRingsIn_no m v k Vb bobs W (.inr ⟨n, T, P, B, B', Q, hK, hF, hbg⟩) hm hs hk hV hbl).mono fun e w' ⟨A, q, vs, h1, _, _, h2⟩ => ⟨A, q, h1, h2⟩
set_option maxRecDepth 100000 in
set_option maxHeartbeats 8000000 in
theorem lawObstacles_any (V : Value) (zV : Nat) (U : Value) (zU : Nat) (w : World) (hV : BytesAt w w.heap.size V) (hU : BytesAt w w.heap.size U) : Calls Tryz.prog 6 #[V, U] w fun e w' => e = .returned (.bool true) ∧ Below w.heap.size w w' := by
  have HV := Lib.hid hV
  have HU := Lib.hid hU
  obtain ⟨A1, n1, c1, zs1, rfl, _, _, hm1, _⟩ := hV
  obtain ⟨A2, n2, c2, zs2, rfl, _, _, hm2, _⟩ := hU
  unfold maxLen at hm1 hm2
  go_enter Tryz.func6, Tryz.ntmps6
  go_wp2_with fail
  refine (bigB_any A1 A2 n1 c1 n2 c2 w (by omega) (by omega)).mono ?_; rintro e w0 ⟨bb, rfl, rfl⟩
  cases bb
  rotate_left
  · go_wp2_with fail
    go_ret
    exact ⟨rfl, Below.refl _ _⟩
  go_wp2_with fail
  refine (drawRingsIn_any _ w HV.out).mono ?_; rintro e w1 ⟨m, v, k, Vb, bobs, rfl, hP, hB, hbl⟩
  obtain ⟨hms, hks⟩ := hP.small
  have HM := Lib.hid hP.meth
  have HBo := Lib.hid hB.strs
  have W1 := Lib.hid hP.bw
  obtain ⟨a, b, c, is, ok, one, L, hF⟩ := obst_facts m k bobs hms hks (by omega)
  have hOi := Lib.hid hF.oi
  have hOs := Lib.hid hF.os
  have hRi := Lib.hid hF.ri
  have hNo := Lib.hid hF.no
  have hCk := Lib.hid hF.ck
  have hCk2 := Lib.hid hF.ck2
  have hbb := hF.bb
  have hLb := hF.Lb
  have hwb : IntKind.i64.wrap (b + 1) = b + 1 := IntWalk.i64_in _ (by omega)
  obtain ⟨Ab, cb, rfl⟩ : ∃ A c, Vb = .slice A bobs.length c := by obtain ⟨A, c, e, _⟩ := hB.strs; exact ⟨A, c, e⟩
  obtain ⟨A, c9, ev⟩ := hP.meth.form
  subst ev
  clear hF hP hB hms hks
  unfold Mt.v Cl.v at *
  simp only
  go_upto_region 4 with fail
  refine box2 (C := fun W => Code.wp _ _ _ _ W) ?_
  intro w2 hw2 k1 k2 hB2
  have R1 := boxRule k1
  have R2 := boxRule k2
  have W2 := Lib.hid (bw_to W1.out hw2)
  have HM2 := Lib.hid (HM.out.to hw2)
  have HB2 := Lib.hid (HBo.out.to hw2)
  clear k1 k2 hw2 HM HBo W1
  go_wp2_with fail
  refine (hOi.out _ _ HM2.out).mono ?_; rintro e w3 ⟨rfl, hb3⟩
  go_upto_region 5 with fail
  refine box1 (C := fun W => Code.wp _ _ _ _ W) ?_
  intro w4 hw4 k3 hB4'
  have R3 := boxRule k3
  have hB4 := bw_to hb3 hw4
  clear hb3 hw4 k3
  go_wp2_with fail
  refine (hOs.out _ _ (HM2.out.to hB4)).mono ?_; rintro e w5 ⟨rfl, hb5⟩
  go_upto_region 6 with fail
  refine box1 (C := fun W => Code.wp _ _ _ _ W) ?_
  intro w6 hw6 k6 hB6'
  have R4 := boxRule k6
  have h46 := bw_to hb5 hw6
  have h26 := bw_to hB4 h46
  have Q1 : ∀ W i, Below w6.heap.size w6 W → W.cell? ⟨w1.heap.size, i, none⟩ = _ := fun W i h => R1 W i (bw_to h26 h)
  have Q2 : ∀ W i, Below w6.heap.size w6 W → W.cell? ⟨w1.heap.size + 1, i, none⟩ = _ := fun W i h => R2 W i (bw_to h26 h)
  have Q3 : ∀ W i, Below w6.heap.size w6 W → W.cell? ⟨w3.heap.size, i, none⟩ = _ := fun W i h => R3 W i (bw_to h46 h)
  have HM6 := Lib.hid (HM2.out.to h26)
  have HB6 := Lib.hid (HB2.out.to h26)
  have W6 := Lib.hid (bw_to W2.out h26)
  clear R1 R2 R3 hb5 hw6 k6 h46 h26 hB4 hB4' hB2 HM2 HB2 W2
  cases ok
  · cases is
    all_goals
      cases one
    all_goals
      go_wp2_with fail
      refine (hRi.out _ _ _ HM6.out HB6.out).mono ?_; rintro e w7 ⟨A3, q3, rfl, hb7⟩
      go_upto_region 16 with fail
      have W7 := Lib.hid (bw_to W6.out hb7)
      have HU2 : BytesAt w7 w7.heap.size (.slice A2 n2 c2) := (HU.out.keep (fun p hp => W7.out.cell hp)).more W7.out.size
      clear Q1 Q2 Q3 R4
      go_wp2_with fail
      refine (drawCheckObstacle_any _ w7 HU2).mono ?_; rintro e w11 ⟨m', v', k', x, y, z, rfl, hP'⟩
      obtain ⟨hms', hks'⟩ := hP'.small
      have HM11 := Lib.hid hP'.meth
      have W11 := Lib.hid hP'.bw
      obtain ⟨sg, sb, hsi, hss⟩ := check_both m' k' x y z hms' hks'
      have Hsi := Lib.hid hsi
      have Hss := Lib.hid hss
      obtain ⟨A', c', ev'⟩ := hP'.meth.form
      subst ev'
      clear hP' hms' hks' hsi hss HU2
      unfold Mt.v Cl.v at *
      simp only
      go_upto_region 17 with fail
      refine box3 (C := fun W => Code.wp _ _ _ _ W) ?_
      intro w12 hw12 k1 k2 k3 hB12
      have R1 := boxRule k1
      have R2 := boxRule k2
      have R3 := boxRule k3
      have W12 := Lib.hid (bw_to W11.out hw12)
      have HM12 := Lib.hid (HM11.out.to hw12)
      clear k1 k2 k3 hw12 HM11 W11
      cases sg
      all_goals
        cases sb
      all_goals
        go_wp2_with fail
        refine (Hsi.out _ _ HM12.out).mono ?_; rintro e w13 ⟨rfl, hb13⟩
        go_wp2_with fail
        refine (Hss.out _ _ (HM12.out.to hb13)).mono ?_; rintro e w14 ⟨rfl, hb14⟩
        have W14 := Lib.hid (bw_to W7.out (bw_to W12.out (bw_to hb13 hb14)))
        clear hb13 hb14
        go_wp2_with fail
        go_ret
        exact ⟨rfl, W14.out⟩
  · have HCk := Lib.hid (hCk.out rfl)
    have HCk2 := Lib.hid (hCk2.out rfl)
    clear hCk hCk2
    cases is
    all_goals
      cases one
    all_goals
      first
      | (have hL1 : ((L : Int) == 1) = false := by rw [beq_eq_false_iff_ne]; have := hNo.out rfl rfl rfl; omega)
      | skip
    all_goals
      go_wp2_with fail
      refine (hRi.out _ _ _ HM6.out HB6.out).mono ?_; rintro e w7 ⟨A3, q3, rfl, hb7⟩
      go_wp2_with fail
      refine (HCk.out _ _ (HM6.out.to hb7)).mono ?_; rintro e w8 ⟨rfl, hb8'⟩
      have hb8 := bw_to hb7 hb8'
      clear hb8'
      go_wp2_with fail
      refine (HCk2.out _ _ (HM6.out.to hb8)).mono ?_; rintro e w9 ⟨rfl, hb9'⟩
      have hb9 := bw_to hb8 hb9'
      clear hb9' hb7 hb8
      go_upto_region 16 with fail
      have W7 := Lib.hid (bw_to W6.out hb9)
      have HU2 : BytesAt w9 w9.heap.size (.slice A2 n2 c2) := (HU.out.keep (fun p hp => W7.out.cell hp)).more W7.out.size
      clear Q1 Q2 Q3 R4
      go_wp2_with fail
      refine (drawCheckObstacle_any _ w9 HU2).mono ?_; rintro e w11 ⟨m', v', k', x, y, z, rfl, hP'⟩
      obtain ⟨hms', hks'⟩ := hP'.small
      have HM11 := Lib.hid hP'.meth
      have W11 := Lib.hid hP'.bw
      obtain ⟨sg, sb, hsi, hss⟩ := check_both m' k' x y z hms' hks'
      have Hsi := Lib.hid hsi
      have Hss := Lib.hid hss
      obtain ⟨A', c', ev'⟩ := hP'.meth.form
      subst ev'
      clear hP' hms' hks' hsi hss HU2
      unfold Mt.v Cl.v at *
      simp only
      go_upto_region 17 with fail
      refine box3 (C := fun W => Code.wp _ _ _ _ W) ?_
      intro w12 hw12 k1 k2 k3 hB12
      have R1 := boxRule k1
      have R2 := boxRule k2
      have R3 := boxRule k3
      have W12 := Lib.hid (bw_to W11.out hw12)
      have HM12 := Lib.hid (HM11.out.to hw12)
      clear k1 k2 k3 hw12 HM11 W11
      cases sg
      all_goals
        cases sb
      all_goals
        go_wp2_with fail
        refine (Hsi.out _ _ HM12.out).mono ?_; rintro e w13 ⟨rfl, hb13⟩
        go_wp2_with fail
        refine (Hss.out _ _ (HM12.out.to hb13)).mono ?_; rintro e w14 ⟨rfl, hb14⟩
        have W14 := Lib.hid (bw_to W7.out (bw_to W12.out (bw_to hb13 hb14)))
        clear hb13 hb14
        go_wp2_with fail
        go_ret
        exact ⟨rfl, W14.out⟩
end Go.Proofs.YtheppimoncokcaaGreat

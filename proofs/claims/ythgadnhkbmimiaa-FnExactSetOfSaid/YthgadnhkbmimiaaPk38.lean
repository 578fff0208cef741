/- RingsSign on both sides. -/
import Derived.Test.YthgadnhkbmimiaaPk34
namespace Go.Proofs.Ythgadnhkbmimiaa
open Go Go.RowKit
set_option linter.unusedVariables false
set_option linter.unusedSimpArgs false

def sgnB (N K : Nat) (x : Int) : Bool := (((N : Int) + x * ((K : Int) - 1)) % 2 == 0)
set_option maxHeartbeats 2000000 in
theorem specRingsSign_no (m : Mt) (v : Value) (k : Cl) (x : Int) (w : World) (hb : BadBlk m k) (h : MethAt w m v) (hs : MtSmall m) (hk : ClSmall k) : Calls Try.prog 10 #[m.v v, k.v, .int .i64 x] w fun e w' => e = .returned (.tuple #[.bool false, .bool false]) ∧ Below w.heap.size w w' := by
  have Hnb := Lib.hid (fun W (hW : Below w.heap.size w W) => l17Of_bad m v k W hb (h.to hW) hs hk)
  obtain ⟨A, c, hv⟩ := h.form
  subst hv
  unfold Mt.v Cl.v at *
  clear h hb
  go_enter Try.func10, Try.ntmps10
  go_wp2_with fail
  refine box2 (C := fun W => Calls _ _ _ W _) ?_
  intro wb hw k1 k2 hB0
  clear k1 k2
  refine (Hnb.out _ hw).mono ?_; rintro e w1 ⟨a, b, d, A1, l1, q1, rfl, hb1⟩
  go_wp2_with fail
  go_ret2
  exact ⟨rfl, bw_al (bw_to hw hb1) _⟩
set_option maxRecDepth 100000 in
set_option maxHeartbeats 4000000 in
theorem specRingsSign_yes (m : Mt) (v : Value) (k : Cl) (n T : Nat) (P B B' Q : ByteArray) (RR : ByteArray → Nat) (K : Nat) (x : Int) (w : World) (hK : BK m k n T P B B' Q) (hF : (cloB n [P, B] T).length ≤ 130) (hX : CX n P B Q [] (sortB (cloB n [P, B] T)) RR K) (h : MethAt w m v) (hs : MtSmall m) (hk : ClSmall k) :
    Calls Try.prog 10 #[m.v v, k.v, .int .i64 x] w fun e w' => e = .returned (.tuple #[.bool (decide (0 ≤ x ∧ x ≤ 100) && sgnB (ringN P B [] (sortB (cloB n [P, B] T)) RR) K x), .bool (decide (0 ≤ x ∧ x ≤ 100))]) ∧ Below w.heap.size w w' := by
  have Hnb := Lib.hid (fun W (hW : Below w.heap.size w W) => l17Of_yes m v k n T P B B' Q W hK (h.to hW) hs hk)
  rw [grp8_yes (Nat.le_trans hF (by omega)), decide_eq_true hF] at Hnb
  obtain ⟨G, hG⟩ : ∃ G, G = sortB (cloB n [P, B] T) := ⟨_, rfl⟩
  rw [← hG] at Hnb hX ⊢
  have Hob := Lib.hid (fun gv W (hGv : Strs W gv G) => obstacleS_any n P B Q G RR K gv W hX hGv)
  have hfew := rgs_len (nxB [] P B) RR G []
  have hGl := hX.hGl
  have hkb := hX.kb
  have hk1 := hX.ord.1
  obtain ⟨N, hN⟩ : ∃ N, N = ringN P B [] G RR := ⟨_, rfl⟩
  rw [← hN] at Hob ⊢
  have hNb : N ≤ 130 := by rw [hN]; unfold ringN; omega
  obtain ⟨A, q, hv⟩ := h.form
  subst hv
  unfold Mt.v Cl.v at *
  clear h hK hG hF hN hX hfew
  cases hd : decide (0 ≤ x ∧ x ≤ 100)
  all_goals
    have Hd := Lib.hid hd
    go_enter Try.func10, Try.ntmps10
    go_wp2_with fail
    refine box2 (C := fun W => Calls _ _ _ W _) ?_
    intro wb hw k1 k2 hB0
    clear k1 k2
    refine (Hnb.out _ hw).mono ?_; rintro e w1 ⟨A1, q1, rfl, hown1, hb1⟩
    have HS := Lib.hid (strs_of_own hown1)
    have hB1 := bw_to hw hb1
    clear hown1
    go_wp2_with (go_at_call 47; refine (l1In_any _ _ _ _).mono ?_; rintro e w' ⟨rfl, rfl⟩; rw [Hd.out])
  · go_ret2
    exact ⟨rfl, bw_al hB1 _⟩
  · have hx : 0 ≤ x ∧ x ≤ 100 := of_decide_eq_true hd
    obtain ⟨z, hz⟩ : ∃ z, z = x * ((K : Int) - 1) := ⟨_, rfl⟩
    have hz0 : 0 ≤ z := by rw [hz]; exact Int.mul_nonneg hx.1 (by omega)
    have hz1 : z ≤ 1677721600 := by
      rw [hz]
      exact Int.le_trans (Int.mul_le_mul hx.2 (by omega : (K : Int) - 1 ≤ 16777215) (by omega) (by omega)) (by decide)
    have hw1 : IntKind.i64.wrap ((K : Int) - 1) = (K : Int) - 1 := IntWalk.i64_in _ (by omega)
    have hw2 : IntKind.i64.wrap (x * ((K : Int) - 1)) = z := by rw [← hz]; exact IntWalk.i64_in _ (by omega)
    have hw3 : IntKind.i64.wrap ((N : Int) + z) = (N : Int) + z := IntWalk.i64_in _ (by omega)
    have HD : Hid (sgnB N K x = (((N : Int) + z) % 2 == 0)) := Lib.hid (by rw [hz]; rfl)
    clear hd hz
    refine (Hob.out _ _ (HS.out.to (bw_al (Below.refl _ _) _))).mono ?_; rintro e w2 ⟨rfl, hb2⟩
    have hB2 := bw_to (bw_al hB1 _) hb2
    go_wp2_with fail
    go_ret2
    exact ⟨by rw [HD.out, Bool.true_and]; rfl, bw_al hB2 _⟩
set_option maxHeartbeats 2000000 in
theorem implRingsSign_no (m : Mt) (v : Value) (k : Cl) (x : Int) (w : World) (hb : BadBlk m k) (h : MethAt w m v) (hs : MtSmall m) (hk : ClSmall k) : Calls Try.prog 13 #[m.v v, k.v, .int .i64 x] w fun e w' => e = .returned (.tuple #[.bool false, .bool false]) ∧ Below w.heap.size w w' := by
  have Hnb := Lib.hid (fun W (hW : Below w.heap.size w W) => newBlocks_bad m v k W hb (h.to hW) hs hk)
  obtain ⟨A, c, hv⟩ := h.form
  subst hv
  unfold Mt.v Cl.v at *
  clear h hb
  go_enter Try.func13, Try.ntmps13
  go_wp2_with fail
  refine box2 (C := fun W => Calls _ _ _ W _) ?_
  intro wb hw k1 k2 hB0
  clear k1 k2
  refine (Hnb.out _ hw).mono ?_; rintro e w1 ⟨a, b, d, A1, l1, q1, rfl, hb1⟩
  go_wp2_with fail
  go_ret2
  exact ⟨rfl, bw_al (bw_to hw hb1) _⟩
set_option maxRecDepth 100000 in
set_option maxHeartbeats 4000000 in
theorem implRingsSign_yes (m : Mt) (v : Value) (k : Cl) (n T : Nat) (P B B' Q : ByteArray) (RR : ByteArray → Nat) (K : Nat) (x : Int) (w : World) (hK : BK m k n T P B B' Q) (hF : (cloB n [P, B] T).length ≤ 130) (hX : CX n P B Q [] (sortB (cloB n [P, B] T)) RR K) (h : MethAt w m v) (hs : MtSmall m) (hk : ClSmall k) :
    Calls Try.prog 13 #[m.v v, k.v, .int .i64 x] w fun e w' => e = .returned (.tuple #[.bool (decide (0 ≤ x ∧ x ≤ 100) && sgnB (ringN P B [] (sortB (cloB n [P, B] T)) RR) K x), .bool (decide (0 ≤ x ∧ x ≤ 100))]) ∧ Below w.heap.size w w' := by
  have Hnb := Lib.hid (fun W (hW : Below w.heap.size w W) => newBlocks_yes m v k n T P B B' Q W hK (h.to hW) hs hk)
  rw [grpL_yes hF, decide_eq_true hF] at Hnb
  obtain ⟨G, hG⟩ : ∃ G, G = sortB (cloB n [P, B] T) := ⟨_, rfl⟩
  rw [← hG] at Hnb hX ⊢
  have Hri := Lib.hid (fun gv W (hGv : Strs W gv G) => ringsI_any n P B Q G RR gv (.slice none 0 0) [] W hX.hn hX.hP hX.hB hGv (by have := hX.hGl; omega) (strs_nil W) List.Pairwise.nil (by simp) hX.hit hX.hRR)
  have Hpw := Lib.hid (fun W => powers_any Q n K W hX.hn hX.hQ hX.ord hX.kb)
  have hfew := rgs_len (nxB [] P B) RR G []
  obtain ⟨N, hN⟩ : ∃ N, N = (rgs (nxB [] P B) RR G []).length := ⟨_, rfl⟩
  have HN : Hid (ringN P B [] G RR = N) := Lib.hid (by rw [hN]; rfl)
  rw [← hN] at Hri hfew
  rw [HN.out]
  have hGl := hX.hGl
  have hkb := hX.kb
  have hk1 := hX.ord.1
  have hNb : N ≤ 130 := by omega
  obtain ⟨A, q, hv⟩ := h.form
  subst hv
  unfold Mt.v Cl.v at *
  clear h hK hG hF hN hX hfew HN
  cases hd : decide (0 ≤ x ∧ x ≤ 100)
  · have Hd := Lib.hid hd
    go_enter Try.func13, Try.ntmps13
    go_wp2_with fail
    refine box2 (C := fun W => Calls _ _ _ W _) ?_
    intro wb hw k1 k2 hB0
    clear k1 k2
    refine (Hnb.out _ hw).mono ?_; rintro e w1 ⟨A1, q1, rfl, hown1, hb1⟩
    have hB1 := bw_to hw hb1
    clear hown1
    go_wp2_with (go_at_call 51; refine (within_any _ _ _ _).mono ?_; rintro e w' ⟨rfl, rfl⟩; rw [Hd.out])
    go_ret2
    exact ⟨rfl, bw_al hB1 _⟩
  · have Hd := Lib.hid hd
    have hx : 0 ≤ x ∧ x ≤ 100 := of_decide_eq_true hd
    obtain ⟨z, hz⟩ : ∃ z, z = x * ((K : Int) - 1) := ⟨_, rfl⟩
    have hz0 : 0 ≤ z := by rw [hz]; exact Int.mul_nonneg hx.1 (by omega)
    have hz1 : z ≤ 1677721600 := by
      rw [hz]
      exact Int.le_trans (Int.mul_le_mul hx.2 (by omega : (K : Int) - 1 ≤ 16777215) (by omega) (by omega)) (by decide)
    have hw1 : IntKind.i64.wrap ((K : Int) - 1) = (K : Int) - 1 := IntWalk.i64_in _ (by omega)
    have hw2 : IntKind.i64.wrap (x * ((K : Int) - 1)) = z := by rw [← hz]; exact IntWalk.i64_in _ (by omega)
    have hw3 : IntKind.i64.wrap ((N : Int) + z) = (N : Int) + z := IntWalk.i64_in _ (by omega)
    have HD : Hid (sgnB N K x = (((N : Int) + z) % 2 == 0)) := Lib.hid (by rw [hz]; rfl)
    clear hd hz
    go_enter Try.func13, Try.ntmps13
    go_wp2_with fail
    refine box2 (C := fun W => Calls _ _ _ W _) ?_
    intro wb hw k1 k2 hB0
    clear k1 k2
    refine (Hnb.out _ hw).mono ?_; rintro e w1 ⟨A1, q1, rfl, hown1, hb1⟩
    have HS := Lib.hid (strs_of_own hown1)
    have hB1 := bw_to hw hb1
    clear hown1
    go_upto_region 4 with (go_at_call 51; refine (within_any _ _ _ _).mono ?_; rintro e w' ⟨rfl, rfl⟩; rw [Hd.out])
    refine box1 (C := fun W => Code.wp _ _ _ _ W) ?_
    intro w2 hw2 k4 hB2
    have hb2 := bw_to hb1 hw2
    have HS2 := Lib.hid (fun W (hW : Below w2.heap.size w2 W) => (HS.out.to hw2).to hW)
    have R4 := fun i W hW => boxRule k4 W i hW
    have hst : Below w2.heap.size w2 w2 := Below.refl _ _
    have hdr : Below w2.heap.size w2 w2.drew := Below.drew (Below.refl _ _)
    have Hri2 := Lib.hid (fun W (hW : Below w2.heap.size w2 W) => Hri.out _ W (HS2.out W hW))
    go_region_held3 (fun W => Below w2.heap.size w2 W) (first | with_reducible assumption | exact Below.drew (by assumption) | exact bw_to (by assumption) hb')
      (first | (go_at_call 52; refine (Hri2.out _ (by assumption)).mono ?_; rintro e w' ⟨A5, q5, rfl, hb'⟩) | (go_at_call 53; refine (Hpw.out _).mono ?_; rintro e w' ⟨A6, q6, rfl, _, hb'⟩))
    all_goals
      have hBB : Below w2.heap.size w2 w' := by assumption
      go_wp2_with fail
      go_ret2
      exact ⟨by rw [HD.out, ← Int.tmod_eq_emod_of_nonneg (by omega), Bool.true_and]; rfl, bw_to hw (bw_to hb2 hBB)⟩
set_option maxHeartbeats 1000000 in
theorem szCalls_any (k : Cl) (k0 : Int) (w : World) (h : ClFit k) (h0 : 0 ≤ k0) (hk0 : k0 ≤ 1048576) : Calls Try.prog 9 #[k.v, .int .i64 k0] w fun e w' =>
    ∃ r : Int, e = .returned (.int .i64 r) ∧ -1 ≤ r ∧ r ≤ 1048576 ∧ (0 ≤ r → ClSmall k) ∧ Below w.heap.size w w' := by
  unfold Cl.v
  have h1 := h.1
  have h2 := h.2
  unfold maxLen at h1 h2
  clear h
  go_enter Try.func9, Try.ntmps9
  go_wp2_with fail
  · go_ret
    exact ⟨_, rfl, by omega, by omega, fun h => absurd h (by omega), bw_al (Below.refl _ _) _⟩
  · go_ret
    exact ⟨_, rfl, by omega, by omega, fun h => absurd h (by omega), bw_al (Below.refl _ _) _⟩
  · go_ret
    exact ⟨_, rfl, by omega, by omega, fun h => ⟨by omega, by omega⟩, bw_al (Below.refl _ _) _⟩
set_option maxHeartbeats 1000000 in
theorem toCalls_any (k : Cl) (w : World) : Calls Try.prog 12 #[k.v] w fun e w' => e = .returned k.v ∧ Below w.heap.size w w' := by
  unfold Cl.v
  go_enter Try.func12, Try.ntmps12
  go_wp2_with fail
  refine bodyPost_ret (v := .agg #[.string k.bob, .string k.single]) (by simp [results, go_sem]) rfl ⟨rfl, ?_⟩
  exact bw_al (bw_al (bw_al (Below.refl _ _) _) _) _
theorem toMethod_agK (m : Mt) (v : Value) (w : World) (h1 : MethAt w m v) (hs : MtSmall m) : Calls Try.prog 11 #[.agg #[.string m.name, .int .i64 m.stage, v]] w fun e w' => ∃ A c, e = .returned (.agg #[.string m.name, .int .i64 m.stage, .slice A m.l.length c]) ∧ MethAt w' m (.slice A m.l.length c) ∧ Below w.heap.size w w' := by
  refine (toMethod_any m v w h1 hs).mono fun e w' ⟨r, e1, h3, h4⟩ => ?_
  obtain ⟨A, c, hr, _⟩ := sl_of_own h3
  subst hr
  exact ⟨A, c, e1, ⟨strs_of_own h3, h1.2⟩, h4⟩
theorem sign_both (m : Mt) (k : Cl) (x : Int) (hs : MtSmall m) (hk : ClSmall k) : ∃ (s b : Bool), (∀ v W, MethAt W m v → Calls Try.prog 13 #[m.v v, k.v, .int .i64 x] W fun e w' => e = .returned (.tuple #[.bool s, .bool b]) ∧ Below W.heap.size W w') ∧ (∀ v W, MethAt W m v → Calls Try.prog 10 #[m.v v, k.v, .int .i64 x] W fun e w' => e = .returned (.tuple #[.bool s, .bool b]) ∧ Below W.heap.size W w') := by
  rcases blk_cases m k with hb | ⟨n, T, P, B, B', Q, hK, hF⟩
  · exact ⟨false, false, fun v W h => implRingsSign_no m v k x W hb h hs hk, fun v W h => specRingsSign_no m v k x W hb h hs hk⟩
  · obtain ⟨RR, K, hX⟩ := cx_of hK hF (bobs := []) (by intro x hx; cases hx)
    exact ⟨_, _, fun v W h => implRingsSign_yes m v k n T P B B' Q RR K x W hK hF hX h hs hk, fun v W h => specRingsSign_yes m v k n T P B B' Q RR K x W hK hF hX h hs hk⟩
set_option maxRecDepth 100000 in
set_option maxHeartbeats 4000000 in
theorem lawRingsSign_any (m : Mt) (v : Value) (k : Cl) (x : Int) (w : World) (hm : MethAt w m v) (hk : ClFit k) : Calls Try.prog 3 #[m.v v, k.v, .int .i64 x] w fun e w' => e = .returned (.bool true) ∧ Below w.heap.size w w' := by
  have Hm := Lib.hid hm
  have Hk := Lib.hid hk
  obtain ⟨A, c, hv⟩ := hm.form
  subst hv
  clear hm hk
  unfold Mt.v Cl.v
  go_enter Try.func3, Try.ntmps3
  go_wp2_with fail
  refine box2 (C := fun W => Calls _ _ _ W _) ?_
  intro wb hw k1 k2 hB0
  have R1 := boxRule k1
  have R2 := boxRule k2
  clear k1 k2
  have Hz1 := Lib.hid (fun W hW => szMethod_any m (.slice A m.l.length c) 1048576 W (Hm.out.to (bw_to hw hW)) (by omega) (by omega))
  have Hz2 := Lib.hid (fun k0 W => szCalls_any k k0 W Hk.out)
  unfold Mt.v Cl.v at *
  refine (Hz1.out _ hB0).mono ?_; rintro e w1 ⟨r, rfl, hr0, hr1, hrl, hb1⟩
  have Hrl := Lib.hid hrl
  clear hrl
  by_cases hneg : r < 0
  · go_wp2_with fail
    go_ret
    exact ⟨rfl, bw_to hw hb1⟩
  · have Sm := Lib.hid (Hrl.out (by omega))
    go_wp2_with fail
    refine (Hz2.out r _ (by omega) hr1).mono ?_; rintro e w2 ⟨r2, rfl, hr20, hr21, hrl2, hb2⟩
    have Hrl2 := Lib.hid hrl2
    have hB2 := bw_to hb1 hb2
    clear hrl2 hb1 hb2
    by_cases hneg2 : r2 < 0
    · go_wp2_with fail
      go_ret
      exact ⟨rfl, bw_to hw hB2⟩
    · have Sk := Lib.hid (Hrl2.out (by omega))
      have Hto := Lib.hid (fun W hW => toMethod_agK m (.slice A m.l.length c) W (Hm.out.to (bw_to hw hW)) Sm.out)
      have Htk := Lib.hid (fun W => toCalls_any k W)
      obtain ⟨s, b, hi, hs⟩ := sign_both m k x Sm.out Sk.out
      have Hi := Lib.hid hi
      have Hs := Lib.hid hs
      unfold Mt.v Cl.v at *
      clear hi hs
      have hdr : Below wb.heap.size wb w2.drew := hB2.drew
      go_upto_region 8 with fail
      go_cut [8, 9] (fun s8 s9 wx => s8 = .bool s ∧ s9 = .bool b ∧ Below wb.heap.size wb wx)
      case first =>
        go_region_held3 (fun W => Below wb.heap.size wb W) (first | with_reducible assumption | exact Below.drew (by assumption) | exact bw_to (by assumption) hb')
          (first | (go_at_call 10; refine (Hs.out _ _ ?_).mono ?_; (· first | exact tm | exact tm.to (by assumption)); rintro e w' ⟨rfl, hb'⟩; (have hBn := bw_to (by assumption : Below wb.heap.size wb _) hb')) | (go_at_call 12; refine (Htk.out _).mono ?_; rintro e w' ⟨rfl, hb'⟩; (have hBn := bw_to (by assumption : Below wb.heap.size wb _) hb'); (try (have tm := tm.to hb'))) | (go_at_call 11; refine (Hto.out _ (by assumption)).mono ?_; rintro e w' ⟨A1, c1, rfl, tm, hb'⟩; (have hBn := bw_to (by assumption : Below wb.heap.size wb _) hb')))
        all_goals
          have hBB : Below wb.heap.size wb w' := by assumption
          go_wp2_with fail
          go_meet
          exact ⟨rfl, rfl, hBB⟩
      case rest =>
        obtain ⟨rfl, rfl, hB3⟩ := hcut
        clear hB2 hdr
        go_wp2_with fail
        refine (Hto.out _ hB3).mono ?_; rintro e w4 ⟨A1, c1, rfl, tm, hb4⟩
        go_upto_region 10 with fail
        refine box1 (C := fun W => Code.wp _ _ _ _ W) ?_
        intro w5 hw5 k5 hB05
        have RB := boxRule k5
        have hB5 := bw_to hB3 (bw_to hb4 hw5)
        have T5 := Lib.hid (tm.to hw5)
        have R15 := fun W i hb => R1 W i (bw_to hB5 hb)
        have R25 := fun W i hb => R2 W i (bw_to hB5 hb)
        have HB5 := Lib.hid hB5
        have hdr5 : Below w5.heap.size w5 w5.drew := Below.drew (Below.refl _ _)
        clear tm hb4 hw5 k5 R1 R2 hB3 hB0
        go_cut [11, 12] (fun s11 s12 wx => s11 = .bool s ∧ s12 = .bool b ∧ Below w5.heap.size w5 wx)
        case first =>
          go_region_held3 (fun W => Below w5.heap.size w5 W) (first | with_reducible assumption | exact Below.drew (by assumption) | exact bw_to (by assumption) hb')
            (first | (go_at_call 13; refine (Hi.out _ _ ?_).mono ?_; (· exact T5.out.to (by assumption)); rintro e w' ⟨rfl, hb'⟩; (have hBn := bw_to (by assumption : Below w5.heap.size w5 _) hb')) | (go_at_call 12; refine (Htk.out _).mono ?_; rintro e w' ⟨rfl, hb'⟩; (have hBn := bw_to (by assumption : Below w5.heap.size w5 _) hb')))
          all_goals
            have hBB : Below w5.heap.size w5 w' := by assumption
            go_wp2_with fail
            go_meet
            exact ⟨rfl, rfl, hBB⟩
        case rest =>
          obtain ⟨rfl, rfl, hB6⟩ := hcut
          obtain ⟨w6, rfl⟩ : ∃ w6, w6 = wc := ⟨_, rfl⟩
          have hBw6 := bw_to HB5.out hB6
          clear hdr5
          have hst := Below.refl w6.heap.size w6
          have hd7 : Below w6.heap.size w6 w6.drew := Below.drew hst
          have RB7 := fun W i hb => RB W i (bw_to hB6 hb)
          have R17 := fun W i hb => R15 W i (bw_to hB6 hb)
          have R27 := fun W i hb => R25 W i (bw_to hB6 hb)
          clear RB R15 R25
          go_upto_region 13 with fail
          go_region_held3 (fun W => Below w6.heap.size w6 W) (first | with_reducible assumption | exact Below.drew (by assumption) | exact bw_to (by assumption) hb')
            (first | (go_at_call 14; refine (eqMethod_same m _ _ _ (Strs.to T5.out.1 (bw_to hB6 (by assumption))) tm.1).mono ?_; rintro e w' ⟨rfl, hb'⟩) | (go_at_call 11; refine (Hto.out _ (bw_to hBw6 (by assumption))).mono ?_; rintro e w' ⟨A1, c1, rfl, tm, hb'⟩))
          all_goals
            have hBB : Below w6.heap.size w6 w' := by assumption
            go_wp2_with fail
            go_ret
            exact ⟨rfl, bw_to hw (bw_to hBw6 hBB)⟩
end Go.Proofs.Ythgadnhkbmimiaa

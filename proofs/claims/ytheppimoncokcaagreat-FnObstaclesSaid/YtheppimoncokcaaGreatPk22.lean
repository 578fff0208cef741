/- Rings of a method with no bobs; obstacles: parts. -/
import Derived.Test.YtheppimoncokcaaGreatPk21
import Derived.Test.YtheppimoncokcaaGreatPk10
import Derived.Test.YtheppimoncokcaaGreatPk8
namespace Go.Proofs.YtheppimoncokcaaGreat
open Go Go.RowKit
set_option linter.unusedVariables false
set_option linter.unusedSimpArgs false

/-- All that counting rings asks. -/
structure CX (n : Nat) (P B Q : ByteArray) (bobs G : List ByteArray) (RR : ByteArray → Nat) (K : Nat) : Prop where
  hn : n ≤ 8
  hP : RowIn n P
  hB : RowIn n B
  hQ : RowIn n Q
  hGl : G.length ≤ 130
  hit : ∀ h ∈ G, ∀ j, RowIn n (iterB (nxB bobs P B) h j)
  hpm : ∀ h ∈ G, ∀ j, PermR n (iterB (nxB bobs P B) h j)
  hRR : ∀ h ∈ G, IsRing (nxB bobs P B) h (RR h) ∧ RR h ≤ 200
  ord : IsOrd n Q K
  kb : K ≤ 16777216
theorem bk_all {m : Mt} {k : Cl} {n T : Nat} {P B B' Q : ByteArray} (h : BK m k n T P B B' Q) : (∀ x ∈ cloB n [P, B] T, RowIn n x) ∧ (∀ x ∈ cloB n [P, B] T, PermR n x) ∧ (∀ x ∈ cloB n [P, B] T, Inv n x) := by
  refine ⟨clo_all (rounds_in h.hn) (fun x g hx hg => times_in hx (h.gin g hg)) T, clo_all (PermR.rounds h.hn) (fun x g hx hg => hx.times h.hn (h.gperm g hg)) T, clo_all (Inv.rounds h.hn) (fun x g hx hg => hx.times h.hn ?_) T⟩
  rcases List.mem_cons.1 hg with rfl | hg
  · exact h.invP
  · rw [List.mem_singleton.1 hg]; exact h.invB
theorem cx_of {m : Mt} {k : Cl} {n T : Nat} {P B B' Q : ByteArray} (h : BK m k n T P B B' Q) (hF : (cloB n [P, B] T).length ≤ 130) {bobs : List ByteArray} (hg : goodQ bobs Q) : ∃ RR K, CX n P B Q bobs (sortB (cloB n [P, B] T)) RR K := by
  obtain ⟨a1, a2, a3⟩ := bk_all h
  obtain ⟨K, hKb, hK⟩ := ord_ex h.hn h.invQ
  obtain ⟨F, hFd⟩ : ∃ F, F = cloB n [P, B] T := ⟨_, rfl⟩
  have hclo : ∀ x ∈ F, nxB bobs P B x ∈ F := fun x hx => by
    rw [hFd] at hx ⊢
    unfold nxB
    split
    · exact clo_closed h.clo hx (by simp)
    · exact clo_closed h.clo hx (by simp)
  have hinj : ∀ x ∈ F, ∀ y ∈ F, nxB bobs P B x = nxB bobs P B y → x = y := fun x hx y hy e => by
    rw [hFd] at hx hy
    exact nx_inj h.hn h.invP h.invB h.inv.hb h.inv.ab h.hQ h.invQ hg (a1 x hx) (a1 y hy) e
  have hex : ∀ x, ∃ R, x ∈ F → (R ≤ F.length ∧ IsRing (nxB bobs P B) x R) := fun x => by
    by_cases hx : x ∈ F
    · obtain ⟨R, h1, h2⟩ := ring_ex hclo hinj hx
      exact ⟨R, fun _ => ⟨h1, h2⟩⟩
    · exact ⟨0, fun h => absurd h hx⟩
  obtain ⟨RR, hRR⟩ := Classical.axiomOfChoice hex
  rw [← hFd] at a1 a2 a3 hF ⊢
  refine ⟨RR, K, h.hn, h.invP.1, h.invB.1, h.invQ.1, by rw [sortB_len]; exact hF, fun x hx j => a1 _ (iter_in hclo ((sortB_mem F x).1 hx) j), fun x hx j => a2 _ (iter_in hclo ((sortB_mem F x).1 hx) j), fun x hx => ?_, hK, hKb⟩
  have h2 := hRR x ((sortB_mem F x).1 hx)
  exact ⟨h2.2, by omega⟩
def ringN (P B : ByteArray) (bobs G : List ByteArray) (RR : ByteArray → Nat) : Nat := (rgs (nxB bobs P B) RR G []).length
theorem strs_nil (w : World) : Strs w (.slice none 0 0) [] := ⟨none, 0, rfl, by simp, by unfold maxLen; omega, Reads.none_⟩
theorem gb_set3 (w : World) (g : Nat) (u0 u1 u2 : Value) : w.grownBy (((w.setCell ⟨g, 0, none⟩ u0).setCell ⟨g, 1, none⟩ u1).setCell ⟨g, 2, none⟩ u2) (some g) :=
  gr_set (gr_set (gr_set (gr_refl w (some g)) u0) u1) u2
theorem gb_cellG {w w' : World} {g : Nat} (h : w.grownBy w' (some g)) {p : Addr} (hp : p.block < w.heap.size) (hn : p.block ≠ g) : w'.cell? p = w.cell? p := by
  have e := h.block p.block hp (fun x => hn (by injection x))
  unfold World.cell?
  rw [e]
def provB (N K : Int) : Bool := ((K.tmod 2 == 1) && (N.tmod 2 == 0)) || ((K == 1) && !(N == 1))
set_option maxRecDepth 100000 in
set_option maxHeartbeats 4000000 in
theorem obstacleS_any (n : Nat) (P B Q : ByteArray) (G : List ByteArray) (RR : ByteArray → Nat) (K : Nat) (gv : Value) (w : World) (hX : CX n P B Q [] G RR K) (hG : Strs w gv G) : Calls Tryz.prog 77 #[.agg #[.string P, .string B, .string Q, gv]] w fun e w' =>
    e = .returned (.agg #[.int .i64 (G.length : Int), .int .i64 (ringN P B [] G RR : Int), .int .i64 (K : Int)]) ∧ Below w.heap.size w w' := by
  have Hri := Lib.hid (fun W (hW : Below w.heap.size w W) => ringsS_any n P B Q G RR gv (.slice none 0 0) [] W hX.hn hX.hP hX.hB (hG.to hW) (by have := hX.hGl; omega) (strs_nil W) List.Pairwise.nil (by simp) hX.hit hX.hpm hX.hRR)
  have Hor := Lib.hid (fun W => l1Order_any Q n K W hX.hn hX.hQ hX.ord hX.kb)
  have hfew := rgs_len (nxB [] P B) RR G []
  obtain ⟨N, hN⟩ : ∃ N, N = (rgs (nxB [] P B) RR G []).length := ⟨_, rfl⟩
  have HN : Hid (ringN P B [] G RR = N) := Lib.hid (by rw [hN]; rfl)
  rw [← hN] at Hri hfew
  rw [HN.out]
  have hGl := hX.hGl
  obtain ⟨A, c, hv, h1, h2, _⟩ := hG
  subst hv
  unfold maxLen at h2
  clear hX hN HN
  go_enter Tryz.func77, Tryz.ntmps77
  go_wp2_with fail
  refine box2 (C := fun W => Code.wp _ _ _ _ W) ?_
  intro wb hw k1 k2 hB0
  have R1 := fun i W (hW : Below (w.heap.size + 1) wb W) => boxRuleB k1 (by omega) W i hW
  have R2 := boxRule k2
  have F2 := fun (j : Nat) w' hb => frozen_of_heap k2 j (w' := w') hb
  have hst : Below wb.heap.size wb wb := Below.refl _ _
  have hdr : Below wb.heap.size wb wb.drew := Below.drew (Below.refl _ _)
  have Hs := Lib.hid (Nat.le_of_lt (blk_lt k2))
  have hst1 := Below.refl (w.heap.size + 1) wb
  clear k1 k2
  go_region_held3 (fun w' => Below (w.heap.size + 1) wb w') (first | with_reducible assumption | exact Below.drew (by assumption) | exact Below.mono (by assumption : Below wb.heap.size wb _) Hs.out | exact set3_low (by assumption) (Nat.le_refl _))
    (first | (go_at_call 66; refine (Hri.out _ (bw_to hw (by assumption))).mono ?_; rintro e w' ⟨A5, q5, rfl, hb'⟩; (have hBn := bw_to (by assumption : Below wb.heap.size wb _) hb'); (have c0 := R2 _ 0 hBn); (have c1 := R2 _ 1 hBn); (have c2 := R2 _ 2 hBn); (have f0 := F2 0 _ hBn); (have f1 := F2 1 _ hBn); (have f2 := F2 2 _ hBn)) | (go_at_call 109; refine (Hor.out _).mono ?_; rintro e w' ⟨rfl, rfl⟩))
  all_goals
    go_wp2_with fail
    refine bodyPost_ret (v := .agg #[.int .i64 (G.length : Int), .int .i64 (N : Int), .int .i64 (K : Int)]) ?hr rfl ⟨rfl, ?hb⟩
    case hb => exact grow_set (grow_set (grow_set (bw_to hw hBn) (Nat.le_succ _) _) (Nat.le_succ _) _) (Nat.le_succ _) _
    case hr => simp [results, go_sem, c0, c1, c2]
set_option maxRecDepth 100000 in
set_option maxHeartbeats 4000000 in
theorem obstacleTo_yes (m : Mt) (v : Value) (k : Cl) (n T : Nat) (P B B' Q : ByteArray) (RR : ByteArray → Nat) (K : Nat) (w : World) (hK : BK m k n T P B B' Q) (hF : (cloB n [P, B] T).length ≤ 130) (hX : CX n P B Q [] (sortB (cloB n [P, B] T)) RR K) (h : MethAt w m v) (hs : MtSmall m) (hk : ClSmall k) :
    Calls Tryz.prog 75 #[m.v v, k.v] w fun e w' => e = .returned (.tuple #[.agg #[.int .i64 ((sortB (cloB n [P, B] T)).length : Int), .int .i64 (ringN P B [] (sortB (cloB n [P, B] T)) RR : Int), .int .i64 (K : Int)], .bool true]) ∧ Below w.heap.size w w' := by
  have Hnb := Lib.hid (fun W (hW : Below w.heap.size w W) => newBlocks_yes m v k n T P B B' Q W hK (h.to hW) hs hk)
  rw [grpL_yes hF, decide_eq_true hF] at Hnb
  obtain ⟨G, hG⟩ : ∃ G, G = sortB (cloB n [P, B] T) := ⟨_, rfl⟩
  rw [← hG] at Hnb hX ⊢
  have Hri := Lib.hid (fun gv W (hGv : Strs W gv G) => ringsI_any n P B Q G RR gv (.slice none 0 0) [] W hX.hn hX.hP hX.hB hGv (by have := hX.hGl; omega) (strs_nil W) List.Pairwise.nil (by simp) hX.hit hX.hRR)
  have Hpw := Lib.hid (fun W => powers_any Q n K W hX.hn hX.hQ hX.ord hX.kb)
  have hfew := rgs_len (nxB [] P B) RR G []
  obtain ⟨N, hN⟩ : ∃ N, N = (rgs (nxB [] P B) RR G []).length := ⟨_, rfl⟩
  have HN : Hid (ringN P B [] G RR = N) := Lib.hid (by rw [hN]; rfl)
  rw [← hN] at Hri hfew
  rw [HN.out]
  have hGl := hX.hGl
  have hkb := hX.kb
  obtain ⟨A, c, hv⟩ := h.form
  subst hv
  unfold Mt.v Cl.v at *
  clear hX hN HN h hK hG hF
  go_enter Tryz.func75, Tryz.ntmps75
  go_wp2_with fail
  refine box3s (C := fun W => Calls _ _ _ W _) ?_
  intro wb hw hwsz k1 k2 k3 hB0
  have R3 := fun i W hW => boxRule k3 W i hW
  have F3 := fun j W hb => frozen_of_heap k3 j (w' := W) hb
  have hz3 := blk_lt k3
  clear k1 k2 k3
  refine (Hnb.out _ hw).mono ?_; rintro e w1 ⟨A1, q1, rfl, hown1, hb1⟩
  have hgc := sl_cap hown1
  go_upto_region 4 with fail
  refine box1 (C := fun W => Code.wp _ _ _ _ W) ?_
  intro w2 hw2 k4 hB2
  have hb2 := bw_to hb1 hw2
  have hS2 : Strs w2 (.slice A1 G.length q1) G := (strs_of_own hown1).to hw2
  have hcm : q1 ≤ maxLen := by obtain ⟨_, _, e, _, hm, _⟩ := hS2; injection e with _ _ e; rw [e]; exact hm
  unfold maxLen at hcm
  have R4 := fun i W hW => boxRule k4 W i hW
  have r30 := fun W (hW : Below w2.heap.size w2 W) => R3 0 W (bw_to hb2 hW)
  have r31 := fun W (hW : Below w2.heap.size w2 W) => R3 1 W (bw_to hb2 hW)
  have r32 := fun W (hW : Below w2.heap.size w2 W) => R3 2 W (bw_to hb2 hW)
  have f30 := fun W (hW : Below w2.heap.size w2 W) => F3 0 W (bw_to hb2 hW)
  have f31 := fun W (hW : Below w2.heap.size w2 W) => F3 1 W (bw_to hb2 hW)
  have f32 := fun W (hW : Below w2.heap.size w2 W) => F3 2 W (bw_to hb2 hW)
  have hst : Below w2.heap.size w2 w2 := Below.refl _ _
  have hdr : Below w2.heap.size w2 w2.drew := Below.drew (Below.refl _ _)
  have R4s := fun i => R4 i w2 hst
  have R4d := fun i => R4 i w2.drew hdr
  have Hri2 := Lib.hid (fun W (hW : Below w2.heap.size w2 W) => Hri.out _ W (hS2.to hW))
  have hne : w1.heap.size ≠ w.heap.size + 2 := by have := hb1.size; omega
  have hlow : w.heap.size + 2 ≤ w2.heap.size := by have := hb2.size; omega
  obtain ⟨X, hX⟩ : ∃ X, X = w1.heap.size := ⟨_, rfl⟩
  have hS : ∀ W, Below w2.heap.size w2 W → (Below (w.heap.size + 2) w2 W ∧ W.cell? ⟨w1.heap.size, 0, none⟩ = some (.string P) ∧ W.cell? ⟨w1.heap.size, 1, none⟩ = some (.string B) ∧ W.cell? ⟨w1.heap.size, 2, none⟩ = some (.slice A1 G.length q1) ∧ W.cell? ⟨w1.heap.size, 3, none⟩ = some (.string Q)) := fun W hW => ⟨hW.mono hlow, R4 0 W hW, R4 1 W hW, R4 2 W hW, R4 3 W hW⟩
  have hSs : ∀ W, Below w2.heap.size w2 W → ∀ u0 u1 u2, (Below (w.heap.size + 2) w2 (((W.setCell ⟨w.heap.size + 2, 0, none⟩ u0).setCell ⟨w.heap.size + 2, 1, none⟩ u1).setCell ⟨w.heap.size + 2, 2, none⟩ u2) ∧ (((W.setCell ⟨w.heap.size + 2, 0, none⟩ u0).setCell ⟨w.heap.size + 2, 1, none⟩ u1).setCell ⟨w.heap.size + 2, 2, none⟩ u2).cell? ⟨w1.heap.size, 0, none⟩ = some (.string P) ∧ (((W.setCell ⟨w.heap.size + 2, 0, none⟩ u0).setCell ⟨w.heap.size + 2, 1, none⟩ u1).setCell ⟨w.heap.size + 2, 2, none⟩ u2).cell? ⟨w1.heap.size, 1, none⟩ = some (.string B) ∧ (((W.setCell ⟨w.heap.size + 2, 0, none⟩ u0).setCell ⟨w.heap.size + 2, 1, none⟩ u1).setCell ⟨w.heap.size + 2, 2, none⟩ u2).cell? ⟨w1.heap.size, 2, none⟩ = some (.slice A1 G.length q1) ∧ (((W.setCell ⟨w.heap.size + 2, 0, none⟩ u0).setCell ⟨w.heap.size + 2, 1, none⟩ u1).setCell ⟨w.heap.size + 2, 2, none⟩ u2).cell? ⟨w1.heap.size, 3, none⟩ = some (.string Q)) := fun W hW u0 u1 u2 => by
    have hg := gb_set3 W (w.heap.size + 2) u0 u1 u2
    have hx : w1.heap.size < W.heap.size := Nat.lt_of_lt_of_le (by have := hw2.size; have := blk_lt k4; omega) hW.size
    have hc := fun i => gb_cellG hg (p := ⟨w1.heap.size, i, none⟩) hx hne
    exact ⟨set3_low (hW.mono hlow) (Nat.le_refl _), (hc 0).trans (R4 0 W hW), (hc 1).trans (R4 1 W hW), (hc 2).trans (R4 2 W hW), (hc 3).trans (R4 3 W hW)⟩
  have HS := Lib.hid hS
  have HSs := Lib.hid hSs
  clear hown1 R3 F3 hS2 k4 hS hSs R4s R4d
  go_region_held3 (fun W => Below (w.heap.size + 2) w2 W ∧ W.cell? ⟨w1.heap.size, 0, none⟩ = some (.string P) ∧ W.cell? ⟨w1.heap.size, 1, none⟩ = some (.string B) ∧ W.cell? ⟨w1.heap.size, 2, none⟩ = some (.slice A1 G.length q1) ∧ W.cell? ⟨w1.heap.size, 3, none⟩ = some (.string Q)) (first | exact HS.out _ (by with_reducible assumption) | exact HSs.out _ (by with_reducible assumption) _ _ _)
    (first | (go_at_call 65; refine (Hri2.out _ (by assumption)).mono ?_; rintro e w' ⟨A5, q5, rfl, hb'⟩; (have hBn := bw_to (by assumption : Below w2.heap.size w2 _) hb'); (have c30 := r30 _ hBn); (have c31 := r31 _ hBn); (have c32 := r32 _ hBn); (have g30 := f30 _ hBn); (have g31 := f31 _ hBn); (have g32 := f32 _ hBn)) | (go_at_call 58; refine (Hpw.out _).mono ?_; rintro e w' ⟨A6, q6, rfl, _, hb''⟩; (have hBn := bw_to (by assumption : Below w2.heap.size w2 _) hb''); (have c30 := r30 _ hBn); (have c31 := r31 _ hBn); (have c32 := r32 _ hBn); (have g30 := f30 _ hBn); (have g31 := f31 _ hBn); (have g32 := f32 _ hBn)))
  all_goals
    go_wp2_with fail
    refine bodyPost_ret (v := .tuple #[.agg #[.int .i64 (G.length : Int), .int .i64 (N : Int), .int .i64 (K : Int)], .bool true]) (by simp [results, go_sem, c30, c31, c32]) rfl ⟨rfl, ?_⟩
    exact grow_set (grow_set (grow_set (bw_to hw (bw_to hb2 hBn)) (Nat.le_add_right _ 2) _) (Nat.le_add_right _ 2) _) (Nat.le_add_right _ 2) _
/-- A method and calls without a group of at most 130 rows. -/
def BadBlk (m : Mt) (k : Cl) : Prop := callsB m k = false ∨ ∃ n T P B B' Q, BK m k n T P B B' Q ∧ ¬ (cloB n [P, B] T).length ≤ 130
theorem blk_cases (m : Mt) (k : Cl) : BadBlk m k ∨ ∃ n T P B B' Q, BK m k n T P B B' Q ∧ (cloB n [P, B] T).length ≤ 130 := by
  cases h : callsB m k
  · exact .inl (.inl h)
  · obtain ⟨n, T, P, B, B', Q, hK⟩ := bk_of h
    by_cases hF : (cloB n [P, B] T).length ≤ 130
    · exact .inr ⟨n, T, P, B, B', Q, hK, hF⟩
    · exact .inl (.inr ⟨n, T, P, B, B', Q, hK, hF⟩)
theorem newBlocks_bad (m : Mt) (v : Value) (k : Cl) (w : World) (hb : BadBlk m k) (h : MethAt w m v) (hs : MtSmall m) (hk : ClSmall k) : Calls Tryz.prog 55 #[m.v v, k.v] w fun e w' =>
    ∃ (a b d : ByteArray) (A : Option Addr) (l q : Nat), e = .returned (.tuple #[.agg #[.string a, .string b, .slice A l q, .string d], .bool false]) ∧ Below w.heap.size w w' := by
  rcases hb with hb | ⟨n, T, P, B, B', Q, hK, hF⟩
  · exact (newBlocks_no m v k w hb h hs hk).mono fun e w' ⟨h1, h2⟩ => ⟨_, _, _, _, _, _, h1, h2⟩
  · refine (newBlocks_yes m v k n T P B B' Q w hK h hs hk).mono ?_
    rintro e w' ⟨A, q, rfl, _, h2⟩
    exact ⟨_, _, _, _, _, _, by rw [decide_eq_false hF], h2⟩
theorem l17Of_bad (m : Mt) (v : Value) (k : Cl) (w : World) (hb : BadBlk m k) (h : MethAt w m v) (hs : MtSmall m) (hk : ClSmall k) : Calls Tryz.prog 61 #[m.v v, k.v] w fun e w' =>
    ∃ (a b d : ByteArray) (A : Option Addr) (l q : Nat), e = .returned (.tuple #[.agg #[.string a, .string b, .string d, .slice A l q], .bool false]) ∧ Below w.heap.size w w' := by
  rcases hb with hb | ⟨n, T, P, B, B', Q, hK, hF⟩
  · exact (l17Of_no m v k w hb h hs hk).mono fun e w' ⟨h1, h2⟩ => ⟨_, _, _, _, _, _, h1, h2⟩
  · refine (l17Of_yes m v k n T P B B' Q w hK h hs hk).mono ?_
    rintro e w' ⟨A, q, rfl, _, h2⟩
    exact ⟨_, _, _, _, _, _, by rw [decide_eq_false hF], h2⟩
set_option maxHeartbeats 2000000 in
theorem obstacleTo_no (m : Mt) (v : Value) (k : Cl) (w : World) (hb : BadBlk m k) (h : MethAt w m v) (hs : MtSmall m) (hk : ClSmall k) : Calls Tryz.prog 75 #[m.v v, k.v] w fun e w' => e = .returned (.tuple #[.agg #[.int .i64 0, .int .i64 0, .int .i64 0], .bool false]) ∧ Below w.heap.size w w' := by
  have Hnb := Lib.hid (fun W (hW : Below w.heap.size w W) => newBlocks_bad m v k W hb (h.to hW) hs hk)
  obtain ⟨A, c, hv⟩ := h.form
  subst hv
  unfold Mt.v Cl.v at *
  clear h hb
  go_enter Tryz.func75, Tryz.ntmps75
  go_wp2_with fail
  refine box3s (C := fun W => Calls _ _ _ W _) ?_
  intro wb hw hwsz k1 k2 k3 hB0
  have R3 := boxRule k3
  have F3 := fun j W hb => frozen_of_heap k3 j (w' := W) hb
  clear k1 k2 k3
  refine (Hnb.out _ hw).mono ?_; rintro e w1 ⟨a, b, d, A1, l1, q1, rfl, hb1⟩
  have hB1 := bw_al hb1 (.cells #[.string a, .string b, .slice A1 l1 q1, .string d] 72)
  have r0 := R3 _ 0 hB1
  have r1 := R3 _ 1 hB1
  have r2 := R3 _ 2 hB1
  have f0 := F3 0 _ hB1
  have f1 := F3 1 _ hB1
  have f2 := F3 2 _ hB1
  have Hend := Lib.hid (bw_to hw hB1)
  go_wp2_with fail
  refine bodyPost_ret (v := .tuple #[.agg #[.int .i64 0, .int .i64 0, .int .i64 0], .bool false]) (by simp [results, go_sem, r0, r1, r2]) rfl ⟨rfl, ?_⟩
  exact grow_set (grow_set (grow_set Hend.out (Nat.le_add_right _ 2) _) (Nat.le_add_right _ 2) _) (Nat.le_add_right _ 2) _
theorem proves_any (a N K : Int) (w : World) : Calls Tryz.prog 76 #[.agg #[.int .i64 a, .int .i64 N, .int .i64 K]] w fun e w' => e = .returned (.bool (provB N K)) ∧ Below w.heap.size w w' := by
  have HD : Hid (provB N K = (((K.tmod 2 == 1) && (N.tmod 2 == 0)) || ((K == 1) && !(N == 1)))) := Lib.hid rfl
  cases h1 : (K.tmod 2 == 1) <;> cases h2 : (N.tmod 2 == 0) <;> cases h3 : (K == 1)
  all_goals
    rw [h1, h2, h3] at HD
    go_enter Tryz.func76, Tryz.ntmps76
    go_wp2_with fail
    go_ret
    exact ⟨ret_bool (by rw [HD.out]; simp [bne]), bw_al (Below.refl _ _) _⟩
theorem l18Blocks_any (a N K : Int) (w : World) : Calls Tryz.prog 78 #[.agg #[.int .i64 a, .int .i64 N, .int .i64 K]] w fun e w' => e = .returned (.bool (provB N K)) ∧ Below w.heap.size w w' := by
  have HD : Hid (provB N K = (((K.tmod 2 == 1) && (N.tmod 2 == 0)) || ((K == 1) && !(N == 1)))) := Lib.hid rfl
  cases h1 : (K.tmod 2 == 1) <;> cases h2 : (N.tmod 2 == 0) <;> cases h3 : (K == 1)
  all_goals
    rw [h1, h2, h3] at HD
    go_enter Tryz.func78, Tryz.ntmps78
    go_wp2_with fail
    go_ret
    exact ⟨ret_bool (by rw [HD.out]; simp [bne]), bw_al (Below.refl _ _) _⟩
end Go.Proofs.YtheppimoncokcaaGreat

/- impl.leftTimes, impl.sorted, impl.blocks.setOf. -/
namespace Go.Proofs.YtheppimoncokcaaGreat
open Go Go.RowKit
set_option linter.unusedVariables false
set_option linter.unusedSimpArgs false

theorem nilOk_own {w : World} {base n c : Nat} {e : TypeId} {A : Option Addr} {xs : List Value} (h : w.ownsRow base e 1 (.slice A n c) n xs) (hn : 1 ≤ n) : NilOk (.slice A n c) := by
  obtain ⟨g, rfl, _⟩ := own_ptr h hn
  intro a b hh
  cases hh
theorem strs_own_n {w : World} {base n q : Nat} {A : Option Addr} {l : List ByteArray} (hl : l.length = n) (h : w.ownsRow base 9 1 (.slice A n q) n (l.map Value.string)) : Strs w (.slice A n q) l := by
  subst hl; exact strs_of_own h
set_option maxRecDepth 10000 in
set_option maxHeartbeats 2000000 in
theorem leftTimes_any (a : ByteArray) (V : Value) (l : List ByteArray) (w : World) (ha : a.size ≤ 1048576) (hV : Strs w V l) (hl : l.length ≤ 100000000) (hin : ∀ b ∈ l, b.size ≤ 1048576 ∧ ∀ i (h : i < b.size), 49 ≤ b[i].toNat ∧ b[i].toNat < 49 + a.size) : Calls Tryz.prog 94 #[.string a, V] w fun e w' =>
    ∃ A q, e = .returned (.slice A l.length q) ∧ w'.ownsRow w.heap.size 9 1 (.slice A l.length q) l.length ((l.map (timesB a)).map Value.string) ∧ Below w.heap.size w w' := by
  obtain ⟨A, c, rfl, h1, h2, hrd⟩ := hV
  unfold maxLen at h2
  have Htm := Lib.hid (fun b (hb : b ∈ l) W => times_any a b W ha (hin b hb).1 (hin b hb).2)
  clear hin
  go_enter Tryz.func94, Tryz.ntmps94
  go_wp2_with fail
  refine box1 (C := fun W => Code.wp _ _ _ _ W) ?_
  intro wb hw k1 hB0
  have hown0 : wb.ownsRow w.heap.size 9 1 (.slice (some ⟨w.heap.size, 0, none⟩) 0 0) 0 [] := own_of_heap k1 (Nat.le_refl _) (by unfold maxLen; omega) rfl
  clear k1
  go_loopw [5, 11] (fun o i wr => ∃ (k : Nat) (A' : Option Addr) (q : Nat), k ≤ l.length ∧ i = .int .i64 k ∧ o = .slice A' k q ∧ wr.ownsRow w.heap.size 9 1 (.slice A' k q) k (((l.take k).map (timesB a)).map Value.string) ∧ Below w.heap.size w wr) (fun _ i _ => l.length - (intOf i).toNat)
  case atStart => exact ⟨0, _, 0, by omega, rfl, rfl, hown0, hw⟩
  case round =>
    obtain ⟨k, A', q, hk, rfl, rfl, hown, hB⟩ := hrel
    by_cases hlt : k < l.length
    · obtain ⟨ad, rfl, hC⟩ := strs_el hrd hlt
      have hC0 := hC wr hB
      have Hs : Hid ((l.take (k + 1)).map (timesB a) = (l.take k).map (timesB a) ++ [timesB a l[k]]) := Lib.hid (by rw [List.take_succ_eq_append_getElem hlt, List.map_append]; rfl)
      have Ht := Lib.hid (Htm.out l[k] (List.getElem_mem hlt))
      obtain ⟨c', hc'⟩ : ∃ c, c = l[k] := ⟨_, rfl⟩
      rw [← hc'] at hC0 Hs Ht
      clear hC hc'
      go_wp2_with fail
      refine (Ht.out _).mono ?_; rintro e w2 ⟨rfl, hb2⟩
      have hown2 := own_to hown hb2
      have hB2 := bw_to hB hb2
      obtain ⟨y, hy⟩ : ∃ y, y = timesB a c' := ⟨_, rfl⟩
      rw [← hy] at Hs ⊢
      clear hy
      go_wp2_with (at_builtin; go_must (refine wpList_app _ rfl _ _ _ rfl w.heap.size 9 _ 1 16 Tryz.underlying24 info_str rfl (by omega) hown2 [.string y] rfl rfl rfl (one_mem rfl) (by omega) (by omega) hB2.size ?_); intro v2 w3 hown3 hb3 hg3 _)
      obtain ⟨A2, q2, e2, _⟩ := sl_of_own hown3
      subst e2
      refine ⟨⟨k + 1, A2, q2, by omega, by go_num, rfl, ?_, hB2.trans hb3⟩, by simp [intOf]; omega⟩
      rw [← str_snoc Hs.out]
      exact hown3
    · obtain rfl : k = l.length := by omega
      rw [List.take_length] at hown
      go_wp2_with fail
      go_ret
      exact ⟨_, _, rfl, hown, hB⟩
set_option maxHeartbeats 2000000 in
theorem sorted_any (V : Value) (l : List ByteArray) (w : World) (hV : Strs w V l) (hN : NilOk V) (h1 : 1 ≤ l.length) (hl : l.length ≤ 20000000) : Calls Tryz.prog 93 #[V] w fun e w' =>
    ∃ A q, e = .returned (.slice A l.length q) ∧ w'.ownsRow w.heap.size 9 1 (.slice A l.length q) l.length ((sortB l).map Value.string) ∧ Below w.heap.size w w' := by
  have Hc := Lib.hid (cloneStr_any V l w hV hN hl)
  clear hV
  go_enter Tryz.func93, Tryz.ntmps93
  go_wp2_with fail
  refine Hc.out.mono ?_; rintro e w1 ⟨r, rfl, hown, hb1⟩
  obtain ⟨A, c, rfl, _⟩ := sl_of_own hown
  obtain ⟨g, rfl, hg⟩ := own_ptr hown (by omega)
  have Hs := Lib.hid (sortS_any g l.length c w.heap.size l w1 hown (by omega))
  clear hown
  go_wp2_with fail
  refine Hs.out.mono ?_; rintro e w2 ⟨rfl, hown2, hb2, hz⟩
  go_wp2_with fail
  go_ret
  exact ⟨_, _, rfl, hown2, bw_tr hb1 hb2 (Nat.le_refl _)⟩
set_option maxHeartbeats 2000000 in
theorem setOfI_any (n K : Nat) (P B Q h : ByteArray) (gv : Value) (w : World) (hn : n ≤ 8) (hQ : RowIn n Q) (hh : RowIn n h) (hK : IsOrd n Q K) (hKb : K ≤ 16777216) (hf : ∃ A l c, gv = .slice A l c) : Calls Tryz.prog 56 #[.agg #[.string P, .string B, gv, .string Q], .string h] w fun e w' =>
    ∃ A q, e = .returned (.slice A K q) ∧ w'.ownsRow w.heap.size 9 1 (.slice A K q) K ((sortB (setB n Q h K)).map Value.string) ∧ Below w.heap.size w w' := by
  have hK1 := hK.1
  have Hp := Lib.hid (fun W => powers_any Q n K W hn hQ hK (by omega))
  have Hl := Lib.hid (fun V W (hV : Strs W V (powL n Q K)) => leftTimes_any h V (powL n Q K) W (by rw [hh.1]; omega) hV (by rw [powL_len]; omega) (fun b hb => by
    obtain ⟨j, _, rfl⟩ := List.mem_map.1 hb
    exact ⟨by rw [(pow_in hn hQ j).1]; omega, row_hin hh.1 (pow_in hn hQ j)⟩))
  have Hs := Lib.hid (fun V W (hV : Strs W V (setB n Q h K)) (hN : NilOk V) => sorted_any V (setB n Q h K) W hV hN (by rw [setB_len]; omega) (by rw [setB_len]; omega))
  rw [powL_len] at Hl
  rw [setB_len] at Hs
  obtain ⟨A, l, c, rfl⟩ := hf
  clear hK hQ hh
  go_enter Tryz.func56, Tryz.ntmps56
  go_wp2_with fail
  refine box1 (C := fun W => Calls _ _ _ W _) ?_
  intro wb hw k1 hB0
  clear k1
  refine (Hp.out _).mono ?_; rintro e w1 ⟨A1, q1, rfl, hown1, hb1⟩
  have hB1 := bw_to hw hb1
  have S1 := strs_own_n (powL_len n Q K) hown1
  go_wp2_with fail
  refine (Hl.out _ _ S1).mono ?_; rintro e w2 ⟨A2, q2, rfl, hown2, hb2⟩
  have hB2 := bw_to hB1 hb2
  have S2 : Strs w2 (.slice A2 K q2) (setB n Q h K) := strs_own_n (setB_len n Q h K) hown2
  have hN := nilOk_own hown2 hK1
  clear hown1 S1 hown2
  go_wp2_with fail
  refine (Hs.out _ _ S2 hN).mono ?_; rintro e w3 ⟨A3, q3, rfl, hown3, hb3⟩
  go_wp2_with fail
  go_ret
  exact ⟨_, _, rfl, own_base hown3 hB2.size, bw_to hB2 hb3⟩
end Go.Proofs.YtheppimoncokcaaGreat

/- Joining rings on both sides. (Printed by a program: tools/mkIQ.py.) -/
import Derived.Test.YtheppimoncokcaaGreatPk32
namespace Go.Proofs.YtheppimoncokcaaGreat
open Go Go.RowKit
set_option linter.unusedVariables false
set_option linter.unusedSimpArgs false

/-- What a search for a joining set answers. -/
def JPost (w : World) (o : Option (List ByteArray)) (e : Ending) (w' : World) : Prop :=
  ∃ x : Value, e = .returned (.tuple #[x, .bool o.isSome]) ∧ (∀ m, o = some m → w'.ownsRow w.heap.size 9 1 x m.length (m.map Value.string)) ∧ Below w.heap.size w w'
/-- All that joining asks of a group. -/
structure JG (n K : Nat) (P B Q : ByteArray) (G : List ByteArray) (RR : List ByteArray → ByteArray → Nat) : Prop where
  hn : n ≤ 8
  hGs : SortedS G
  hGl : G.length ≤ 130
  hQ : Inv n Q
  hK : IsOrd n Q K
  hKb : K ≤ 16777216
  hI : ∀ x ∈ G, Inv n x
  hX : ∀ b, BG G b Q → CX n P B Q b G (RR b) K
  hA : ∀ b, BG G b Q → ∀ x ∈ G, BG G (addS b (sortB (setB n Q x K))) Q
def cntB (P B : ByteArray) (G : List ByteArray) (RR : List ByteArray → ByteArray → Nat) (b : List ByteArray) : Nat := (rgs (nxB b P B) (RR b) G []).length
def setF (n K : Nat) (Q x : ByteArray) : List ByteArray := sortB (setB n Q x K)
theorem jg_of {m : Mt} {k : Cl} {n T : Nat} {P B B' Q : ByteArray} (h : BK m k n T P B B' Q) (hF : (cloB n [P, B] T).length ≤ 130) : ∃ RR K, JG n K P B Q (sortB (cloB n [P, B] T)) RR := by
  obtain ⟨RR, K, hO, hKb, hX⟩ := cx_all h hF
  exact ⟨RR, K, h.hn, sortB_sorted _, by rw [sortB_len]; exact hF, h.invQ, hO, hKb, fun x hx => (bk_all h).2.2 x ((sortB_mem _ _).1 hx), fun b hb => hX b hb.2, fun b hb x hx => bg_add h hO hx hb⟩
set_option maxRecDepth 100000 in
set_option maxHeartbeats 4000000 in
theorem joiningI_any (n K : Nat) (P B Q : ByteArray) (G bobs : List ByteArray) (RR : List ByteArray → ByteArray → Nat) (gv Vb : Value) (w : World) (hJ : JG n K P B Q G RR) (hG : Strs w gv G) (hV : Strs w Vb bobs) (hN : NilOk Vb) (hbg : BG G bobs Q) :
    Calls Tryz.prog 71 #[.agg #[.string P, .string B, gv, .string Q], Vb] w (JPost w (joinF (cntB P B G RR) (setF n K Q) bobs G)) := by
  have hGl := hJ.hGl
  have hn := hJ.hn
  have hQ := hJ.hQ
  have hK := hJ.hK
  have hKb := hJ.hKb
  have hbl : bobs.length ≤ 130 := by have := hbg.1.len; omega
  have hgf : ∃ A l c, gv = .slice A l c := by obtain ⟨A, c, e, _⟩ := hG; exact ⟨A, _, c, e⟩
  have hcl : ∀ b, cntB P B G RR b ≤ 130 := fun b => Nat.le_trans (rgs_len _ _ G []) hGl
  have Hri := Lib.hid (fun b (hb : BG G b Q) V W (hW : Below w.heap.size w W) (hV : Strs W V b) => by
    have hX := hJ.hX b hb
    have hs := hb.1.2.sorted
    have hbl : b.length ≤ 1000000 := by have := hb.1.len; omega
    have hG := hG.to hW
    exact ringsI_any n P B Q G (RR b) gv V b W hX.hn hX.hP hX.hB hG (by omega) hV hs hbl hX.hit hX.hRR)
  have Hha := Lib.hid (fun x W (hW : Below w.heap.size w W) => by
    have hV := hV.to hW
    exact has_any Vb bobs x W hV (hbg.1.2.sorted) (by omega))
  have Hws := Lib.hid (fun x (hx : x ∈ G) W (hW : Below w.heap.size w W) => by
    have hV := hV.to hW
    have hx := hJ.hI x hx
    exact withSet_any n K P B Q x gv Vb bobs W hn hQ.1 hx.1 hK hKb hgf hV hN hbg.1.2.sorted hbg.1.2.nodup (by omega))
  have HA := Lib.hid (hJ.hA bobs hbg)
  have Hcl := Lib.hid hcl
  have HVV := Lib.hid hV
  have Hbg := Lib.hid hbg
  have Hin := Lib.hid (fun (k : Nat) (hk : k < G.length) h => joinF_in (cnt := cntB P B G RR) (S := setF n K Q) (b := bobs) hk h)
  have Hye := Lib.hid (fun (k : Nat) (hk : k < G.length) h h2 => joinF_yes (cnt := cntB P B G RR) (S := setF n K Q) (b := bobs) hk h h2)
  have Hno := Lib.hid (fun (k : Nat) (hk : k < G.length) h h2 => joinF_no (cnt := cntB P B G RR) (S := setF n K Q) (b := bobs) hk h h2)
  obtain ⟨o, ho⟩ : ∃ o, o = joinF (cntB P B G RR) (setF n K Q) bobs G := ⟨_, rfl⟩
  rw [← ho]
  have Ho := Lib.hid (show joinF (cntB P B G RR) (setF n K Q) bobs (G.drop 0) = o by rw [ho]; rfl)
  obtain ⟨Ab, cb, rfl⟩ : ∃ A c, Vb = .slice A bobs.length c := by obtain ⟨A, c, e, _⟩ := hV; exact ⟨A, c, e⟩
  obtain ⟨Ag, cg, rfl, hgc, hgm, hrd⟩ := hG
  unfold maxLen at hgm
  clear hJ hV hN hbg hgf hK hQ ho hcl
  go_enter Tryz.func71, Tryz.ntmps71
  go_wp2_with fail
  refine box1 (C := fun W => Calls _ _ _ W _) ?_
  intro wb hw k1 hB0
  have R1 := boxRule k1
  clear k1
  refine (Hri.out bobs Hbg.out _ wb hw (HVV.out.to hw)).mono ?_; rintro e w1 ⟨A0, q0, rfl, hb1⟩
  obtain ⟨N, hN⟩ : ∃ N, N = (rgs (nxB bobs P B) (RR bobs) G []).length := ⟨_, rfl⟩
  rw [← hN]
  have HN : Hid (cntB P B G RR bobs = N) := Lib.hid (by rw [hN]; rfl)
  have hNb : N ≤ 130 := by rw [← HN.out]; exact Hcl.out bobs
  have R2 := fun i => R1 w1 i hb1
  clear hN
  go_wp2_with fail
  go_loopw [17] (fun i wr => ∃ k : Nat, k ≤ G.length ∧ i = .int .i64 k ∧ joinF (cntB P B G RR) (setF n K Q) bobs (G.drop k) = o ∧ Below wb.heap.size wb wr) (fun i _ => G.length - (intOf i).toNat)
  case atStart => exact ⟨0, by omega, rfl, Ho.out, hb1⟩
  case round =>
    obtain ⟨k, hk, rfl, hj, hB⟩ := hrel
    have Hj := Lib.hid hj
    clear hj R2
    by_cases hlt : k < G.length
    · obtain ⟨ad, rfl, hC⟩ := strs_el hrd hlt
      have hC0 := hC wr (bw_to hw hB)
      have hxm := List.getElem_mem hlt
      have Hh := Lib.hid (fun W hW => Hha.out G[k] W hW)
      have Hw := Lib.hid (fun W hW => Hws.out G[k] hxm W hW)
      have HbA := Lib.hid (HA.out G[k] hxm)
      have Hi := Lib.hid (fun h => (Hin.out k hlt h).symm.trans Hj.out)
      have Hy := Lib.hid (fun h h2 => Hj.out.symm.trans (Hye.out k hlt h h2))
      have Hn := Lib.hid (fun h h2 => (Hno.out k hlt h h2).symm.trans Hj.out)
      obtain ⟨x, hx⟩ : ∃ x, x = G[k] := ⟨_, rfl⟩
      rw [← hx] at hC0 Hh Hw HbA Hi Hy Hn
      have R3 := fun i => R1 wr i hB
      clear hC hxm hx
      cases hd : decide (x ∈ bobs)
      · have hne := Lib.hid (of_decide_eq_false hd)
        rw [hd] at Hh
        clear Hi
        go_wp2_with (go_at_call 50; refine (Hh.out _ (bw_to hw hB)).mono ?_; rintro e w' ⟨rfl, rfl⟩)
        refine (Hw.out _ (bw_to hw hB)).mono ?_; rintro e w3 ⟨A3, q3, rfl, hown3, hb3⟩
        have hB3 := bw_to hB hb3
        have Hown3 := Lib.hid hown3
        obtain ⟨Y, hY⟩ : ∃ Y, Y = addS bobs (sortB (setB n Q x K)) := ⟨_, rfl⟩
        have HY : Hid (addS bobs (setF n K Q x) = Y) := Lib.hid hY.symm
        rw [← hY] at Hown3 HbA ⊢
        have HbW := Lib.hid (Nat.le_trans hw.size hB.size)
        have R4 := fun i => R1 w3 i hB3
        clear hown3 hY R3
        go_wp2_with fail
        refine (Hri.out Y HbA.out _ _ (bw_to hw hB3) (strs_of_own Hown3.out)).mono ?_; rintro e w4 ⟨A4, q4, rfl, hb4⟩
        obtain ⟨N4, hN4⟩ : ∃ N, N = (rgs (nxB Y P B) (RR Y) G []).length := ⟨_, rfl⟩
        rw [← hN4]
        have HN4 : Hid (cntB P B G RR Y = N4) := Lib.hid (by rw [hN4]; rfl)
        have hN4b : N4 ≤ 130 := by rw [← HN4.out]; exact Hcl.out Y
        have hB4 := bw_to hB3 hb4
        have Hown4 := Lib.hid (own_base (own_to Hown3.out hb4) HbW.out)
        clear hN4 R4
        by_cases hls : N4 < N
        · have He : Hid (o = some Y) := Lib.hid (by
            have h := Hy.out hne.out (by rw [HY.out, HN4.out, HN.out]; exact hls)
            rw [HY.out] at h; exact h)
          go_wp2_with fail
          go_ret2
          exact ⟨_, by rw [He.out]; rfl, fun m hm => (by rw [He.out] at hm; injection hm with hm; subst hm; exact Hown4.out), bw_to hw hB4⟩
        · have He := Lib.hid (Hn.out hne.out (by rw [HY.out, HN4.out, HN.out]; exact hls))
          go_wp2_with fail
          exact ⟨⟨k + 1, by omega, by go_num, He.out, hB4⟩, by simp [intOf]; omega⟩
      · have He := Lib.hid (Hi.out (of_decide_eq_true hd))
        rw [hd] at Hh
        clear Hy Hn
        go_wp2_with (go_at_call 50; refine (Hh.out _ (bw_to hw hB)).mono ?_; rintro e w' ⟨rfl, rfl⟩)
        exact ⟨⟨k + 1, by omega, by go_num, He.out, hB⟩, by simp [intOf]; omega⟩
    · obtain rfl : k = G.length := by omega
      have He : Hid (o = none) := Lib.hid (by
        have h := Hj.out
        rw [List.drop_length] at h
        exact h.symm)
      go_wp2_with fail
      go_ret2
      exact ⟨_, by rw [He.out]; rfl, fun m hm => (by rw [He.out] at hm; cases hm), bw_to hw hB⟩
set_option maxRecDepth 100000 in
set_option maxHeartbeats 4000000 in
theorem betterS_any (n K : Nat) (P B Q : ByteArray) (G bobs : List ByteArray) (RR : List ByteArray → ByteArray → Nat) (gv Vb : Value) (w : World) (hJ : JG n K P B Q G RR) (hG : Strs w gv G) (hV : Strs w Vb bobs) (hN : NilOk Vb) (hbg : BG G bobs Q) :
    Calls Tryz.prog 72 #[.agg #[.string P, .string B, .string Q, gv], Vb] w (JPost w (joinF (cntB P B G RR) (setF n K Q) bobs G)) := by
  have hGl := hJ.hGl
  have hn := hJ.hn
  have hQ := hJ.hQ
  have hK := hJ.hK
  have hKb := hJ.hKb
  have hbl : bobs.length ≤ 130 := by have := hbg.1.len; omega
  have hgf : ∃ A l c, gv = .slice A l c := by obtain ⟨A, c, e, _⟩ := hG; exact ⟨A, _, c, e⟩
  have hcl : ∀ b, cntB P B G RR b ≤ 130 := fun b => Nat.le_trans (rgs_len _ _ G []) hGl
  have Hri := Lib.hid (fun b (hb : BG G b Q) V W (hW : Below w.heap.size w W) (hV : Strs W V b) => by
    have hX := hJ.hX b hb
    have hs := hb.1.2.sorted
    have hbl : b.length ≤ 1000000 := by have := hb.1.len; omega
    have hG := hG.to hW
    exact ringsS_any n P B Q G (RR b) gv V b W hX.hn hX.hP hX.hB hG (by omega) hV hs hbl hX.hit hX.hpm hX.hRR)
  have Hha := Lib.hid (fun x W (hW : Below w.heap.size w W) => by
    have hV := hV.to hW
    exact l1HasS_any Vb bobs x W hV)
  have Hws := Lib.hid (fun x (hx : x ∈ G) W (hW : Below w.heap.size w W) => by
    have hV := hV.to hW
    have hx := hJ.hI x hx
    exact addSetS_any n K P B Q x gv Vb bobs W hn hQ hx hK hKb hgf hV hN hbg.1.2.sorted (by omega))
  have HA := Lib.hid (hJ.hA bobs hbg)
  have Hcl := Lib.hid hcl
  have HVV := Lib.hid hV
  have Hbg := Lib.hid hbg
  have Hin := Lib.hid (fun (k : Nat) (hk : k < G.length) h => joinF_in (cnt := cntB P B G RR) (S := setF n K Q) (b := bobs) hk h)
  have Hye := Lib.hid (fun (k : Nat) (hk : k < G.length) h h2 => joinF_yes (cnt := cntB P B G RR) (S := setF n K Q) (b := bobs) hk h h2)
  have Hno := Lib.hid (fun (k : Nat) (hk : k < G.length) h h2 => joinF_no (cnt := cntB P B G RR) (S := setF n K Q) (b := bobs) hk h h2)
  obtain ⟨o, ho⟩ : ∃ o, o = joinF (cntB P B G RR) (setF n K Q) bobs G := ⟨_, rfl⟩
  rw [← ho]
  have Ho := Lib.hid (show joinF (cntB P B G RR) (setF n K Q) bobs (G.drop 0) = o by rw [ho]; rfl)
  obtain ⟨Ab, cb, rfl⟩ : ∃ A c, Vb = .slice A bobs.length c := by obtain ⟨A, c, e, _⟩ := hV; exact ⟨A, c, e⟩
  obtain ⟨Ag, cg, rfl, hgc, hgm, hrd⟩ := hG
  unfold maxLen at hgm
  clear hJ hV hN hbg hgf hK hQ ho hcl
  go_enter Tryz.func72, Tryz.ntmps72
  go_wp2_with fail
  refine box1 (C := fun W => Calls _ _ _ W _) ?_
  intro wb hw k1 hB0
  have R1 := boxRule k1
  clear k1
  refine (Hri.out bobs Hbg.out _ wb hw (HVV.out.to hw)).mono ?_; rintro e w1 ⟨A0, q0, rfl, hb1⟩
  obtain ⟨N, hN⟩ : ∃ N, N = (rgs (nxB bobs P B) (RR bobs) G []).length := ⟨_, rfl⟩
  rw [← hN]
  have HN : Hid (cntB P B G RR bobs = N) := Lib.hid (by rw [hN]; rfl)
  have hNb : N ≤ 130 := by rw [← HN.out]; exact Hcl.out bobs
  have R2 := fun i => R1 w1 i hb1
  clear hN
  go_wp2_with fail
  go_loopw [17] (fun i wr => ∃ k : Nat, k ≤ G.length ∧ i = .int .i64 k ∧ joinF (cntB P B G RR) (setF n K Q) bobs (G.drop k) = o ∧ Below wb.heap.size wb wr) (fun i _ => G.length - (intOf i).toNat)
  case atStart => exact ⟨0, by omega, rfl, Ho.out, hb1⟩
  case round =>
    obtain ⟨k, hk, rfl, hj, hB⟩ := hrel
    have Hj := Lib.hid hj
    clear hj R2
    by_cases hlt : k < G.length
    · obtain ⟨ad, rfl, hC⟩ := strs_el hrd hlt
      have hC0 := hC wr (bw_to hw hB)
      have hxm := List.getElem_mem hlt
      have Hh := Lib.hid (fun W hW => Hha.out G[k] W hW)
      have Hw := Lib.hid (fun W hW => Hws.out G[k] hxm W hW)
      have HbA := Lib.hid (HA.out G[k] hxm)
      have Hi := Lib.hid (fun h => (Hin.out k hlt h).symm.trans Hj.out)
      have Hy := Lib.hid (fun h h2 => Hj.out.symm.trans (Hye.out k hlt h h2))
      have Hn := Lib.hid (fun h h2 => (Hno.out k hlt h h2).symm.trans Hj.out)
      obtain ⟨x, hx⟩ : ∃ x, x = G[k] := ⟨_, rfl⟩
      rw [← hx] at hC0 Hh Hw HbA Hi Hy Hn
      have R3 := fun i => R1 wr i hB
      clear hC hxm hx
      cases hd : decide (x ∈ bobs)
      · have hne := Lib.hid (of_decide_eq_false hd)
        rw [hd] at Hh
        clear Hi
        go_wp2_with (go_at_call 53; refine (Hh.out _ (bw_to hw hB)).mono ?_; rintro e w' ⟨rfl, rfl⟩)
        refine (Hw.out _ (bw_to hw hB)).mono ?_; rintro e w3 ⟨A3, q3, rfl, hown3, hb3⟩
        have hB3 := bw_to hB hb3
        have Hown3 := Lib.hid hown3
        obtain ⟨Y, hY⟩ : ∃ Y, Y = addS bobs (sortB (setB n Q x K)) := ⟨_, rfl⟩
        have HY : Hid (addS bobs (setF n K Q x) = Y) := Lib.hid hY.symm
        rw [← hY] at Hown3 HbA ⊢
        have HbW := Lib.hid (Nat.le_trans hw.size hB.size)
        have R4 := fun i => R1 w3 i hB3
        clear hown3 hY R3
        go_wp2_with fail
        refine (Hri.out Y HbA.out _ _ (bw_to hw hB3) (strs_of_own Hown3.out)).mono ?_; rintro e w4 ⟨A4, q4, rfl, hb4⟩
        obtain ⟨N4, hN4⟩ : ∃ N, N = (rgs (nxB Y P B) (RR Y) G []).length := ⟨_, rfl⟩
        rw [← hN4]
        have HN4 : Hid (cntB P B G RR Y = N4) := Lib.hid (by rw [hN4]; rfl)
        have hN4b : N4 ≤ 130 := by rw [← HN4.out]; exact Hcl.out Y
        have hB4 := bw_to hB3 hb4
        have Hown4 := Lib.hid (own_base (own_to Hown3.out hb4) HbW.out)
        clear hN4 R4
        by_cases hls : N4 < N
        · have He : Hid (o = some Y) := Lib.hid (by
            have h := Hy.out hne.out (by rw [HY.out, HN4.out, HN.out]; exact hls)
            rw [HY.out] at h; exact h)
          go_wp2_with fail
          go_ret2
          exact ⟨_, by rw [He.out]; rfl, fun m hm => (by rw [He.out] at hm; injection hm with hm; subst hm; exact Hown4.out), bw_to hw hB4⟩
        · have He := Lib.hid (Hn.out hne.out (by rw [HY.out, HN4.out, HN.out]; exact hls))
          go_wp2_with fail
          exact ⟨⟨k + 1, by omega, by go_num, He.out, hB4⟩, by simp [intOf]; omega⟩
      · have He := Lib.hid (Hi.out (of_decide_eq_true hd))
        rw [hd] at Hh
        clear Hy Hn
        go_wp2_with (go_at_call 53; refine (Hh.out _ (bw_to hw hB)).mono ?_; rintro e w' ⟨rfl, rfl⟩)
        exact ⟨⟨k + 1, by omega, by go_num, He.out, hB⟩, by simp [intOf]; omega⟩
    · obtain rfl : k = G.length := by omega
      have He : Hid (o = none) := Lib.hid (by
        have h := Hj.out
        rw [List.drop_length] at h
        exact h.symm)
      go_wp2_with fail
      go_ret2
      exact ⟨_, by rw [He.out]; rfl, fun m hm => (by rw [He.out] at hm; cases hm), bw_to hw hB⟩
/-- What JoinRings answers. -/
def joinO (n K : Nat) (P B Q : ByteArray) (G : List ByteArray) (RR : List ByteArray → ByteArray → Nat) : List ByteArray := joinL (cntB P B G RR) (setF n K Q) G (cntB P B G RR []) []
set_option maxHeartbeats 2000000 in
theorem implJoinRings_no (m : Mt) (v : Value) (k : Cl) (w : World) (hb : BadBlk m k) (hm : MethAt w m v) (hs : MtSmall m) (hk : ClSmall k) : Calls Tryz.prog 36 #[m.v v, k.v] w fun e w' => ∃ A q, e = .returned (.tuple #[.slice A ([] : List ByteArray).length q, .bool false]) ∧ w'.ownsRow w.heap.size 9 1 (.slice A ([] : List ByteArray).length q) ([] : List ByteArray).length (([] : List ByteArray).map Value.string) ∧ Below w.heap.size w w' := by
  have Hnb := Lib.hid (fun W (hW : Below w.heap.size w W) => newBlocks_bad m v k W hb (hm.to hW) hs hk)
  obtain ⟨A, c, hv⟩ := hm.form
  subst hv
  unfold Mt.v Cl.v at *
  clear hm hb
  go_enter Tryz.func36, Tryz.ntmps36
  go_wp2_with fail
  refine box2 (C := fun W => Calls _ _ _ W _) ?_
  intro wb hw k1 k2 hB0
  clear k1 k2
  refine (Hnb.out _ hw).mono ?_; rintro e w1 ⟨a, b, d, A1, l1, q1, rfl, hb1⟩
  go_wp2_with fail
  go_ret2
  exact ⟨none, 0, rfl, World.ownsRow_nil _ _ _ _, bw_al (bw_to hw hb1) _⟩
set_option maxRecDepth 100000 in
set_option maxHeartbeats 4000000 in
theorem implJoinRings_yes (m : Mt) (v : Value) (k : Cl) (n T K : Nat) (P B B' Q : ByteArray) (RR : List ByteArray → ByteArray → Nat) (w : World) (hK : BK m k n T P B B' Q) (hF : (cloB n [P, B] T).length ≤ 130) (hJ : JG n K P B Q (sortB (cloB n [P, B] T)) RR) (hm : MethAt w m v) (hs : MtSmall m) (hk : ClSmall k) :
    Calls Tryz.prog 36 #[m.v v, k.v] w fun e w' => ∃ A q, e = .returned (.tuple #[.slice A (joinO n K P B Q (sortB (cloB n [P, B] T)) RR).length q, .bool true]) ∧ w'.ownsRow w.heap.size 9 1 (.slice A (joinO n K P B Q (sortB (cloB n [P, B] T)) RR).length q) (joinO n K P B Q (sortB (cloB n [P, B] T)) RR).length ((joinO n K P B Q (sortB (cloB n [P, B] T)) RR).map Value.string) ∧ Below w.heap.size w w' := by
  have Hnb := Lib.hid (fun W (hW : Below w.heap.size w W) => newBlocks_yes m v k n T P B B' Q W hK (hm.to hW) hs hk)
  rw [grpL_yes hF, decide_eq_true hF] at Hnb
  obtain ⟨G, hG⟩ : ∃ G, G = sortB (cloB n [P, B] T) := ⟨_, rfl⟩
  rw [← hG] at Hnb hJ ⊢
  have Hjo := Lib.hid (fun bobs gv Vb W (hG : Strs W gv G) (hV : Strs W Vb bobs) (hN : NilOk Vb) (hbg : BG G bobs Q) => joiningI_any n K P B Q G bobs RR gv Vb W hJ hG hV hN hbg)
  have HA := Lib.hid hJ.hA
  obtain ⟨Z, hZ⟩ : ∃ Z, Z = joinO n K P B Q G RR := ⟨_, rfl⟩
  rw [← hZ]
  unfold joinO at hZ
  have HZ := Lib.hid hZ
  have Hlen := Lib.hid (fun b (hb : BG G b Q) => Nat.le_trans hb.1.len hJ.hGl)
  have H0 := Lib.hid (BG.nil G Q)
  have hadd : ∀ b m, BG G b Q → joinF (cntB P B G RR) (setF n K Q) b G = some m → BG G m Q := fun b m hb h => by
    obtain ⟨_, x, hx, e⟩ := joinF_some h
    have h2 := hJ.hA b hb x hx
    rw [e]
    exact (show BG G (addS b (setF n K Q x)) Q from h2)
  have Hadd := Lib.hid hadd
  clear hadd
  obtain ⟨A, q, hv⟩ := hm.form
  subst hv
  unfold Mt.v Cl.v at *
  clear hm hK hG hF hJ hZ
  go_enter Tryz.func36, Tryz.ntmps36
  go_wp2_with fail
  refine box2 (C := fun W => Calls _ _ _ W _) ?_
  intro wb hw k1 k2 hB0
  clear k1 k2
  refine (Hnb.out _ hw).mono ?_; rintro e w1 ⟨A1, q1, rfl, hown1, hb1⟩
  have HS := Lib.hid (strs_of_own hown1)
  have hB1 := bw_to hw hb1
  clear hown1
  go_wp2_with fail
  refine box2 (C := fun W => Code.wp _ _ _ _ W) ?_
  intro w2 hw2 k3 k4 hB02
  have R3 := boxRule k3
  have HS2 := Lib.hid (HS.out.to hw2)
  have hB2 := bw_to hB1 hw2
  have Hrow0 : Hid (w2.ownsRow w.heap.size 9 1 (.slice (some ⟨w1.heap.size + 1, 0, none⟩) ([] : List ByteArray).length 0) ([] : List ByteArray).length (([] : List ByteArray).map Value.string)) := Lib.hid (own_of_heap (n := 0) (size := 1) (cs := #[]) k4 (by have := hB1.size; omega) (by unfold maxLen; omega) rfl)
  clear k3 k4
  go_loopw [8] (fun o wr => ∃ (b : List ByteArray) (f : Nat) (A : Option Addr) (q : Nat), o = .slice A b.length q ∧ wr.ownsRow w.heap.size 9 1 (.slice A b.length q) b.length (b.map Value.string) ∧ BG G b Q ∧ cntB P B G RR b ≤ f ∧ joinL (cntB P B G RR) (setF n K Q) G f b = Z ∧ Below w2.heap.size w2 wr) (fun o wr => Classical.epsilon (fun z : Nat => ∃ b, Strs wr o b ∧ z = cntB P B G RR b))
  case atStart => exact ⟨[], cntB P B G RR [], _, _, rfl, Hrow0.out, H0.out, Nat.le_refl _, HZ.out.symm, Below.refl _ _⟩
  case round =>
    obtain ⟨b, f, A2, q2, rfl, hown, hb, hf, hjl, hB⟩ := hrel
    have Hown := Lib.hid hown
    have Hb := Lib.hid hb
    have Hjl := Lib.hid hjl
    have Hf := Lib.hid hf
    have Hl := Lib.hid (Hlen.out b hb)
    have R4 := fun i => R3 wr i hB
    clear hown hb hjl hf
    go_wp2_with fail
    refine (Hjo.out b _ _ _ (HS2.out.to hB) (strs_of_own Hown.out) (nilok_own Hown.out) Hb.out).mono ?_
    rintro e w3 ⟨x, rfl, hx, hb3⟩
    have Hx := Lib.hid hx
    have hB3 := bw_to hB hb3
    have hlow := Lib.hid (bw_to hB2 hB).size
    clear hx R4
    cases hj : joinF (cntB P B G RR) (setF n K Q) b G with
    | none =>
      have Hj := Lib.hid hj
      have e2 : Hid (b = Z) := Lib.hid (by rw [← Hjl.out]; exact (joinL_none Hj.out f).symm)
      have Ho := Lib.hid (own_to Hown.out hb3)
      rw [e2.out] at Ho ⊢
      clear hj
      go_wp2_with fail
      go_ret2
      exact ⟨_, _, rfl, Ho.out, bw_to hB2 hB3⟩
    | some m =>
      have Hj := Lib.hid hj
      have Ho := Lib.hid (Hx.out m hj)
      obtain ⟨A4, q4, hv4, _⟩ := sl_of_own Ho.out
      have HB4 := Lib.hid (Hadd.out b m Hb.out hj)
      obtain ⟨g, hg, hgl⟩ := joinL_some (G := G) hj Hf.out
      have Hg := Lib.hid hg
      have Hgl := Lib.hid (hgl.symm.trans Hjl.out)
      have Hls := Lib.hid ((joinF_some hj).1)
      have Hm1 := Lib.hid (meas_eq (cnt := cntB P B G RR) (strs_of_own Hown.out))
      subst hv4
      have Ho2 := Lib.hid (own_base Ho.out hlow.out)
      have Hm2 := Lib.hid (meas_eq (cnt := cntB P B G RR) (strs_of_own Ho2.out))
      clear hj hg hgl
      go_wp2_with fail
      exact ⟨⟨m, g, A4, q4, rfl, Ho2.out, HB4.out, Hg.out, Hgl.out, hB3⟩, by rw [Hm1.out, Hm2.out]; exact Hls.out⟩
set_option maxHeartbeats 2000000 in
theorem specJoinRings_no (m : Mt) (v : Value) (k : Cl) (w : World) (hb : BadBlk m k) (hm : MethAt w m v) (hs : MtSmall m) (hk : ClSmall k) : Calls Tryz.prog 37 #[m.v v, k.v] w fun e w' => ∃ A q, e = .returned (.tuple #[.slice A ([] : List ByteArray).length q, .bool false]) ∧ w'.ownsRow w.heap.size 9 1 (.slice A ([] : List ByteArray).length q) ([] : List ByteArray).length (([] : List ByteArray).map Value.string) ∧ Below w.heap.size w w' := by
  have Hnb := Lib.hid (fun W (hW : Below w.heap.size w W) => l17Of_bad m v k W hb (hm.to hW) hs hk)
  obtain ⟨A, c, hv⟩ := hm.form
  subst hv
  unfold Mt.v Cl.v at *
  clear hm hb
  go_enter Tryz.func37, Tryz.ntmps37
  go_wp2_with fail
  refine box2 (C := fun W => Calls _ _ _ W _) ?_
  intro wb hw k1 k2 hB0
  clear k1 k2
  refine (Hnb.out _ hw).mono ?_; rintro e w1 ⟨a, b, d, A1, l1, q1, rfl, hb1⟩
  go_wp2_with fail
  go_ret2
  exact ⟨none, 0, rfl, World.ownsRow_nil _ _ _ _, bw_al (bw_to hw hb1) _⟩
set_option maxRecDepth 100000 in
set_option maxHeartbeats 4000000 in
theorem specJoinRings_yes (m : Mt) (v : Value) (k : Cl) (n T K : Nat) (P B B' Q : ByteArray) (RR : List ByteArray → ByteArray → Nat) (w : World) (hK : BK m k n T P B B' Q) (hF : (cloB n [P, B] T).length ≤ 130) (hJ : JG n K P B Q (sortB (cloB n [P, B] T)) RR) (hm : MethAt w m v) (hs : MtSmall m) (hk : ClSmall k) :
    Calls Tryz.prog 37 #[m.v v, k.v] w fun e w' => ∃ A q, e = .returned (.tuple #[.slice A (joinO n K P B Q (sortB (cloB n [P, B] T)) RR).length q, .bool true]) ∧ w'.ownsRow w.heap.size 9 1 (.slice A (joinO n K P B Q (sortB (cloB n [P, B] T)) RR).length q) (joinO n K P B Q (sortB (cloB n [P, B] T)) RR).length ((joinO n K P B Q (sortB (cloB n [P, B] T)) RR).map Value.string) ∧ Below w.heap.size w w' := by
  have Hnb := Lib.hid (fun W (hW : Below w.heap.size w W) => l17Of_yes m v k n T P B B' Q W hK (hm.to hW) hs hk)
  rw [grp8_yes (Nat.le_trans hF (by omega)), decide_eq_true hF] at Hnb
  obtain ⟨G, hG⟩ : ∃ G, G = sortB (cloB n [P, B] T) := ⟨_, rfl⟩
  rw [← hG] at Hnb hJ ⊢
  have Hjo := Lib.hid (fun bobs gv Vb W (hG : Strs W gv G) (hV : Strs W Vb bobs) (hN : NilOk Vb) (hbg : BG G bobs Q) => betterS_any n K P B Q G bobs RR gv Vb W hJ hG hV hN hbg)
  have HA := Lib.hid hJ.hA
  obtain ⟨Z, hZ⟩ : ∃ Z, Z = joinO n K P B Q G RR := ⟨_, rfl⟩
  rw [← hZ]
  unfold joinO at hZ
  have HZ := Lib.hid hZ
  have Hlen := Lib.hid (fun b (hb : BG G b Q) => Nat.le_trans hb.1.len hJ.hGl)
  have H0 := Lib.hid (BG.nil G Q)
  have hadd : ∀ b m, BG G b Q → joinF (cntB P B G RR) (setF n K Q) b G = some m → BG G m Q := fun b m hb h => by
    obtain ⟨_, x, hx, e⟩ := joinF_some h
    have h2 := hJ.hA b hb x hx
    rw [e]
    exact (show BG G (addS b (setF n K Q x)) Q from h2)
  have Hadd := Lib.hid hadd
  clear hadd
  obtain ⟨A, q, hv⟩ := hm.form
  subst hv
  unfold Mt.v Cl.v at *
  clear hm hK hG hF hJ hZ
  go_enter Tryz.func37, Tryz.ntmps37
  go_wp2_with fail
  refine box2 (C := fun W => Calls _ _ _ W _) ?_
  intro wb hw k1 k2 hB0
  clear k1 k2
  refine (Hnb.out _ hw).mono ?_; rintro e w1 ⟨A1, q1, rfl, hown1, hb1⟩
  have HS := Lib.hid (strs_of_own hown1)
  have hB1 := bw_to hw hb1
  clear hown1
  go_wp2_with fail
  refine box1 (C := fun W => Code.wp _ _ _ _ W) ?_
  intro w2 hw2 k3 hB02
  have R3 := boxRule k3
  have HS2 := Lib.hid (HS.out.to hw2)
  have hB2 := bw_to hB1 hw2
  have Hrow0 : Hid (w2.ownsRow w.heap.size 9 1 (.slice none ([] : List ByteArray).length 0) ([] : List ByteArray).length (([] : List ByteArray).map Value.string)) := Lib.hid (World.ownsRow_nil _ _ _ _)
  clear k3
  go_loopw [8] (fun o wr => ∃ (b : List ByteArray) (f : Nat) (A : Option Addr) (q : Nat), o = .slice A b.length q ∧ wr.ownsRow w.heap.size 9 1 (.slice A b.length q) b.length (b.map Value.string) ∧ BG G b Q ∧ cntB P B G RR b ≤ f ∧ joinL (cntB P B G RR) (setF n K Q) G f b = Z ∧ Below w2.heap.size w2 wr) (fun o wr => Classical.epsilon (fun z : Nat => ∃ b, Strs wr o b ∧ z = cntB P B G RR b))
  case atStart => exact ⟨[], cntB P B G RR [], _, _, rfl, Hrow0.out, H0.out, Nat.le_refl _, HZ.out.symm, Below.refl _ _⟩
  case round =>
    obtain ⟨b, f, A2, q2, rfl, hown, hb, hf, hjl, hB⟩ := hrel
    have Hown := Lib.hid hown
    have Hb := Lib.hid hb
    have Hjl := Lib.hid hjl
    have Hf := Lib.hid hf
    have Hl := Lib.hid (Hlen.out b hb)
    have R4 := fun i => R3 wr i hB
    clear hown hb hjl hf
    go_wp2_with fail
    refine (Hjo.out b _ _ _ (HS2.out.to hB) (strs_of_own Hown.out) (nilok_own Hown.out) Hb.out).mono ?_
    rintro e w3 ⟨x, rfl, hx, hb3⟩
    have Hx := Lib.hid hx
    have hB3 := bw_to hB hb3
    have hlow := Lib.hid (bw_to hB2 hB).size
    clear hx R4
    cases hj : joinF (cntB P B G RR) (setF n K Q) b G with
    | none =>
      have Hj := Lib.hid hj
      have e2 : Hid (b = Z) := Lib.hid (by rw [← Hjl.out]; exact (joinL_none Hj.out f).symm)
      have Ho := Lib.hid (own_to Hown.out hb3)
      rw [e2.out] at Ho ⊢
      clear hj
      go_wp2_with fail
      go_ret2
      exact ⟨_, _, rfl, Ho.out, bw_to hB2 hB3⟩
    | some m =>
      have Hj := Lib.hid hj
      have Ho := Lib.hid (Hx.out m hj)
      obtain ⟨A4, q4, hv4, _⟩ := sl_of_own Ho.out
      have HB4 := Lib.hid (Hadd.out b m Hb.out hj)
      obtain ⟨g, hg, hgl⟩ := joinL_some (G := G) hj Hf.out
      have Hg := Lib.hid hg
      have Hgl := Lib.hid (hgl.symm.trans Hjl.out)
      have Hls := Lib.hid ((joinF_some hj).1)
      have Hm1 := Lib.hid (meas_eq (cnt := cntB P B G RR) (strs_of_own Hown.out))
      subst hv4
      have Ho2 := Lib.hid (own_base Ho.out hlow.out)
      have Hm2 := Lib.hid (meas_eq (cnt := cntB P B G RR) (strs_of_own Ho2.out))
      clear hj hg hgl
      go_wp2_with fail
      exact ⟨⟨m, g, A4, q4, rfl, Ho2.out, HB4.out, Hg.out, Hgl.out, hB3⟩, by rw [Hm1.out, Hm2.out]; exact Hls.out⟩
end Go.Proofs.YtheppimoncokcaaGreat

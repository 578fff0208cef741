/- A touch with its proof, drawn, a little otherwise at times: the walk. (Printed by a program: tools/mkXN.py.) -/
import Derived.Test.YtofpjbdelmmclaaGreatDoorPk40
namespace Go.Proofs.YtofpjbdelmmclaaGreatDoor
open Go Go.RowKit
set_option linter.unusedVariables false
set_option linter.unusedSimpArgs false

set_option maxRecDepth 100000 in
set_option maxHeartbeats 16000000 in
theorem proved_any (w : World) (C lim : Nat) (h : Cur w C lim) (hl : lim ≤ 7000000) : Calls Tryz.prog 35 #[.pointer (some ⟨C, 0, none⟩)] w (DrewP w C (lim + 260)) := by
  have H := Lib.hid h
  have hCl := h.lt
  clear h
  go_enter Tryz.func35, Tryz.ntmps35
  go_wp2_with fail
  refine box3 (C := fun W => Calls _ _ _ W _) ?_
  intro wb hw k0 k1 k2 hB0
  have hbz : w.heap.size + 2 < wb.heap.size := (Array.getElem?_eq_some_iff.1 k2).1
  refine (touched_any wb C lim (H.out.to hw) (by omega)).mono ?_; rintro e w1 ⟨m, v, k, t, rfl, hz, hl60, hsm, hst, ⟨hkb, hks⟩, hts, ho, hc1, hg1⟩
  have H1 := Lib.hid (show FK w C w.heap.size (w.heap.size + 1) v m.l (lim + 250) w1 from
    ⟨hc1, gb_tr (gb_to (gb_refl w C) hw) hg1, ⟨_, own_ltC (own_of_heap (base := w.heap.size) (n := 1) (size := 3) k0 (Nat.le_refl _) (by unfold maxLen; omega) rfl) hg1 hCl⟩,
      ⟨_, own_ltC (own_of_heap (base := w.heap.size) (n := 1) (size := 2) k1 (Nat.le_succ _) (by unfold maxLen; omega) rfl) hg1 hCl⟩, own_base (base' := w.heap.size) ho (by omega), hCl⟩)
  have F1 := Lib.hid (own_ltC (own_of_heap (base := w.heap.size) (n := 1) (size := 2) k2 (by omega) (by unfold maxLen; omega) rfl) hg1 hCl)
  have hz1 : w.heap.size + 2 < w1.heap.size := Nat.lt_of_lt_of_le hbz hg1.size
  have Hs := Lib.hid hsm
  have Hst := Lib.hid hst
  clear hc1 hg1 k0 k1 k2 hw hB0 ho hsm hst H
  obtain ⟨nm, n, ss⟩ := m
  obtain ⟨kb, ks⟩ := k
  obtain ⟨A1, q1, ev, _⟩ := sl_of_own H1.out.row
  subst ev
  simp only at hz hl60 hkb hks
  have HP := Lib.hid (show nm.size ≤ 20 ∧ ss.length ≤ 60 ∧ kb.size ≤ 20 ∧ ks.size ≤ 20 from ⟨hz, hl60, hkb, hks⟩)
  have hms : MtSmall ⟨nm, n, ss⟩ := ⟨by show nm.size ≤ _; omega, by show ss.length ≤ _; omega, fun s hs => by have := Hs.out s hs; omega⟩
  have hks' : ClSmall ⟨kb, ks⟩ := ⟨by show kb.size ≤ _; omega, by show ks.size ≤ _; omega⟩
  have Hmp := Lib.hid (fun W (hN : W.ownsRow w.heap.size 9 1 (.slice A1 ss.length q1) ss.length (ss.map Value.string)) => specMakeProof_any ⟨nm, n, ss⟩ (.slice A1 ss.length q1) ⟨kb, ks⟩ t W ⟨strs_own_v rfl hN, by unfold maxLen; show nm.size ≤ _; omega, fun s hs => by have := Hs.out s hs; unfold maxLen; omega⟩ hms hks' (by omega))
  unfold Mt.v Cl.v at *
  simp only
  obtain ⟨R, hR⟩ : ∃ R, R = w.heap.size := ⟨_, rfl⟩
  obtain ⟨K, hK⟩ : ∃ K, K = w.heap.size + 1 := ⟨_, rfl⟩
  obtain ⟨F, hF⟩ : ∃ K, K = w.heap.size + 2 := ⟨_, rfl⟩
  have hRz : R < w1.heap.size := by omega
  have hKz : K < w1.heap.size := by omega
  have hFz : F < w1.heap.size := by omega
  rw [← hF] at F1
  rw [← hK, ← hR] at H1
  rw [← hF, ← hK, ← hR]
  clear hR hK hF hz hl60 hkb hks hms hks'
  go_upto_region 2 with fail
  refine box2 (C := fun W => Code.wp _ _ _ _ W) ?_
  intro w3 hw3 k3 k4 hB3
  have N3 := Lib.hid (show HB w C R K w1.heap.size (w1.heap.size + 1) nm n (.slice A1 ss.length q1) ss kb ks (lim + 250) w3 from ⟨⟨H1.out.to hw3, own_of_heap (n := 1) (size := 3) k3 (by omega) (by unfold maxLen; omega) rfl, by omega⟩, own_of_heap (n := 1) (size := 2) k4 (by omega) (by unfold maxLen; omega) rfl, by omega⟩)
  have F3 := Lib.hid (own_to F1.out hw3)
  obtain ⟨G, hG⟩ : ∃ G, G = w1.heap.size := ⟨_, rfl⟩
  obtain ⟨D, hD⟩ : ∃ D, D = w1.heap.size + 1 := ⟨_, rfl⟩
  have hz3 : w1.heap.size ≤ w3.heap.size := hw3.size
  rw [← hD, ← hG] at N3
  rw [← hD, ← hG]
  clear k3 k4 hw3 hB3 hG hD H1 F1
  obtain ⟨g0, g1, g2, d0, d1⟩ : w3.cell? ⟨G, 0, none⟩ = some (.string nm) ∧ w3.cell? ⟨G, 1, none⟩ = some (.int .i64 n) ∧ w3.cell? ⟨G, 2, none⟩ = some (.slice A1 ss.length q1) ∧ w3.cell? ⟨D, 0, none⟩ = some (.string kb) ∧ w3.cell? ⟨D, 1, none⟩ = some (.string ks) := by
    obtain ⟨_, a0, a1, a2, b0, b1, _⟩ := N3.out.all
    exact ⟨a0, a1, a2, b0, b1⟩
  go_wp2_with fail
  refine (Hmp.out _ N3.out.hc.st.row).mono ?_; rintro e w4 ⟨hv0, lv0, rfl, hPr, hb4⟩
  obtain ⟨hs0, ls0, hho, hlo, hh8, hl8, hhn, hln, hhl1, hlb⟩ := proofAt_rows hPr
  have N4 := Lib.hid (N3.out.to hb4)
  have F4 := Lib.hid (own_to F3.out hb4)
  have hw3z : w.heap.size ≤ w3.heap.size := by omega
  have Ho4 := Lib.hid (own_base (base' := w.heap.size) hho hw3z)
  have Lo4 := Lib.hid (own_base (base' := w.heap.size) hlo hw3z)
  have hnh := nilok_own hho
  have hnl := nilok_own hlo
  obtain ⟨Ah, qh, eh, _⟩ := sl_of_own hho
  obtain ⟨Al, ql, el, _⟩ := sl_of_own hlo
  subst eh
  subst el
  have hz4 : w3.heap.size ≤ w4.heap.size := hb4.size
  have Hh8 := Lib.hid hh8
  have Hl8 := Lib.hid hl8
  have Hlb := Lib.hid hlb
  clear hb4 hPr hho hlo N3 F3 g0 g1 g2 d0 d1 hh8 hl8 hlb
  go_upto_region 3 with fail
  refine box1 (C := fun W => Code.wp _ _ _ _ W) ?_
  intro w5 hw5 k5 hB5
  have P5 := Lib.hid (show PF w C R K F G D w4.heap.size nm n (.slice A1 ss.length q1) ss kb ks (lim + 250) (.slice Ah hs0.length qh) (.slice Al ls0.length ql) w5 from ⟨N4.out.to hw5, ⟨_, own_to F4.out hw5⟩, own_of_heap (n := 1) (size := 2) k5 (by omega) (by unfold maxLen; omega) rfl, by omega⟩)
  have HS5 := Lib.hid (fun W (hW : Below w5.heap.size w5 W) => strs_of_own (own_to (own_to Ho4.out hw5) hW))
  have HL5 := Lib.hid (fun W (hW : Below w5.heap.size w5 W) => (sl_of_own (own_to (own_to Lo4.out hw5) hW)))
  have hz5 : w4.heap.size < w5.heap.size := (Array.getElem?_eq_some_iff.1 k5).1
  obtain ⟨X, hX⟩ : ∃ X, X = w4.heap.size := ⟨_, rfl⟩
  rw [← hX] at P5 ⊢
  clear k5 hw5 hB5 hX N4 F4 Ho4 Lo4
  go_cut [11] (fun s11 wx => ∃ A q A' q', PL w C R K F G D X nm n (.slice A1 ss.length q1) ss kb ks (lim + 250) (.slice A hs0.length q) hs0 (.slice A' ls0.length q') ls0 wx)
  case first =>
    have hD : Below w5.heap.size w5 w5.drew := Below.drew (Below.refl _ _)
    have hDA := bw_al hD (.cells #[] 76)
    have XF := Lib.hid (fun W (hW : Below w5.heap.size w5 W) => P5.out.to hW)
    have c0 := Lib.hid (fun W (hW : Below w5.heap.size w5 W) => (show W.cell? ⟨X, 0, none⟩ = some (.slice Ah hs0.length qh) from ((XF.out W hW).xb.cellAt 0 (by omega)).trans rfl))
    have c1 := Lib.hid (fun W (hW : Below w5.heap.size w5 W) => (show W.cell? ⟨X, 1, none⟩ = some (.slice Al ls0.length ql) from ((XF.out W hW).xb.cellAt 1 (by omega)).trans rfl))
    have f0 := Lib.hid (fun W (hW : Below w5.heap.size w5 W) => (show W.frozen? ⟨X, 0, none⟩ = false from (XF.out W hW).xb.frozenAt 0))
    have f1 := Lib.hid (fun W (hW : Below w5.heap.size w5 W) => (show W.frozen? ⟨X, 1, none⟩ = false from (XF.out W hW).xb.frozenAt 1))
    have x0 := c0.out _ hD
    have x1 := c1.out _ hD
    have hDC := bw_al (Below.refl w5.heap.size w5) (.cells #[] 76)
    have hDB := Below.drew hDC
    have x0a := c0.out _ hDA
    have x1a := c1.out _ hDA
    have x0b := c0.out _ hDB
    have x1b := c1.out _ hDB
    have x0c := c0.out _ hDC
    have x1c := c1.out _ hDC
    have HE := Lib.hid (fun (W : World) (hW : Below w5.heap.size w5 W) => (show (W.alloc (.cells #[] 76)).ownsRow w5.heap.size 76 3 (.slice (some ⟨W.heap.size, 0, none⟩) 0 0) 0 [] from own_of_heap (cs := #[]) (heap_new W _) hW.size (by unfold maxLen; omega) rfl))
    have hln1 : ∀ u ∈ ls0.flatMap lnC, u.oneCell' = true := fun u hu => by
      obtain ⟨l, _, h2⟩ := List.mem_flatMap.1 hu
      unfold lnC at h2
      simp at h2
      rcases h2 with rfl | rfl | rfl <;> rfl
    have Hln1 := Lib.hid hln1
    have hzw : w.heap.size ≤ w5.heap.size := by omega
    clear hln1
    go_region_law ((first | (refine step_callX (by rfl) ((l1OwnS_any (.slice Ah hs0.length qh) hs0 _ (HS5.out _ (by first | exact hD | exact hDB | exact hDA | exact hDC | exact hB2)) hnh (by omega)).mono ?_) ?_; rotate_left; (· go_simp); rintro e w' ⟨r, rfl, ho', hb'⟩; refine ⟨_, rfl, ?_⟩; (have hB' : Below w5.heap.size w5 w' := by first | exact bw_to hD hb' | exact bw_to hDB hb' | exact bw_to hDA hb' | exact bw_to hDC hb' | exact bw_to hB2 hb'); (have x0' := c0.out w' hB'); (have x1' := c1.out w' hB'); (have z0' := f0.out w' hB'); (have z1' := f1.out w' hB'); (have x1'' := c1.out _ (bw_al hB' (.cells #[] 76))); (have Ro' := Lib.hid (own_base (base' := w5.heap.size) ho' (by first | exact hD.size | exact hDB.size | exact hDA.size | exact hDC.size | exact hB2.size))); clear ho'; (obtain ⟨Ar, qr, er, _⟩ := sl_of_own Ro'.out); subst er) | (refine step_app_sl _ (by rfl) _ _ _ (by rfl) w5.heap.size 76 _ 3 32 Tryz.underlying25 info_line (by rfl) (by omega) (by first | exact HE.out w' hB' | exact HE.out w5.drew hD | exact own_to (HE.out w5 (Below.refl _ _)) (Below.drew (Below.refl _ _)) | exact HE.out w5 (Below.refl _ _) | exact own_to (HE.out w5.drew hD) hb' | exact own_to (own_to (HE.out w5 (Below.refl _ _)) (Below.drew (Below.refl _ _))) hb' | exact own_to (HE.out w5 (Below.refl _ _)) hb') (by rfl) (HL5.out _ (by first | exact bw_al hB' _ | exact hDB | exact hDA | exact hDC | exact hB')) hnl (by rfl) Hln1.out (by omega) (by omega) (by first | exact (bw_al hB' _).size | exact hDB.size | exact hDA.size | exact hDC.size | exact hB'.size) ls0.length (by omega) ?_; intro A2 q2 w2' hown2 hb2 hg2; (have hB2 : Below w5.heap.size w5 w2' := by first | exact (bw_al hB' (.cells #[] 76)).trans hb2 | exact hDB.trans hb2 | exact hDA.trans hb2 | exact hDC.trans hb2 | exact hB'.trans hb2); (have y0 := c0.out w2' hB2); (have y1 := c1.out w2' hB2); (have v0 := f0.out w2' hB2); (have v1 := f1.out w2' hB2))))
    all_goals
      have nv := nv_of P5.out.hb.hc.st.row Ro'.out
      go_wp2_with fail
      go_meet
      refine ⟨Ar, qr, A2, q2, ?_⟩
      first
        | exact PL.of_store (XF.out w2' hB2) (own_base (World.ownsRow.kept (own_to Ro'.out (bw_al (Below.refl w'.heap.size w') (.cells #[] 76))) hg2 ((own_kindsX (own_to Ro'.out (bw_al (Below.refl w'.heap.size w') (.cells #[] 76))) (HE.out w' hB') (by decide)).imp id id)) hzw) (own_base hown2 hzw) nv
        | exact PL.of_store (XF.out w2' hB2) (own_base (World.ownsRow.kept Ro'.out hg2 ((own_kindsX Ro'.out (own_to (own_to (HE.out w5 (Below.refl _ _)) (Below.drew (Below.refl _ _))) hb') (by decide)).imp id id)) hzw) (own_base hown2 hzw) nv
        | exact PL.of_store (XF.out w2' hB2) (own_base (World.ownsRow.kept Ro'.out hg2 ((own_kindsX Ro'.out (own_to (HE.out w5.drew hD) hb') (by decide)).imp id id)) hzw) (own_base hown2 hzw) nv
        | exact PL.of_store (XF.out w2' hB2) (own_base (World.ownsRow.kept Ro'.out hg2 ((own_kindsX Ro'.out (own_to (HE.out w5 (Below.refl _ _)) hb') (by decide)).imp id id)) hzw) (own_base hown2 hzw) nv
        | exact PL.of_store (XF.out w' hB') (own_base Ro'.out hzw) (own_base (own_to hown2 hb') hzw) nv
  case rest =>
    obtain ⟨Ar, qr, A2, q2, hQ⟩ := hcut
    have Z0 := Lib.hid (show PZ w C R K F G D X nm n (.slice A1 ss.length q1) ss kb ks (lim + 260) Ar hs0.length qr 0 0 0 wc ∨ True from .inr trivial)
    have hlL := Hl8.out
    have Q0 := Lib.hid hQ
    have x1 : wc.cell? ⟨X, 1, none⟩ = some (.slice A2 ls0.length q2) := (hQ.pf.xb.cellAt 1 (by omega)).trans rfl
    have x0 : wc.cell? ⟨X, 0, none⟩ = some (.slice Ar hs0.length qr) := (hQ.pf.xb.cellAt 0 (by omega)).trans rfl
    clear hQ Z0 HS5 HL5 P5 hlL
    go_upto_if 36 with fail
    go_cut [11] (fun s11 wx => PE w C R K F G D X nm n (.slice A1 ss.length q1) ss kb ks (lim + 260) wx)
    case first =>
      by_cases hlen : 1 < ls0.length
      rotate_left
      · have gl : decide ((1 : Int) < (ls0.length : Int)) = false := by simp; omega
        have hE : PE w C R K F G D X nm n (.slice A1 ss.length q1) ss kb ks (lim + 260) wc := ⟨_, _, _, _, hs0, ls0, lim + 250, by omega, Hh8.out, Hl8.out, hhn, hln, Q0.out.pf, Q0.out.hr, .inl Q0.out.lr⟩
        have HE := Lib.hid hE
        clear hE
        go_wp2_with fail
        go_meet
        exact HE.out
      have gl : decide ((1 : Int) < (ls0.length : Int)) = true := by simp; omega
      obtain ⟨g, hg, _, _⟩ := own_addr Q0.out.lr (by omega)
      subst hg
      go_wp2_with fail
      refine (pick_any wc C _ ls0.length Q0.out.pf.hb.hc.st.cur (by omega) (by omega) (by omega)).mono ?_; rintro e w6 ⟨zi, rfl, hzi, hc6, hg6⟩
      obtain ⟨i, rfl⟩ : ∃ i : Nat, zi = i := ⟨zi.toNat, by omega⟩
      have hi : i < ls0.length := by omega
      have Q6 := Lib.hid (Q0.out.draw hc6 hg6)
      clear hc6 hg6 x0 x1 Q0
      go_wp2_with fail
      refine (pick_any w6 C _ 8 Q6.out.pf.hb.hc.st.cur (by omega) (by omega) (by omega)).mono ?_; rintro e w7 ⟨p, rfl, hp, hc7, hg7⟩
      have Q7 := Lib.hid ((Q6.out.draw hc7 hg7).more (show _ ≤ lim + 254 by omega))
      clear hc7 hg7 Q6
      have Z7 := Lib.hid (show PZ w C R K F G D X nm n (.slice A1 ss.length q1) ss kb ks (lim + 260) Ar hs0.length qr g ls0.length q2 w7 from ⟨hs0, ls0, lim + 254, by omega, rfl, rfl, Hh8.out, Hl8.out, Q7.out⟩)
      have hil : (i : Int) < (ls0.length : Int) := by omega
      have C7 := Lib.hid Q7.out.pf.hb.hc.st.cur
      obtain ⟨nn, hn3, hn6, hnn⟩ := Hst.out
      simp only at hnn
      subst hnn
      obtain ⟨x9, x0, x1, fx1⟩ := Z7.out.cells
      obtain rfl | rfl | rfl | rfl | rfl | hp5 : p = 0 ∨ p = 1 ∨ p = 2 ∨ p = 3 ∨ p = 4 ∨ 4 < p := by omega
      · obtain ⟨rr, lx, ly, e0, e1, e2⟩ := Z7.out.line hi
        have fz := (Z7.out.allL (j := 2) hi (by omega)).2.2.2.2.2
        have hE := Lib.hid ((Z7.out.setN (j := 2) hi (.inr rfl) (wrap64 (ly + 1))).pe hhn hln)
        clear Q7
        go_wp2_with fail
        go_meet
        exact hE.out
      · have C7d := Lib.hid (C7.out.to (Below.drew (Below.refl w7.heap.size w7)))
        have Q7d := Lib.hid (Q7.out.to (Below.drew (Below.refl w7.heap.size w7)))
        have y7 : PZ w C R K F G D X nm (nn : Int) (.slice A1 ss.length q1) ss kb ks (lim + 260) Ar hs0.length qr g ls0.length q2 w7.drew := Z7.out.drew
        obtain ⟨_, u1, u2, u3, u4, u5⟩ := Z7.out.allL (j := 1) hi (by omega)
        go_upto_region 10 with fail
        go_region_held3 (fun W => PZ w C R K F G D X nm (nn : Int) (.slice A1 ss.length q1) ss kb ks (lim + 260) Ar hs0.length qr g ls0.length q2 W ∧ W.cell? ⟨G, 1, none⟩ = some (.int .i64 (nn : Int)) ∧ W.cell? ⟨X, 0, none⟩ = some (.slice Ar hs0.length qr) ∧ W.cell? ⟨X, 1, none⟩ = some (.slice (some ⟨g, 0, none⟩) ls0.length q2) ∧ W.cell? ⟨g, i * 3 + 1, none⟩ = some (oldC g (i * 3 + 1) W) ∧ W.frozen? ⟨g, i * 3 + 1, none⟩ = false) (first | with_reducible assumption | with_reducible exact PZ.allL (by assumption) hi (by omega) | with_reducible exact PZ.allLN (by assumption) hi (.inl rfl)) (first | (go_at_call 56; refine (pick_any _ C _ 4 C7d.out (by omega) (by omega) (by omega)).mono ?_; rintro e w8 ⟨d, rfl, hd, hc8, hg8⟩; (have y8 : PZ w C R K F G D X nm (nn : Int) (.slice A1 ss.length q1) ss kb ks (lim + 260) Ar hs0.length qr g ls0.length q2 w8 := ⟨hs0, ls0, lim + 256, by omega, rfl, rfl, Hh8.out, Hl8.out, Q7d.out.draw hc8 hg8⟩); (have Z8 := Lib.hid y8); clear hc8 hg8))
        have hE := Lib.hid ((Z8.out.setN (j := 1) hi (.inl rfl) d).pe hhn hln)
        go_wp2_with fail
        go_meet
        exact hE.out
      · have C7d := Lib.hid (C7.out.to (Below.drew (Below.refl w7.heap.size w7)))
        have Q7d := Lib.hid (Q7.out.to (Below.drew (Below.refl w7.heap.size w7)))
        have y7 : PZ w C R K F G D X nm (nn : Int) (.slice A1 ss.length q1) ss kb ks (lim + 260) Ar hs0.length qr g ls0.length q2 w7.drew := Z7.out.drew
        obtain ⟨_, u1, u2, u3, u4, u5⟩ := Z7.out.allL0 hi
        go_upto_region 12 with fail
        go_region_held3 (fun W => PZ w C R K F G D X nm (nn : Int) (.slice A1 ss.length q1) ss kb ks (lim + 260) Ar hs0.length qr g ls0.length q2 W ∧ W.cell? ⟨G, 1, none⟩ = some (.int .i64 (nn : Int)) ∧ W.cell? ⟨X, 0, none⟩ = some (.slice Ar hs0.length qr) ∧ W.cell? ⟨X, 1, none⟩ = some (.slice (some ⟨g, 0, none⟩) ls0.length q2) ∧ W.cell? ⟨g, i * 3, none⟩ = some (oldC g (i * 3) W) ∧ W.frozen? ⟨g, i * 3, none⟩ = false) (first | with_reducible assumption | with_reducible exact PZ.allL0 (by assumption) hi | with_reducible exact PZ.allLS0 (by assumption) hi hs8) (first | (go_at_call 78; refine (drawRow_any _ C _ nn C7d.out (by omega) hn3 (by omega)).mono ?_; rintro e w8 ⟨z, rfl, hz8, hc8, hg8⟩; (have hs8 : z.size ≤ 8 := by omega); (have y8 : PZ w C R K F G D X nm (nn : Int) (.slice A1 ss.length q1) ss kb ks (lim + 260) Ar hs0.length qr g ls0.length q2 w8 := ⟨hs0, ls0, lim + 256, by omega, rfl, rfl, Hh8.out, Hl8.out, Q7d.out.draw hc8 hg8⟩); (have Z8 := Lib.hid y8); clear hc8 hg8))
        have hE := Lib.hid ((Z8.out.setS hi hs8).pe hhn hln)
        go_wp2_with fail
        go_meet
        exact hE.out
      · have hq2 : ls0.length ≤ q2 := by obtain ⟨_, _, e, h1, _⟩ := sl_of_own Q7.out.lr; cases e; exact h1
        obtain ⟨l1, ls1, rfl⟩ : ∃ x l, ls0 = x :: l := by
          cases ls0 with
          | nil => simp at hlen
          | cons x l => exact ⟨x, l, rfl⟩
        have hq1 : (q2 = 1) = False := eq_false (by have h1 := hq2; have h2 := hlen; rw [List.length_cons] at h1 h2; omega)
        have h1l : (1 : Int) ≤ ((l1 :: ls1).length : Int) := by rw [List.length_cons]; omega
        go_upto_region 15 with fail
        have hpf := Q7.out.pf.setX 1 (.slice (some ⟨g, 3, none⟩) ls1.length (q2 - 1)) (hv' := .slice Ar hs0.length qr) (lv' := .slice (some ⟨g, 3, none⟩) ls1.length (q2 - 1)) rfl
        have hE := Lib.hid (show PE w C R K F G D X nm (nn : Int) (.slice A1 ss.length q1) ss kb ks (lim + 260) (w7.setCell ⟨X, 1, none⟩ (.slice (some ⟨g, 3, none⟩) ls1.length (q2 - 1))) from ⟨_, _, _, _, hs0, ls1, lim + 254, by omega, Hh8.out, fun x hx => Hl8.out x (List.mem_cons_of_mem _ hx), hhn, by have h1 := hln; rw [List.length_cons] at h1; omega, hpf, own_oth Q7.out.hr Q7.out.pf.xb (by decide) 1 _, .inr ⟨g, q2, l1, own_oth Q7.out.lr Q7.out.pf.xb (by decide) 1 _, by rw [if_neg (fun e => by rw [hq1] at e; exact e)]; simp [Addr.add]⟩⟩)
        clear hpf hq1 hq2
        go_wp2_with fail
        go_meet
        exact hE.out
      · obtain ⟨gh, hgh, _, _⟩ := own_addr Q7.out.hr (hhl1 hlen)
        subst hgh
        have C7d := Lib.hid (C7.out.to (Below.drew (Below.refl w7.heap.size w7)))
        have Q7d := Lib.hid (Q7.out.to (Below.drew (Below.refl w7.heap.size w7)))
        have y7 : PZ w C R K F G D X nm (nn : Int) (.slice A1 ss.length q1) ss kb ks (lim + 260) (some ⟨gh, 0, none⟩) hs0.length qr g ls0.length q2 w7.drew := Z7.out.drew
        obtain ⟨_, u1, u2, u3, u4, u5⟩ := Z7.out.allH
        have hh1 := hhl1 hlen
        go_upto_region 16 with fail
        go_region_held3 (fun W => PZ w C R K F G D X nm (nn : Int) (.slice A1 ss.length q1) ss kb ks (lim + 260) (some ⟨gh, 0, none⟩) hs0.length qr g ls0.length q2 W ∧ W.cell? ⟨G, 1, none⟩ = some (.int .i64 (nn : Int)) ∧ W.cell? ⟨X, 0, none⟩ = some (.slice (some ⟨gh, 0, none⟩) hs0.length qr) ∧ W.cell? ⟨X, 1, none⟩ = some (.slice (some ⟨g, 0, none⟩) ls0.length q2) ∧ (∀ p, p < hs0.length → W.cell? ⟨gh, p, none⟩ = some (oldC gh p W)) ∧ (∀ p, W.frozen? ⟨gh, p, none⟩ = false)) (first | with_reducible assumption | with_reducible exact PZ.allH (by assumption) | with_reducible exact PZ.allHS (by assumption) hs8) (first | (go_at_call 78; refine (drawRow_any _ C _ nn (by first | exact C8.out | exact C7d.out) (by omega) hn3 (by omega)).mono ?_; rintro e w9 ⟨z, rfl, hz8, hc9, hg9⟩; (have hs8 : z.size ≤ 8 := by omega); (have Q9 := Lib.hid (by first | exact Q8.out.draw hc9 hg9 | exact Q7d.out.draw hc9 hg9)); (have C9 := Lib.hid hc9); (have Z9 := Lib.hid (show PZ w C R K F G D X nm (nn : Int) (.slice A1 ss.length q1) ss kb ks (lim + 260) (some ⟨gh, 0, none⟩) hs0.length qr g ls0.length q2 w9 from ⟨hs0, ls0, _, (by first | exact (by omega : lim + 254 + 2 + 2 ≤ lim + 260) | exact (by omega : lim + 254 + 2 ≤ lim + 260)), rfl, rfl, Hh8.out, Hl8.out, Q9.out⟩)); (have y9 := Z9.out); clear hc9 hg9) | (go_at_call 56; refine (pick_any _ C _ hs0.length (by first | exact C9.out | exact C7d.out) (by omega) (by omega) (by omega)).mono ?_; rintro e w8 ⟨zd, rfl, hd, hc8, hg8⟩; (have Q8 := Lib.hid (by first | exact Q9.out.draw hc8 hg8 | exact Q7d.out.draw hc8 hg8)); (have C8 := Lib.hid hc8); (have Z8 := Lib.hid (show PZ w C R K F G D X nm (nn : Int) (.slice A1 ss.length q1) ss kb ks (lim + 260) (some ⟨gh, 0, none⟩) hs0.length qr g ls0.length q2 w8 from ⟨hs0, ls0, _, (by first | exact (by omega : lim + 254 + 2 + 2 ≤ lim + 260) | exact (by omega : lim + 254 + 2 ≤ lim + 260)), rfl, rfl, Hh8.out, Hl8.out, Q8.out⟩)); (have y8 := Z8.out); (obtain ⟨d, rfl⟩ : ∃ d : Nat, zd = d := ⟨zd.toNat, by omega⟩); (have hdl : d < hs0.length := by omega); (have hdz : (d : Int) < (hs0.length : Int) := by omega); clear hc8 hg8))
        all_goals
          go_wp2_with fail
          go_meet
          first
            | exact (Z9.out.setH d hs8).pe hhn hln
            | exact (Z8.out.setH d hs8).pe hhn hln
      · have h0 : (p == 0) = false := by simp; omega
        have h1 : (p == 1) = false := by simp; omega
        have h2 : (p == 2) = false := by simp; omega
        have h3 : (p == 3) = false := by simp; omega
        have h4 : (p == 4) = false := by simp; omega
        have hE := Lib.hid (Z7.out.pe hhn hln)
        clear Q7
        go_wp2_with fail
        go_meet
        exact hE.out
    case rest =>
      clear Q0 x0 x1
      obtain ⟨Ah1, qh1, Al1, ql1, hs, ls, l, hlL, hx8, hy8, hhs, hls, hpf, hhr, hlv⟩ := hcut
      have Pc := Lib.hid hpf
      have Hr := Lib.hid hhr
      have Hv := Lib.hid hlv
      have Hx8 := Lib.hid hx8
      have Hy8 := Lib.hid hy8
      obtain ⟨nRK, nRF, nKF⟩ : R ≠ K ∧ R ≠ F ∧ K ≠ F := by
        obtain ⟨xs, hx⟩ := hpf.hb.hc.st.rm
        obtain ⟨ys, hy⟩ := hpf.hb.hc.st.rk
        obtain ⟨zs, hz⟩ := hpf.rf
        exact ⟨own_blk_ne hx hy (by decide), own_blk_ne hx hz (by decide), own_blk_ne hy hz (by decide)⟩
      have nKR := nRK.symm
      have nFR := nRF.symm
      have nFK := nKF.symm
      obtain ⟨_, _, _, _, _, _, _, _, r0, r1, r2, p0, p1, o0, o1, f0, f1, f2, g0, g1, h0, h1⟩ := hpf.all
      have x9 : PF w C R K F G D X nm n (.slice A1 ss.length q1) ss kb ks l (.slice Ah1 hs.length qh1) (.slice Al1 ls.length ql1) _ := hpf.drew
      clear hpf hhr hlv hx8 hy8 Hh8 Hl8 Hlb hhn hln hhl1
      go_upto_region 17 with fail
      go_region_held3 (fun W => PF w C R K F G D X nm n (.slice A1 ss.length q1) ss kb ks l (.slice Ah1 hs.length qh1) (.slice Al1 ls.length ql1) W ∧ W.cell? ⟨G, 0, none⟩ = some (.string nm) ∧ W.cell? ⟨G, 1, none⟩ = some (.int .i64 n) ∧ W.cell? ⟨G, 2, none⟩ = some (.slice A1 ss.length q1) ∧ W.cell? ⟨D, 0, none⟩ = some (.string kb) ∧ W.cell? ⟨D, 1, none⟩ = some (.string ks) ∧ W.cell? ⟨X, 0, none⟩ = some (.slice Ah1 hs.length qh1) ∧ W.cell? ⟨X, 1, none⟩ = some (.slice Al1 ls.length ql1) ∧ W.cell? ⟨R, 0, none⟩ = some (oldC R 0 W) ∧ W.cell? ⟨R, 1, none⟩ = some (oldC R 1 W) ∧ W.cell? ⟨R, 2, none⟩ = some (oldC R 2 W) ∧ W.cell? ⟨K, 0, none⟩ = some (oldC K 0 W) ∧ W.cell? ⟨K, 1, none⟩ = some (oldC K 1 W) ∧ W.cell? ⟨F, 0, none⟩ = some (oldC F 0 W) ∧ W.cell? ⟨F, 1, none⟩ = some (oldC F 1 W) ∧ W.frozen? ⟨R, 0, none⟩ = false ∧ W.frozen? ⟨R, 1, none⟩ = false ∧ W.frozen? ⟨R, 2, none⟩ = false ∧ W.frozen? ⟨K, 0, none⟩ = false ∧ W.frozen? ⟨K, 1, none⟩ = false ∧ W.frozen? ⟨F, 0, none⟩ = false ∧ W.frozen? ⟨F, 1, none⟩ = false) (first | with_reducible assumption | with_reducible exact PF.all (by assumption) | with_reducible exact PF.allR (by assumption) | with_reducible exact PF.allK (by assumption) | with_reducible exact PF.allF (by assumption) | with_reducible exact PF.allRd (by assumption) | with_reducible exact PF.allKd (by assumption) | with_reducible exact PF.allFd (by assumption)) (fail)
      go_wp2_with fail
      obtain ⟨W', eW, F', ⟨e0, e1, e2⟩, ⟨d0, d1⟩, ⟨i0, i1⟩, hro⟩ := Pc.out.fin (.string nm) (.int .i64 n) (.slice A1 ss.length q1) (.string kb) (.string ks) (.slice Ah1 hs.length qh1) (.slice Al1 ls.length ql1)
      rw [← eW]
      refine bodyPost_ret (v := .tuple #[.agg #[.string nm, .int .i64 n, .slice A1 ss.length q1], .agg #[.string kb, .string ks], .string t, .agg #[.slice Ah1 hs.length qh1, .slice Al1 ls.length ql1]]) (by simp [results, go_sem, e0, e1, e2, d0, d1, i0, i1]) rfl ?_
      have F2 := F'.drew
      have hr2 := own_to (hro _ _ _ _ _ _ Hr.out (by decide) (by decide) (by decide)) (Below.drew (Below.refl W'.heap.size W'))
      have hv2 : LinV W'.drew w.heap.size (.slice Al1 ls.length ql1) ls := by
        rcases Hv.out with h | ⟨g, q, x, h, e⟩
        · exact .inl (own_to (hro _ _ _ _ _ _ h (by decide) (by decide) (by decide)) (Below.drew (Below.refl W'.heap.size W')))
        · exact .inr ⟨g, q, x, own_to (hro _ _ _ _ _ _ h (by decide) (by decide) (by decide)) (Below.drew (Below.refl W'.heap.size W')), e⟩
      exact ⟨⟨nm, n, ss⟩, .slice A1 ss.length q1, ⟨kb, ks⟩, t, .slice Ah1 hs.length qh1, .slice Al1 ls.length ql1, hs, ls, rfl, HP.out.1, HP.out.2.1, Hs.out, Hst.out, ⟨HP.out.2.2.1, HP.out.2.2.2⟩, hts, F2.hb.hc.st.row, hr2, hv2, Hx8.out, Hy8.out, hhs, hls, F2.hb.hc.st.cur.more (by omega), F2.hb.hc.st.gb⟩
end Go.Proofs.YtofpjbdelmmclaaGreatDoor

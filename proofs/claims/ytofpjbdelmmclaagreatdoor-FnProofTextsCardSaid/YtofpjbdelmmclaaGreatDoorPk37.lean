/- A drawn touch; a method with calls and a touch drawn. -/
import Derived.Test.YtofpjbdelmmclaaGreatDoorPk35
import Derived.Test.YtofpjbdelmmclaaGreatDoorPk36
import Derived.Test.YtofpjbdelmmclaaGreatDoorPk20
namespace Go.Proofs.YtofpjbdelmmclaaGreatDoor
open Go Go.RowKit
set_option linter.unusedVariables false
set_option linter.unusedSimpArgs false

/-- The cursor C, a method's box G with its row, its calls' box D. -/
structure TS (w : World) (base C G D : Nat) (nm : ByteArray) (n : Int) (v : Value) (ss : List ByteArray) (b s : ByteArray) (lim : Nat) (W : World) : Prop where
  cur : Cur W C lim
  gb : w.grownBy W (some C)
  mb : W.ownsRow w.heap.size 49 3 (.slice (some ⟨G, 0, none⟩) 1 1) 1 [.string nm, .int .i64 n, v]
  kb : W.ownsRow w.heap.size 51 2 (.slice (some ⟨D, 0, none⟩) 1 1) 1 [.string b, .string s]
  row : W.ownsRow base 9 1 v ss.length (ss.map Value.string)
  hC : C < w.heap.size
theorem TS.to {w : World} {base C G D : Nat} {nm : ByteArray} {n : Int} {v : Value} {ss : List ByteArray} {b s : ByteArray} {lim : Nat} {W W' : World} (h : TS w base C G D nm n v ss b s lim W) (hb : Below W.heap.size W W') : TS w base C G D nm n v ss b s lim W' := ⟨h.cur.to hb, gb_to h.gb hb, own_to h.mb hb, own_to h.kb hb, own_to h.row hb, h.hC⟩
theorem TS.drew {w : World} {base C G D : Nat} {nm : ByteArray} {n : Int} {v : Value} {ss : List ByteArray} {b s : ByteArray} {lim : Nat} {W : World} (h : TS w base C G D nm n v ss b s lim W) : TS w base C G D nm n v ss b s lim W.drew := h.to (Below.drew (Below.refl _ _))
theorem TS.draw {w : World} {base C G D : Nat} {nm : ByteArray} {n : Int} {v : Value} {ss : List ByteArray} {b s : ByteArray} {lim lim' : Nat} {W W' : World} (h : TS w base C G D nm n v ss b s lim W) (hc : Cur W' C lim') (hg : W.grownBy W' (some C)) : TS w base C G D nm n v ss b s lim' W' :=
  ⟨hc, gb_tr h.gb hg, own_ltC h.mb hg h.hC, own_ltC h.kb hg h.hC, own_noC h.row h.cur (by decide) hg, h.hC⟩
theorem TS.more {w : World} {base C G D : Nat} {nm : ByteArray} {n : Int} {v : Value} {ss : List ByteArray} {b s : ByteArray} {lim lim' : Nat} {W : World} (h : TS w base C G D nm n v ss b s lim W) (hl : lim ≤ lim') : TS w base C G D nm n v ss b s lim' W := { h with cur := h.cur.more hl }
theorem TS.cells {w : World} {base C G D : Nat} {nm : ByteArray} {n : Int} {v : Value} {ss : List ByteArray} {b s : ByteArray} {lim : Nat} {W : World} (h : TS w base C G D nm n v ss b s lim W) :
    W.cell? ⟨G, 0, none⟩ = some (.string nm) ∧ W.cell? ⟨G, 1, none⟩ = some (.int .i64 n) ∧ W.cell? ⟨G, 2, none⟩ = some v ∧ W.cell? ⟨D, 0, none⟩ = some (.string b) ∧ W.cell? ⟨D, 1, none⟩ = some (.string s) :=
  ⟨(h.mb.cellAt 0 (by omega)).trans rfl, (h.mb.cellAt 1 (by omega)).trans rfl, (h.mb.cellAt 2 (by omega)).trans rfl, (h.kb.cellAt 0 (by omega)).trans rfl, (h.kb.cellAt 1 (by omega)).trans rfl⟩
/-- With the block's box X and its lead heads. -/
structure TX (w : World) (base C G D X : Nat) (nm : ByteArray) (n : Int) (v : Value) (ss : List ByteArray) (b s P B Q : ByteArray) (gv : Value) (H : List ByteArray) (lim : Nat) (W : World) : Prop where
  ts : TS w base C G D nm n v ss b s lim W
  xb : W.ownsRow w.heap.size 146 4 (.slice (some ⟨X, 0, none⟩) 1 1) 1 [.string P, .string B, .string Q, gv]
  gr : W.ownsRow w.heap.size 9 1 gv H.length (H.map Value.string)
theorem TX.to {w : World} {base C G D X : Nat} {nm : ByteArray} {n : Int} {v : Value} {ss : List ByteArray} {b s P B Q : ByteArray} {gv : Value} {H : List ByteArray} {lim : Nat} {W W' : World} (h : TX w base C G D X nm n v ss b s P B Q gv H lim W) (hb : Below W.heap.size W W') : TX w base C G D X nm n v ss b s P B Q gv H lim W' := ⟨h.ts.to hb, own_to h.xb hb, own_to h.gr hb⟩
theorem TX.draw {w : World} {base C G D X : Nat} {nm : ByteArray} {n : Int} {v : Value} {ss : List ByteArray} {b s P B Q : ByteArray} {gv : Value} {H : List ByteArray} {lim lim' : Nat} {W W' : World} (h : TX w base C G D X nm n v ss b s P B Q gv H lim W) (hc : Cur W' C lim') (hg : W.grownBy W' (some C)) : TX w base C G D X nm n v ss b s P B Q gv H lim' W' :=
  ⟨h.ts.draw hc hg, own_ltC h.xb hg h.ts.hC, own_ltC h.gr hg h.ts.hC⟩
theorem TX.more {w : World} {base C G D X : Nat} {nm : ByteArray} {n : Int} {v : Value} {ss : List ByteArray} {b s P B Q : ByteArray} {gv : Value} {H : List ByteArray} {lim lim' : Nat} {W : World} (h : TX w base C G D X nm n v ss b s P B Q gv H lim W) (hl : lim ≤ lim') : TX w base C G D X nm n v ss b s P B Q gv H lim' W := { h with ts := h.ts.more hl }
theorem TX.all {w : World} {base C G D X : Nat} {nm : ByteArray} {n : Int} {v : Value} {ss : List ByteArray} {b s P B Q : ByteArray} {ga q : Nat} {H : List ByteArray} {lim : Nat} {W : World} (h : TX w base C G D X nm n v ss b s P B Q (.slice (some ⟨ga, 0, none⟩) H.length q) H lim W) :
    TX w base C G D X nm n v ss b s P B Q (.slice (some ⟨ga, 0, none⟩) H.length q) H lim W ∧ W.cell? ⟨G, 0, none⟩ = some (.string nm) ∧ W.cell? ⟨G, 1, none⟩ = some (.int .i64 n) ∧ W.cell? ⟨G, 2, none⟩ = some v ∧ W.cell? ⟨D, 0, none⟩ = some (.string b) ∧ W.cell? ⟨D, 1, none⟩ = some (.string s) ∧
      W.cell? ⟨X, 0, none⟩ = some (.string P) ∧ W.cell? ⟨X, 1, none⟩ = some (.string B) ∧ W.cell? ⟨X, 2, none⟩ = some (.string Q) ∧ W.cell? ⟨X, 3, none⟩ = some (.slice (some ⟨ga, 0, none⟩) H.length q) ∧ ∀ i (hi : i < H.length), W.cell? ⟨ga, i, none⟩ = some (.string H[i]) :=
  ⟨h, h.ts.cells.1, h.ts.cells.2.1, h.ts.cells.2.2.1, h.ts.cells.2.2.2.1, h.ts.cells.2.2.2.2, (h.xb.cellAt 0 (by omega)).trans rfl, (h.xb.cellAt 1 (by omega)).trans rfl, (h.xb.cellAt 2 (by omega)).trans rfl, (h.xb.cellAt 3 (by omega)).trans rfl, fun i hi => by rw [h.gr.cellAt i (by omega)]; simp [hi]⟩
theorem specLeadsIn_some (m : Mt) (hs : MtSmall m) : ∃ (K : Nat) (b : Bool), ∀ v W, MethAt W m v → Calls Tryz.prog 141 #[m.v v] W fun e w' => e = .returned (.tuple #[.int .i64 (K : Int), .bool b]) ∧ Below W.heap.size W w' := by
  cases hb : methB m
  · exact ⟨0, false, fun v W hm => specLeadsIn_no m v W hb hm hs⟩
  · obtain ⟨n, K, hK⟩ := mk_of hb
    exact ⟨K, true, fun v W hm => specLeadsIn_yes m v n K W hK hm hs⟩
theorem rtO_size (G : List ByteArray) (f : ByteArray → ByteArray) (bobs : List ByteArray) (r : ByteArray) (R : Nat) : (rtO G f bobs r R).size ≤ 60 := by
  unfold rtO
  cases h : rtB G r R
  · rw [if_neg (by decide)]; decide
  · rw [if_pos rfl]
    unfold rtB at h
    rw [Bool.and_eq_true, decide_eq_true_eq, decide_eq_true_eq] at h
    have : (⟨(ringT f bobs r R).toArray⟩ : ByteArray).size = R := by
      show (ringT f bobs r R).toArray.size = _
      simp [ringT_len]
    omega
set_option maxRecDepth 100000 in
set_option maxHeartbeats 8000000 in
theorem touchOf_any (nm : ByteArray) (n : Int) (ss : List ByteArray) (b s : ByteArray) (v : Value) (w : World) (base C lim : Nat) (h : Cur w C lim) (hl : lim ≤ 9000000) (ho : w.ownsRow base 9 1 v ss.length (ss.map Value.string)) (hz : nm.size ≤ 20) (hl60 : ss.length ≤ 60) (hs20 : ∀ x ∈ ss, x.size ≤ 20) (hb20 : b.size ≤ 20 ∧ s.size ≤ 20) :
    Calls Tryz.prog 103 #[.pointer (some ⟨C, 0, none⟩), (⟨nm, n, ss⟩ : Mt).v v, (⟨b, s⟩ : Cl).v] w (DrewStr w C (lim + 30) fun t => t.size ≤ 60) := by
  have H := Lib.hid h
  have HO := Lib.hid ho
  have hCl := h.lt
  have hms : MtSmall ⟨nm, n, ss⟩ := ⟨by show nm.size ≤ _; omega, by show ss.length ≤ _; omega, fun x hx => by have := hs20 x hx; omega⟩
  have hks : ClSmall ⟨b, s⟩ := ⟨by show b.size ≤ _; omega, by show s.size ≤ _; omega⟩
  have HM := Lib.hid (fun (W : World) (base : Nat) (hN : W.ownsRow base 9 1 v ss.length (ss.map Value.string)) => (show MethAt W ⟨nm, n, ss⟩ v from ⟨strs_own_v rfl hN, by unfold maxLen; show nm.size ≤ _; omega, fun s hs => by have := hs20 s hs; unfold maxLen; omega⟩))
  obtain ⟨K, lb, hli⟩ := specLeadsIn_some ⟨nm, n, ss⟩ hms
  have Hli := Lib.hid hli
  have Hbl := Lib.hid (blk_cases ⟨nm, n, ss⟩ ⟨b, s⟩)
  have Hms := Lib.hid hms
  have Hks := Lib.hid hks
  obtain ⟨A, q, ev, _⟩ := sl_of_own ho
  subst ev
  clear h ho hz hl60 hs20 hb20 hms hks hli
  unfold Mt.v Cl.v at *
  simp only at *
  go_enter Tryz.func103, Tryz.ntmps103
  go_wp2_with fail
  refine box2 (C := fun W => Calls _ _ _ W _) ?_
  intro wb hw k1 k2 hB0
  have T0 := Lib.hid (show TS w base C w.heap.size (w.heap.size + 1) nm n (.slice A ss.length q) ss b s lim wb from ⟨H.out.to hw, gb_to (gb_refl w C) hw, own_of_heap (n := 1) (size := 3) k1 (Nat.le_refl _) (by unfold maxLen; omega) rfl, own_of_heap (n := 1) (size := 2) k2 (by omega) (by unfold maxLen; omega) rfl, own_to HO.out hw, hCl⟩)
  obtain ⟨G, hG⟩ : ∃ G, G = w.heap.size := ⟨_, rfl⟩
  obtain ⟨D, hD⟩ : ∃ D, D = w.heap.size + 1 := ⟨_, rfl⟩
  rw [← hD, ← hG] at T0
  rw [← hD, ← hG]
  clear k1 k2 hw hB0 hG hD H HO
  refine (one_any wb C lim 2 T0.out.cur (by omega) (by omega) (by omega)).mono ?_; rintro e w1 ⟨b2, rfl, hc1, hg1⟩
  have T1 := Lib.hid (T0.out.draw hc1 hg1)
  clear hc1 hg1 T0
  go_upto_if 16 with fail
  go_cut [8] (fun s8 wx => TS w base C G D nm n (.slice A ss.length q) ss b s (lim + 4) wx)
  case first =>
    cases b2
    · go_wp2_with fail
      go_meet
      exact T1.out.more (by omega)
    · obtain ⟨g0, g1, g2, d0, d1⟩ := T1.out.cells
      rcases Hbl.out with hb | ⟨nn, T, P, B, B', Q, hK, hF⟩
      · have Hnb := Lib.hid (fun W (hW : TS w base C G D nm n (.slice A ss.length q) ss b s (lim + 2) W) => l17Of_bad ⟨nm, n, ss⟩ (.slice A ss.length q) ⟨b, s⟩ W hb (HM.out _ _ hW.row) Hms.out Hks.out)
        clear hb
        go_wp2_with fail
        refine (Hnb.out _ T1.out).mono ?_; rintro e w2 ⟨x0, x1, x2, A2, l2, q2, rfl, hb2⟩
        have T2 := Lib.hid (T1.out.to (bw_al hb2 (.cells #[.string x0, .string x1, .string x2, .slice A2 l2 q2] 146)))
        clear hb2
        go_wp2_with fail
        go_meet
        exact T2.out.more (by omega)
      · have Hnb := Lib.hid (fun W (hW : TS w base C G D nm n (.slice A ss.length q) ss b s (lim + 2) W) => l17Of_yes ⟨nm, n, ss⟩ (.slice A ss.length q) ⟨b, s⟩ nn T P B B' Q W hK (HM.out _ _ hW.row) Hms.out Hks.out)
        rw [grp8_yes (Nat.le_trans hF (by omega)), decide_eq_true hF] at Hnb
        obtain ⟨KO, hKb, hO⟩ := ord_ex hK.hn hK.invQ
        obtain ⟨RR, KO2, hO2, hKb2, hX⟩ := cx_all hK hF
        have hn8 : nn ≤ 8 := hK.hn
        have hst : n = (nn : Int) := hK.cg.m.st
        subst hst
        have hG0 : 1 ≤ (sortB (cloB nn [P, B] T)).length := List.length_pos_of_mem ((sortB_mem _ _).2 (clo_rounds nn [P, B] T))
        have hAd := fun x (hx : x ∈ sortB (cloB nn [P, B] T)) => bg_add (bobs := []) hK hO hx (BG.nil _ _)
        have hI := fun x (hx : x ∈ sortB (cloB nn [P, B] T)) => (bk_all hK).2.2 x ((sortB_mem _ _).1 hx)
        have Hrt := Lib.hid (fun x (hx : x ∈ sortB (cloB nn [P, B] T)) Vb W (hW : W.ownsRow base 9 1 (.slice A ss.length q) ss.length (ss.map Value.string)) (hV : Strs W Vb (addS [] (sortB (setB nn Q x KO)))) => (specRingTouchOf_yes ⟨nm, nn, ss⟩ (.slice A ss.length q) ⟨b, s⟩ Vb nn T KO2 P B B' Q (roundsB nn) (RR (addS [] (sortB (setB nn Q x KO)))) (addS [] (sortB (setB nn Q x KO))) W hK hF (hAd x hx) (hX _ (hAd x hx).2) (HM.out _ _ hW) Hms.out Hks.out hV).mono fun e w' ⟨h1, h2⟩ => (show ∃ (t : ByteArray) (bb : Bool), e = Ending.returned (.tuple #[.string t, .bool bb]) ∧ t.size ≤ 60 ∧ Below W.heap.size W w' from ⟨_, _, h1, rtO_size _ _ _ _ _, h2⟩))
        have Had := Lib.hid (fun x (hx : x ∈ sortB (cloB nn [P, B] T)) gv W (hf : ∃ A l c, gv = .slice A l c) => addSetS_any nn KO P B Q x gv (.slice none 0 0) [] W hK.hn hK.invQ (hI x hx) hO hKb hf (strs_nil W) nilok_nil0 (by simp) (by simp))
        obtain ⟨Hh, hHh⟩ : ∃ G, G = sortB (cloB nn [P, B] T) := ⟨_, rfl⟩
        have hGl : Hh.length ≤ 130 := by rw [hHh, sortB_len]; exact hF
        rw [← hHh] at Hnb hG0 Hrt Had
        clear hK hF hO hO2 hX hAd hI hHh
        go_wp2_with fail
        refine (Hnb.out _ T1.out).mono ?_; rintro e w2 ⟨A2, q2, rfl, hown2, hb2⟩
        have hz2 : w.heap.size ≤ w1.heap.size := T1.out.gb.size
        have hz3 : w1.heap.size ≤ w2.heap.size := hb2.size
        obtain ⟨ga, rfl, hga, _⟩ := own_addr hown2 hG0
        have T2 := Lib.hid (T1.out.to hb2)
        have O2 := Lib.hid (own_base (base' := w.heap.size) hown2 hz2)
        clear hb2 hown2 g0 g1 g2 d0 d1
        go_upto_region 4 with fail
        refine box1 (C := fun W => Code.wp _ _ _ _ W) ?_
        intro w3 hw3 k3 hB3
        have X3 := Lib.hid (show TX w base C G D w2.heap.size nm nn (.slice A ss.length q) ss b s P B Q (.slice (some ⟨ga, 0, none⟩) Hh.length q2) Hh (lim + 2) w3 from ⟨T2.out.to hw3, own_of_heap (n := 1) (size := 4) k3 (by omega) (by unfold maxLen; omega) rfl, own_to O2.out hw3⟩)
        obtain ⟨X, hX⟩ : ∃ X, X = w2.heap.size := ⟨_, rfl⟩
        rw [← hX] at X3 ⊢
        clear k3 hw3 hB3 hX T1 T2 O2
        have X3d := Lib.hid (X3.out.to (Below.drew (Below.refl w3.heap.size w3)))
        have y3 : TX w base C G D X nm nn (.slice A ss.length q) ss b s P B Q (.slice (some ⟨ga, 0, none⟩) Hh.length q2) Hh (lim + 4) w3.drew := X3d.out.more (by omega)
        have hGi : (1 : Int) ≤ Hh.length := by omega
        go_region_held3 (fun W => TX w base C G D X nm nn (.slice A ss.length q) ss b s P B Q (.slice (some ⟨ga, 0, none⟩) Hh.length q2) Hh (lim + 4) W ∧ W.cell? ⟨G, 0, none⟩ = some (.string nm) ∧ W.cell? ⟨G, 1, none⟩ = some (.int .i64 nn) ∧ W.cell? ⟨G, 2, none⟩ = some (.slice A ss.length q) ∧ W.cell? ⟨D, 0, none⟩ = some (.string b) ∧ W.cell? ⟨D, 1, none⟩ = some (.string s) ∧ W.cell? ⟨X, 0, none⟩ = some (.string P) ∧ W.cell? ⟨X, 1, none⟩ = some (.string B) ∧ W.cell? ⟨X, 2, none⟩ = some (.string Q) ∧ W.cell? ⟨X, 3, none⟩ = some (.slice (some ⟨ga, 0, none⟩) Hh.length q2) ∧ ∀ i (hi : i < Hh.length), W.cell? ⟨ga, i, none⟩ = some (.string Hh[i])) (first | with_reducible assumption | with_reducible exact TX.all (by assumption)) (first | (go_at_call 56; refine (pick_any _ C _ Hh.length X3d.out.ts.cur (by omega) (by omega) (by omega)).mono ?_; rintro e w4 ⟨z, rfl, hz, hc4, hg4⟩; (have X4 := Lib.hid (X3d.out.draw hc4 hg4)); (have y4 : TX w base C G D X nm nn (.slice A ss.length q) ss b s P B Q (.slice (some ⟨ga, 0, none⟩) Hh.length q2) Hh (lim + 4) w4 := X4.out.more (by omega)); (obtain ⟨i, rfl⟩ : ∃ i : Nat, z = i := ⟨z.toNat, by omega⟩); (have hi : i < Hh.length := by omega); (have hzi : (i : Int) < (Hh.length : Int) := by omega); clear hc4 hg4 hz) | (go_at_call 140; refine (Had.out _ (List.getElem_mem hi) _ _ ⟨_, _, _, rfl⟩).mono ?_; rintro e w5 ⟨A5, q5, rfl, ho5, hb5⟩; (have X5 := Lib.hid (X4.out.to hb5)); (have y5 : TX w base C G D X nm nn (.slice A ss.length q) ss b s P B Q (.slice (some ⟨ga, 0, none⟩) Hh.length q2) Hh (lim + 4) w5 := X5.out.more (by omega)); (have S5 := Lib.hid (strs_of_own ho5)); clear hb5 ho5) | (go_at_call 109; refine (l1Rounds_any nn _ hn8).mono ?_; rintro e wX ⟨rfl, rfl⟩) | (go_at_call 139; refine (Hrt.out _ (List.getElem_mem hi) _ _ X5.out.ts.row S5.out).mono ?_; rintro e w6 ⟨t, bb, rfl, hts, hb6⟩; (have X6 := Lib.hid (X5.out.to hb6)); (have y6 : TX w base C G D X nm nn (.slice A ss.length q) ss b s P B Q (.slice (some ⟨ga, 0, none⟩) Hh.length q2) Hh (lim + 4) w6 := X6.out.more (by omega)); clear hb6))
        cases bb
        · go_wp2_with fail
          go_meet
          exact X6.out.ts.more (by omega)
        · go_wp2_with fail
          go_ret
          exact ⟨t, rfl, hts, X6.out.ts.cur.more (by omega), X6.out.ts.gb⟩
  case rest =>
    have Tc := Lib.hid hcut
    clear hcut T1 Hbl Hks
    go_wp2_with fail
    refine (pick_any wc C _ 6 Tc.out.cur (by omega) (by omega) (by omega)).mono ?_; rintro e w2 ⟨z, rfl, hz, hc2, hg2⟩
    obtain ⟨j0, rfl⟩ : ∃ j : Nat, z = j := ⟨z.toNat, by omega⟩
    have T2 := Lib.hid (Tc.out.draw hc2 hg2)
    clear hc2 hg2 Tc
    go_wp2_with fail
    go_loopw [11, 12] (fun t i wr => ∃ (tt : ByteArray) (j l : Nat), t = .string tt ∧ i = .int .i64 j ∧ tt.size + j ≤ 6 ∧ l + 2 * j ≤ lim + 20 ∧ TS w base C G D nm n (.slice A ss.length q) ss b s l wr) (fun _ i _ => (intOf i).toNat)
    case atStart => exact ⟨⟨#[]⟩, 1 + j0, lim + 6, rfl, by go_num, by show 0 + (1 + j0) ≤ 6; omega, by omega, T2.out⟩
    case round =>
      obtain ⟨tt, j, l, rfl, rfl, htj, hlj, hT⟩ := hrel
      have T3 := Lib.hid hT
      clear hT T2
      by_cases hpos : 0 < j
      · have hpi : (0 : Int) < j := by omega
        go_wp2_with fail
        refine (of_at wr C _ 5 _ [⟨#[112]⟩, ⟨#[112]⟩, ⟨#[112]⟩, ⟨#[98]⟩, ⟨#[115]⟩] rfl T3.out.cur (by omega) rfl (by omega) (by omega)).mono ?_; rintro e w4 ⟨x, rfl, hx, hc4, hg4⟩
        have T4 := Lib.hid (T3.out.draw hc4 hg4)
        have hx1 : x.size = 1 := by
          simp at hx
          rcases hx with rfl | rfl | rfl <;> rfl
        have hb : ¬ 9223372036854775807 < tt.size + x.size := by omega
        clear hc4 hg4 T3 hx
        go_wp2_with fail
        exact ⟨⟨tt ++ x, j - 1, l + 2, rfl, by rw [show ((j - 1 : Nat) : Int) = (j : Int) - 1 by omega], by rw [ByteArray.size_append]; omega, by omega, T4.out⟩, by simp [intOf]; omega⟩
      · obtain rfl : j = 0 := by omega
        obtain ⟨g0, g1, g2, d0, d1⟩ := T3.out.cells
        go_wp2_with fail
        refine (Hli.out _ _ (HM.out _ _ T3.out.row)).mono ?_; rintro e w4 ⟨rfl, hb4⟩
        have T4 := Lib.hid (T3.out.to hb4)
        clear hb4 T3 g0 g1 g2 d0 d1
        cases lb
        · go_wp2_with fail
          go_ret
          exact ⟨tt, rfl, by omega, T4.out.cur.more (by omega), T4.out.gb⟩
        · by_cases hK : K ≤ 60
          · have hKi : (K : Int) ≤ 60 := by omega
            have hKd : decide ((K : Int) ≤ 60) = true := decide_eq_true hKi
            go_wp2_with fail
            refine (one_any w4 C _ 3 T4.out.cur (by omega) (by omega) (by omega)).mono ?_; rintro e w5 ⟨b3, rfl, hc5, hg5⟩
            have T5 := Lib.hid (T4.out.draw hc5 hg5)
            clear hc5 hg5 T4
            cases b3
            · go_wp2_with fail
              go_ret
              exact ⟨tt, rfl, by omega, T5.out.cur.more (by omega), T5.out.gb⟩
            · go_wp2_with fail
              go_loopw [11, 13] (fun t i wr => ∃ (tt : ByteArray) (j : Nat), t = .string tt ∧ i = .int .i64 j ∧ tt.size + j ≤ 60 ∧ wr = w5) (fun _ i _ => (intOf i).toNat)
              case atStart => exact ⟨⟨#[]⟩, K, rfl, rfl, by show 0 + K ≤ 60; omega, rfl⟩
              case round =>
                obtain ⟨tt, j, rfl, rfl, htj, rfl⟩ := hrel
                by_cases hpos : 0 < j
                · have hpi : (0 : Int) < j := by omega
                  have hb : ¬ 9223372036854775807 < tt.size + (ByteArray.mk #[112]).size := by show ¬ 9223372036854775807 < tt.size + 1; omega
                  go_wp2_with fail
                  exact ⟨⟨tt ++ ⟨#[112]⟩, j - 1, rfl, by rw [show ((j - 1 : Nat) : Int) = (j : Int) - 1 by omega], by rw [ByteArray.size_append]; show tt.size + 1 + (j - 1) ≤ 60; omega, (by first | rfl | trivial)⟩, by simp [intOf]; omega⟩
                · obtain rfl : j = 0 := by omega
                  go_wp2_with fail
                  go_ret
                  exact ⟨tt, rfl, by omega, T5.out.cur.more (by omega), T5.out.gb⟩
          · have hKi : ¬ (K : Int) ≤ 60 := by omega
            have hKd : decide ((K : Int) ≤ 60) = false := decide_eq_false hKi
            go_wp2_with fail
            go_ret
            exact ⟨tt, rfl, by omega, T4.out.cur.more (by omega), T4.out.gb⟩
end Go.Proofs.YtofpjbdelmmclaaGreatDoor

/- A method with calls and a touch drawn. (Printed by a program: tools/mkXK.py.) -/
namespace Go.Proofs.YtofpjbdelmmclaaGreatDoor
open Go Go.RowKit
set_option linter.unusedVariables false
set_option linter.unusedSimpArgs false

/-- What a draw of a method with its calls and a touch leaves. -/
def DrewT (w : World) (C lim : Nat) (e : Ending) (w' : World) : Prop := ∃ (m : Mt) (v : Value) (k : Cl) (t : ByteArray), e = .returned (.tuple #[m.v v, k.v, .string t]) ∧ m.name.size ≤ 20 ∧ m.l.length ≤ 60 ∧ (∀ s ∈ m.l, s.size ≤ 20) ∧ StageM m ∧ (k.bob.size ≤ 20 ∧ k.single.size ≤ 20) ∧ t.size ≤ 60 ∧ w'.ownsRow w.heap.size 9 1 v m.l.length (m.l.map Value.string) ∧ Cur w' C lim ∧ w.grownBy w' (some C)
theorem HB.more {w : World} {C R K G D : Nat} {nm : ByteArray} {n : Int} {v : Value} {ss : List ByteArray} {b s : ByteArray} {lim lim' : Nat} {W : World} (h : HB w C R K G D nm n v ss b s lim W) (hl : lim ≤ lim') : HB w C R K G D nm n v ss b s lim' W := { h with hc := h.hc.more hl }
set_option maxRecDepth 100000 in
set_option maxHeartbeats 8000000 in
theorem touched_any (w : World) (C lim : Nat) (h : Cur w C lim) (hl : lim ≤ 8000000) : Calls Tryz.prog 75 #[.pointer (some ⟨C, 0, none⟩)] w (DrewT w C (lim + 250)) := by
  have H := Lib.hid h
  have hCl := h.lt
  clear h
  go_enter Tryz.func75, Tryz.ntmps75
  go_wp2_with fail
  refine box2 (C := fun W => Calls _ _ _ W _) ?_
  intro wb hw k0 k1 hB0
  have hbz : w.heap.size + 1 < wb.heap.size := (Array.getElem?_eq_some_iff.1 k1).1
  refine (hunted_any wb C lim (H.out.to hw) (by omega)).mono ?_; rintro e w1 ⟨m, v, k, rfl, hz, hl60, hsm, hst, ⟨hkb, hks⟩, ho, hc1, hg1⟩
  have H1 := Lib.hid (show FK w C w.heap.size (w.heap.size + 1) v m.l (lim + 220) w1 from
    ⟨hc1, gb_tr (gb_to (gb_refl w C) hw) hg1, ⟨_, own_ltC (own_of_heap (base := w.heap.size) (n := 1) (size := 3) k0 (Nat.le_refl _) (by unfold maxLen; omega) rfl) hg1 hCl⟩,
      ⟨_, own_ltC (own_of_heap (base := w.heap.size) (n := 1) (size := 2) k1 (Nat.le_succ _) (by unfold maxLen; omega) rfl) hg1 hCl⟩, own_base (base' := w.heap.size) ho (by omega), hCl⟩)
  have hz1 : w.heap.size + 1 < w1.heap.size := Nat.lt_of_lt_of_le hbz hg1.size
  have Hs := Lib.hid hsm
  have Hst := Lib.hid hst
  clear hc1 hg1 k0 k1 hw hB0 ho hsm hst H
  obtain ⟨nm, n, ss⟩ := m
  obtain ⟨kb, ks⟩ := k
  obtain ⟨A1, q1, ev, _⟩ := sl_of_own H1.out.row
  subst ev
  simp only at hz hl60 hkb hks
  have HP := Lib.hid (show nm.size ≤ 20 ∧ ss.length ≤ 60 ∧ kb.size ≤ 20 ∧ ks.size ≤ 20 from ⟨hz, hl60, hkb, hks⟩)
  unfold Mt.v Cl.v
  simp only
  obtain ⟨R, hR⟩ : ∃ R, R = w.heap.size := ⟨_, rfl⟩
  obtain ⟨K, hK⟩ : ∃ K, K = w.heap.size + 1 := ⟨_, rfl⟩
  have hRz : R < w1.heap.size := by omega
  have hKz : K < w1.heap.size := by omega
  rw [← hK, ← hR] at H1
  rw [← hK, ← hR]
  clear hR hK hz hl60 hkb hks
  go_upto_region 2 with fail
  refine box2 (C := fun W => Code.wp _ _ _ _ W) ?_
  intro w3 hw3 k3 k4 hB3
  have N3 := Lib.hid (show HB w C R K w1.heap.size (w1.heap.size + 1) nm n (.slice A1 ss.length q1) ss kb ks (lim + 220) w3 from ⟨⟨H1.out.to hw3, own_of_heap (n := 1) (size := 3) k3 (by omega) (by unfold maxLen; omega) rfl, by omega⟩, own_of_heap (n := 1) (size := 2) k4 (by omega) (by unfold maxLen; omega) rfl, by omega⟩)
  obtain ⟨G, hG⟩ : ∃ G, G = w1.heap.size := ⟨_, rfl⟩
  obtain ⟨D, hD⟩ : ∃ D, D = w1.heap.size + 1 := ⟨_, rfl⟩
  rw [← hD, ← hG] at N3
  rw [← hD, ← hG]
  clear k3 k4 hw3 hB3 hG hD H1
  have N3d := Lib.hid N3.out.drew
  have y3 : HB w C R K G D nm n (.slice A1 ss.length q1) ss kb ks (lim + 250) w3.drew := N3d.out.more (by omega)
  have hRK : R ≠ K := N3.out.hc.st.ne.1
  have hKR : K ≠ R := fun e => hRK e.symm
  obtain ⟨_, _, _, _, _, _, r0, r1, r2, p0, p1, f0, f1, f2, g0, g1⟩ := N3.out.all
  go_region_held3 (fun W => HB w C R K G D nm n (.slice A1 ss.length q1) ss kb ks (lim + 250) W ∧ W.cell? ⟨G, 0, none⟩ = some (.string nm) ∧ W.cell? ⟨G, 1, none⟩ = some (.int .i64 n) ∧ W.cell? ⟨G, 2, none⟩ = some (.slice A1 ss.length q1) ∧ W.cell? ⟨D, 0, none⟩ = some (.string kb) ∧ W.cell? ⟨D, 1, none⟩ = some (.string ks) ∧ W.cell? ⟨R, 0, none⟩ = some (oldC R 0 W) ∧ W.cell? ⟨R, 1, none⟩ = some (oldC R 1 W) ∧ W.cell? ⟨R, 2, none⟩ = some (oldC R 2 W) ∧ W.cell? ⟨K, 0, none⟩ = some (oldC K 0 W) ∧ W.cell? ⟨K, 1, none⟩ = some (oldC K 1 W) ∧ W.frozen? ⟨R, 0, none⟩ = false ∧ W.frozen? ⟨R, 1, none⟩ = false ∧ W.frozen? ⟨R, 2, none⟩ = false ∧ W.frozen? ⟨K, 0, none⟩ = false ∧ W.frozen? ⟨K, 1, none⟩ = false) (first | with_reducible assumption | with_reducible exact HB.all (by assumption) | with_reducible exact HB.allR (by assumption) | with_reducible exact HB.allK (by assumption) | with_reducible exact HB.allRd (by assumption) | with_reducible exact HB.allKd (by assumption)) (first | (go_at_call 103; refine (touchOf_any nm n ss kb ks (.slice A1 ss.length q1) _ w.heap.size C _ N3d.out.hc.st.cur (by omega) N3d.out.hc.st.row HP.out.1 HP.out.2.1 Hs.out ⟨HP.out.2.2.1, HP.out.2.2.2⟩).mono ?_; rintro e w4 ⟨t, rfl, hts, hc4, hg4⟩; (have N4 := Lib.hid (N3d.out.draw hc4 hg4)); (have y4 : HB w C R K G D nm n (.slice A1 ss.length q1) ss kb ks (lim + 250) w4 := N4.out); clear hc4 hg4))
  go_wp2_with fail
  obtain ⟨W', eW, F', ⟨e0, e1, e2⟩, d0, d1⟩ := N4.out.hc.st.fin (.string nm) (.int .i64 n) (.slice A1 ss.length q1) (.string kb) (.string ks)
  rw [← eW]
  refine bodyPost_ret (v := .tuple #[.agg #[.string nm, .int .i64 n, .slice A1 ss.length q1], .agg #[.string kb, .string ks], .string t]) (by simp [results, go_sem, e0, e1, e2, d0, d1]) rfl ?_
  exact ⟨⟨nm, n, ss⟩, .slice A1 ss.length q1, ⟨kb, ks⟩, t, rfl, HP.out.1, HP.out.2.1, Hs.out, Hst.out, ⟨HP.out.2.2.1, HP.out.2.2.2⟩, hts, F'.row, F'.cur, F'.gb⟩
end Go.Proofs.YtofpjbdelmmclaaGreatDoor

/- The drawers of a method with calls and a touch. -/
namespace Go.Proofs.YtofpjbdelmmclaaGreatDoor
open Go Go.RowKit
set_option linter.unusedVariables false
set_option linter.unusedSimpArgs false

def PostT (w : World) (e : Ending) (w' : World) : Prop := ∃ m v k t, e = .returned (.tuple #[m.v v, k.v, .string t]) ∧ PMK w w' m v k ∧ t.size ≤ 60
end Go.Proofs.YtofpjbdelmmclaaGreatDoor

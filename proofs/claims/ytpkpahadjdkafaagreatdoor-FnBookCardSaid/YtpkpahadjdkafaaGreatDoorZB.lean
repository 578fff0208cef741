/- The law Book, walked. -/
import Derived.Test.YtpkpahadjdkafaaGreatDoorZA
import Derived.Test.YtpkpahadjdkafaaGreatDoorX7
import Derived.Test.YtpkpahadjdkafaaGreatDoorZ2
namespace Go.Proofs.YtpkpahadjdkafaaGreatDoor
open Go Go.RowKit
set_option linter.unusedVariables false
set_option linter.unusedSimpArgs false

theorem BytesAt.toB {w w' : World} {V : Value} (h : BytesAt w w.heap.size V) (hb : Below w.heap.size w w') : BytesAt w' w'.heap.size V := (h.keep (fun p hp => hb.cell hp)).more hb.size
theorem rb_back {xs : List Rc} (h : bookB xs = true) (hz : (bookT xs).size ≤ 4000) : rbL (bookT xs) = xs ∧ rbN (bookT xs) = (bookT xs).size ∧ rbO (bookT xs) = true := by
  unfold rbL rbN rbO
  rw [if_pos hz, if_pos hz, read_back h]
  exact ⟨rfl, rfl, decide_eq_true hz⟩
theorem rb_cut {xs : List Rc} {cut : Nat} (h : bookB xs = true) (hz : (bookT xs).size ≤ 4000) (hc : cut ≤ (bookT xs).size) : ∃ j n, j ≤ xs.length ∧ n ≤ cut ∧ rbL ((bookT xs).extract 0 cut) = xs.take j ∧ rbN ((bookT xs).extract 0 cut) = n ∧ rbO ((bookT xs).extract 0 cut) = true := by
  obtain ⟨j, n, h1, h2, e⟩ := read_cut h hc
  have hs : ((bookT xs).extract 0 cut).size ≤ 4000 := by rw [ByteArray.size_extract]; omega
  have hl : ((bookT xs).extract 0 cut).data.toList = (bookT xs).data.toList.take cut := by rw [ext_list]; simp
  refine ⟨j, n, h1, h2, ?_, ?_, decide_eq_true hs⟩
  · unfold rbL; rw [if_pos hs, hl, e]
  · unfold rbN; rw [if_pos hs, hl, e]
set_option maxHeartbeats 1000000 in
theorem drawGoodBook_any (V : Value) (w : World) (h : BytesAt w w.heap.size V) : Calls Tryz.prog 16 #[V] w fun e w' =>
    ∃ u, ∃ xs : List Rc, e = .returned u ∧ w'.ownsRow w.heap.size 39 5 u xs.length (xs.flatMap Rc.cells) ∧ AllSm xs ∧ xs.length ≤ 21 ∧ Below w.heap.size w w' := by
  have H := Lib.hid h
  obtain ⟨A0, n0, c0, zs0, rfl, _⟩ := h
  go_enter Tryz.func16, Tryz.ntmps16
  go_wp2_with fail
  refine box1 (C := fun W => Calls _ _ _ W _) ?_
  intro wb hw k1 hB0
  have C0 := Lib.hid (cur_newZ H.out hw (Nat.le_refl _) k1)
  have hCw : w.heap.size < wb.heap.size := (Array.getElem?_eq_some_iff.1 k1).1
  have Hw := Lib.hid hw
  clear k1 hw
  refine (drawAnyBook_any wb w.heap.size 0 C0.out (by omega)).mono ?_; rintro e w1 ⟨u, xs, rfl, ho1, hs1, hn1, hc1, hg1⟩
  go_wp2_with fail
  go_ret
  exact ⟨u, xs, rfl, own_base ho1 (by omega), hs1, hn1, gb_below Hw.out hg1 (Nat.le_refl _)⟩
set_option maxHeartbeats 1000000 in
theorem drawBookText_any (V : Value) (w : World) (h : BytesAt w w.heap.size V) : Calls Tryz.prog 4 #[V] w fun e w' =>
    ∃ u, ∃ xs : List Rc, e = .returned u ∧ w'.ownsRow w.heap.size 39 5 u xs.length (xs.flatMap Rc.cells) ∧ AllSm xs ∧ xs.length ≤ 21 ∧ Below w.heap.size w w' := by
  have H := Lib.hid h
  obtain ⟨A0, n0, c0, zs0, rfl, _⟩ := h
  go_enter Tryz.func4, Tryz.ntmps4
  go_wp2_with fail
  refine (drawGoodBook_any _ w H.out).mono ?_; rintro e w1 ⟨u, xs, rfl, h1⟩
  go_wp2_with fail
  go_ret
  exact ⟨u, xs, rfl, h1⟩
set_option maxRecDepth 100000 in
set_option maxHeartbeats 8000000 in
theorem lawBook_any (V : Value) (U : Value) (w : World) (hV : BytesAt w w.heap.size V) (hU : BytesAt w w.heap.size U) (ht : Tab10 w) (hm : MaxOk w) : Calls Tryz.prog 3 #[V, U] w fun e w' => e = .returned (.bool true) ∧ Below w.heap.size w w' := by
  have HV := Lib.hid hV
  have HU := Lib.hid hU
  have HT := Lib.hid ht
  have HM := Lib.hid hm
  clear ht hm
  obtain ⟨A1, n1, c1, zs1, rfl, _, _, hm1, _⟩ := hV
  obtain ⟨A2, n2, c2, zs2, rfl, _, _, hm2, _⟩ := hU
  unfold maxLen at hm1 hm2
  go_enter Tryz.func3, Tryz.ntmps3
  go_wp2_with fail
  · go_ret
    exact ⟨rfl, Below.refl _ _⟩
  refine (drawBookText_any _ w HV.out).mono ?_; rintro e w1 ⟨u, xs, rfl, ho1, hs1, hn1, hb1⟩
  obtain ⟨Au, cu, eu, _⟩ := sl_of_own ho1
  subst eu
  have O1 := Lib.hid ho1
  have Sx := Lib.hid hs1.fit
  have hbz := bookT_size xs
  obtain ⟨s, hs⟩ : ∃ s, s = bookT xs := ⟨_, rfl⟩
  obtain ⟨ok, hok⟩ : ∃ ok, ok = bookB xs := ⟨_, rfl⟩
  have Him := Lib.hid (fun W (hR : Recs W (.slice Au xs.length cu) xs) (hW : Below w.heap.size w W) => implBookText_any _ xs W hR Sx.out (HT.out.to hW))
  have Hsp := Lib.hid (fun W (hR : Recs W (.slice Au xs.length cu) xs) => specBookText_any _ xs W hR Sx.out)
  have Hgd := Lib.hid (fun W (hR : Recs W (.slice Au xs.length cu) xs) => implGoodBook_any _ xs W hR Sx.out)
  have Hrd := Lib.hid (fun (t : ByteArray) W (ht : t.size ≤ 1048576) (hW : Below w.heap.size w W) => implReadBook_any t W ht (HT.out.to hW) (HM.out.to hW))
  rw [← hs, ← hok] at Him Hsp
  rw [← hok] at Hgd
  rw [← hs] at hbz
  have HS := Lib.hid hs
  have HO := Lib.hid hok
  clear ho1 hs1 hs hok
  go_wp2_with fail
  refine (Him.out _ (recs_of_own O1.out) hb1).mono ?_; rintro e w2 ⟨rfl, hb2⟩
  have O2 := Lib.hid (own_to O1.out hb2)
  have hB2 := bw_to hb1 hb2
  go_wp2_with fail
  refine (Hsp.out _ (recs_of_own O2.out)).mono ?_; rintro e w3 ⟨rfl, hb3⟩
  have O3 := Lib.hid (own_to O2.out hb3)
  have hB3 := bw_to hB2 hb3
  clear hb1 hb2 hb3 hB2
  go_wp2_with fail
  refine (drawReadBook_any _ w3 (HU.out.toB hB3)).mono ?_; rintro e w4 ⟨t, rfl, hts, hb4⟩
  have O4 := Lib.hid (own_to O3.out hb4)
  have hB4 := bw_to hB3 hb4
  go_wp2_with fail
  refine (Hrd.out t w4 (by omega) hB4).mono ?_; rintro e w5 ⟨Ar, qr, rfl, hr5, hb5⟩
  have O5 := Lib.hid (own_to O4.out hb5)
  have R5 := Lib.hid (recs_of_own hr5)
  have hB5 := bw_to hB4 hb5
  go_wp2_with fail
  refine (specReadBook_any t w5 (by omega)).mono ?_; rintro e w6 ⟨As, qs, rfl, hr6, hb6⟩
  have O6 := Lib.hid (own_to O5.out hb6)
  have R6 := Lib.hid (R5.out.to hb6)
  have T6 := Lib.hid (recs_of_own hr6)
  have hB6 := bw_to hB5 hb6
  clear hb4 hb5 hb6 hB3 hB4 hB5 hr5 hr6
  go_wp2_with fail
  refine (drawRungOn_any _ w6 (HU.out.toB hB6)).mono ?_; rintro e w7 ⟨v, ys, d, rfl, ho7, hs7, hn7, hb7⟩
  have Hri := Lib.hid (fun W (hR : Recs W v ys) => implRungOn_any v ys d W hR hs7.fit)
  have Hrs := Lib.hid (fun W (hR : Recs W v ys) => specRungOn_any v ys d W hR hs7.fit)
  unfold RungPost at Hri Hrs
  have Y7 := Lib.hid (recs_of_own ho7)
  have hB7 := bw_to hB6 hb7
  have hb67 := hb7
  clear ho7 hs7 hb7 hB6
  go_wp2_with fail
  refine (Hri.out _ Y7.out).mono ?_; rintro e w8 ⟨r8, rfl, ho8, hb8⟩
  have D8 := Lib.hid (recs_of_own ho8)
  have hB8 := bw_to hB7 hb8
  have hb68 := bw_to hb67 hb8
  go_wp2_with fail
  refine (Hrs.out _ (Y7.out.to hb8)).mono ?_; rintro e w9 ⟨r9, rfl, ho9, hb9⟩
  have E9 := Lib.hid (recs_of_own ho9)
  have D9 := Lib.hid (D8.out.to hb9)
  have hB9 := bw_to hB8 hb9
  have hb69 := bw_to hb68 hb9
  clear hb67 hb68 hb8 hb9 hB7 hB8 ho8 ho9
  go_wp2_with fail
  refine (qSameBook_same _ _ _ _ (R6.out.to hb69) (T6.out.to hb69)).mono ?_; rintro e w10 ⟨rfl, hb10⟩
  go_wp2_with fail
  refine (qSameBook_same _ _ _ _ (D9.out.to hb10) (E9.out.to hb10)).mono ?_; rintro e w11 ⟨rfl, hb11⟩
  have O11 := Lib.hid (own_to O6.out (bw_to hb69 (bw_to hb10 hb11)))
  have hB11 := bw_to hB9 (bw_to hb10 hb11)
  clear hb69 hb10 hb11 hB9
  go_wp2_with fail
  refine (Hgd.out _ (recs_of_own O11.out)).mono ?_; rintro e w12 ⟨rfl, hb12⟩
  have O12 := Lib.hid (own_to O11.out hb12)
  have hB12 := bw_to hB11 hb12
  clear hb12 hB11
  cases ok
  · go_wp2_with fail
    go_ret
    exact ⟨rfl, hB12⟩
  have hbb : bookB xs = true := HO.out.symm
  have hz4 : (bookT xs).size ≤ 4000 := by rw [← HS.out]; omega
  obtain ⟨l1, l2, l3⟩ := rb_back hbb hz4
  have Hcut := Lib.hid (fun cut hc => rb_cut (cut := cut) hbb hz4 hc)
  rw [← HS.out] at l1 l2 l3 Hcut
  have hr := Hrd.out s w12 (by omega) hB12
  unfold RBPost at hr
  rw [l1, l2, l3] at hr
  have Hr := Lib.hid hr
  have hsi : (s.size : Int) ≤ 4000 := by omega
  clear l1 l2 l3 hr hbb hz4
  go_wp2_with fail
  refine Hr.out.mono ?_; rintro e w13 ⟨Ab, qb, rfl, hr13, hb13⟩
  have B13 := Lib.hid (recs_of_own hr13)
  have O13 := Lib.hid (own_to O12.out hb13)
  have hB13 := bw_to hB12 hb13
  clear hr13 hb13 hB12
  go_wp2_with fail
  refine (qNumber_any _ w13 (HU.out.toB hB13)).mono ?_; rintro e _ ⟨q, rfl, hq, rfl⟩
  obtain ⟨k, hk⟩ : ∃ k, k = q % (s.size + 1) := ⟨_, rfl⟩
  have hkl : k ≤ s.size := by have := Nat.mod_lt q (show 0 < s.size + 1 by omega); omega
  have hw1 : IntKind.i64.wrap ((s.size : Int) + 1) = (s.size : Int) + 1 := IntWalk.i64_in _ (by omega)
  have hm1 : (q : Int) % ((s.size : Int) + 1) = (k : Int) := by rw [hk, Int.natCast_emod]; congr 1
  have hm2 : Int.tmod (q : Int) ((s.size : Int) + 1) = (k : Int) := by rw [Int.tmod_eq_emod_of_nonneg (by omega)]; exact hm1
  have hnz : ¬ ((s.size : Int) + 1 = 0) := by omega
  obtain ⟨j, n, hj, hn, m1, m2, m3⟩ := Hcut.out k hkl
  have hx := Hrd.out (s.extract 0 k) w13 (by rw [ByteArray.size_extract]; omega) hB13
  unfold RBPost at hx
  rw [m1, m2, m3] at hx
  have hjl : (xs.take j).length = j := by rw [List.length_take]; omega
  rw [hjl] at hx
  have Hx := Lib.hid hx
  have hki : (k : Int) ≤ (s.size : Int) := by omega
  have Hjl := Lib.hid hjl
  clear hk m1 m2 m3 hx hjl
  go_wp2_with fail
  refine Hx.out.mono ?_; rintro e w14 ⟨Ap, qp, rfl, hr14, hb14⟩
  have hni : (n : Int) ≤ (k : Int) := by omega
  have hji : (j : Int) ≤ (xs.length : Int) := by omega
  have P14 : Hid (Recs w14 (.slice Ap j qp) (xs.take j)) := Lib.hid (recs_of_own (by rw [Hjl.out]; exact hr14))
  have B14 := Lib.hid (B13.out.to hb14)
  have O14 := Lib.hid (own_to O13.out hb14)
  have hB14 := bw_to hB13 hb14
  clear hr14 hb14 hB13
  go_wp2_with fail
  refine (qSameBook_same _ _ _ _ B14.out (recs_of_own O14.out)).mono ?_; rintro e w15 ⟨rfl, hb15⟩
  have O15 := Lib.hid (recs_of_own (own_to O14.out hb15))
  have P15 := Lib.hid (P14.out.to hb15)
  have hB15 := bw_to hB14 hb15
  clear hb15 hB14
  obtain ⟨_, _, e15, hcl, hcm, _⟩ := O15.out
  injection e15 with ea eb ec
  subst ea
  subst ec
  unfold maxLen at hcm
  have hjc : (j : Int) ≤ (cu : Int) := by omega
  cases Au with
  | none =>
    obtain ⟨h0, hc0⟩ := nilok_own O14.out _ _ rfl
    have hx0 : xs = [] := List.eq_nil_of_length_eq_zero h0
    have hj0 : j = 0 := by omega
    subst hj0
    subst hc0
    have P16 : Recs w15 (.slice Ap 0 qp) [] := by have := P15.out; rw [List.take_zero] at this; exact this
    have O16 : Recs w15 (.slice none 0 0) [] := by have := O15.out; rw [hx0] at this; exact this
    rw [h0]
    go_wp2_with fail
    refine (qSameBook_same _ _ [] _ P16 O16).mono ?_; rintro e w16 ⟨rfl, hb16⟩
    go_wp2_with fail
    go_ret
    exact ⟨rfl, bw_to hB15 hb16⟩
  | some ad =>
    go_wp2_with fail
    refine (qSameBook_same _ _ _ _ P15.out (recs_upto O15.out rfl hj)).mono ?_; rintro e w16 ⟨rfl, hb16⟩
    go_wp2_with fail
    go_ret
    exact ⟨rfl, bw_to hB15 hb16⟩
end Go.Proofs.YtpkpahadjdkafaaGreatDoor

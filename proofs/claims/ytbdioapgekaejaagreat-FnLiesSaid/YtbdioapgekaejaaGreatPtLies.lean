/- The law on lies: a proof with one changed line is rejected there. (Printed by a program: tools/mkLI.py.) -/
import Derived.Test.YtbdioapgekaejaaGreatPk49
import Derived.Laws.StructEq
import Derived.Test.YtbdioapgekaejaaGreatPk3
import Derived.Test.YtbdioapgekaejaaGreatPk0
namespace Go.Proofs.YtbdioapgekaejaaGreat
open Go Go.RowKit
set_option linter.unusedVariables false
set_option linter.unusedSimpArgs false

theorem lnC_one (ls : List Ln) : ∀ v ∈ ls.flatMap lnC, v.oneCell' = true := by
  intro v hv
  obtain ⟨l, _, h⟩ := List.mem_flatMap.1 hv
  unfold lnC at h
  simp at h
  rcases h with rfl | rfl | rfl <;> rfl
/-- A copy of a proof in its box G: its lines are the call's own. -/
structure LQ (wb : World) (hv : Value) (N : Nat) (A2 : Option Addr) (q2 G : Nat) (ls : List Ln) (W : World) : Prop where
  hb : Below wb.heap.size wb W
  box : W.ownsRow wb.heap.size 33 2 (.slice (some ⟨G, 0, none⟩) 1 1) 1 [hv, .slice A2 N q2]
  row : W.ownsRow wb.heap.size 51 3 (.slice A2 N q2) N (ls.flatMap lnC)
theorem lq_al {wb w' : World} {hv : Value} {N : Nat} {A2 : Option Addr} {q2 : Nat} {ls : List Ln} (hb : Below wb.heap.size wb w') (hr : w'.ownsRow wb.heap.size 51 3 (.slice A2 N q2) N (ls.flatMap lnC)) :
    LQ wb hv N A2 q2 w'.heap.size ls (w'.alloc (.cells #[hv, .slice A2 N q2] 33)) :=
  ⟨bw_al hb _, own_of_heap (heap_new _ _) hb.size (by unfold maxLen; omega) rfl, own_to hr (bw_al (Below.refl _ _) _)⟩
theorem lq_set {wb w' : World} {hv : Value} {N : Nat} {A2 : Option Addr} {q2 G : Nat} {ls : List Ln} {x0 x1 : Value} (hb : Below wb.heap.size wb w') (hr : w'.ownsRow wb.heap.size 51 3 (.slice A2 N q2) N (ls.flatMap lnC))
    (hk : w'.heap[G]? = some (.cells #[x0, x1] 33 (0, 0))) (hG : wb.heap.size ≤ G) :
    LQ wb hv N A2 q2 G ls ((w'.setCell ⟨G, 0, none⟩ hv).setCell ⟨G, 1, none⟩ (.slice A2 N q2)) := by
  have hbox : w'.ownsRow wb.heap.size 33 2 (.slice (some ⟨G, 0, none⟩) 1 1) 1 [x0, x1] := own_of_heap hk hG (by unfold maxLen; omega) rfl
  have b2 := own_set hbox 0 hv
  exact ⟨grow_set (grow_set hb hG _) hG _, own_set b2 1 _, own_oth (own_oth hr hbox (by decide) 0 hv) b2 (by decide) 1 _⟩
/-- One line's place is changed. -/
theorem LQ.put {wb W : World} {hv : Value} {N g2 q2 G : Nat} {ls : List Ln} (h : LQ wb hv N (some ⟨g2, 0, none⟩) q2 G ls W) {i : Nat} (hi : i < ls.length) (a : Int) : LQ wb hv N (some ⟨g2, 0, none⟩) q2 G (ls.set i ⟨ls[i].row, ls[i].lead, a⟩) (W.setCell ⟨g2, i * 3 + 2, none⟩ (.int .i64 a)) :=
  ⟨grow_set h.hb (h.row.lt g2 rfl).1 _, own_oth h.box h.row (by decide) _ _, by have := own_set h.row (i * 3 + 2) (.int .i64 a); rwa [flat_set3 hi ⟨ls[i].row, ls[i].lead, a⟩ (by omega) rfl] at this⟩
theorem LQ.cells {wb W : World} {hv : Value} {N : Nat} {A2 : Option Addr} {q2 G : Nat} {ls : List Ln} (h : LQ wb hv N A2 q2 G ls W) : W.cell? ⟨G, 0, none⟩ = some hv ∧ W.cell? ⟨G, 1, none⟩ = some (.slice A2 N q2) :=
  ⟨(h.box.cellAt 0 (by omega)).trans rfl, (h.box.cellAt 1 (by omega)).trans rfl⟩
theorem LQ.to {wb W W' : World} {hv : Value} {N : Nat} {A2 : Option Addr} {q2 G : Nat} {ls : List Ln} (h : LQ wb hv N A2 q2 G ls W) (hb : Below W.heap.size W W') : LQ wb hv N A2 q2 G ls W' := ⟨bw_to h.hb hb, own_to h.box hb, own_to h.row hb⟩
/-- The cell that holds the place of a line. -/
theorem LQ.line {wb W : World} {hv : Value} {N : Nat} {A2 : Option Addr} {q2 G : Nat} {ls : List Ln} (h : LQ wb hv N A2 q2 G ls W) (hN : ls.length = N) {i : Nat} (hi : i < ls.length) : ∃ g, A2 = some ⟨g, 0, none⟩ ∧ W.cell? ⟨g, i * 3 + 2, none⟩ = some (.int .i64 ls[i].at') ∧ W.frozen? ⟨g, i * 3 + 2, none⟩ = false := by
  subst hN
  obtain ⟨g, rfl, _, _⟩ := own_addr h.row (by omega)
  obtain ⟨A', c', e', h1, h2, hr⟩ := lns_of_own h.row
  cases e'
  obtain ⟨ad, e, hc⟩ := lns_el hr rfl hi
  cases e
  have := (hc W (Below.refl _ _)).2.2
  have hA : (Addr.add ⟨g, 0, none⟩ (i * 3)).block = g ∧ (Addr.add ⟨g, 0, none⟩ (i * 3)).off = i * 3 := by
    unfold Addr.add
    split
    · rename_i h0; exact ⟨rfl, by show 0 = i * 3; omega⟩
    · exact ⟨rfl, by simp⟩
  rw [hA.1, hA.2] at this
  exact ⟨g, rfl, this, h.row.frozenAt _⟩
set_option maxRecDepth 100000 in
set_option maxHeartbeats 8000000 in
theorem lawLies_any (V : Value) (zV : Nat) (U : Value) (zU : Nat) (w : World) (hV : BytesAt w w.heap.size V) (hU : BytesAt w w.heap.size U) : Calls Tryz.prog 4 #[V, U] w fun e w' => e = .returned (.bool true) ∧ Below w.heap.size w w' := by
  have HV := Lib.hid hV
  have HU := Lib.hid hU
  obtain ⟨B1, n1, c1, zs1, rfl, _, _, hm1, _⟩ := hV
  obtain ⟨B2, n2, c2, zs2, rfl, _, _, hm2, _⟩ := hU
  unfold maxLen at hm1 hm2
  go_enter Tryz.func4, Tryz.ntmps4
  go_wp2_with fail
  refine (bigB_any B1 B2 n1 c1 n2 c2 w (by omega) (by omega)).mono ?_; rintro e w0 ⟨bb, rfl, rfl⟩
  cases bb
  rotate_left
  · go_wp2_with fail
    go_ret
    exact ⟨rfl, Below.refl _ _⟩
  go_wp2_with fail
  refine (drawMakeProof_any _ w HV.out).mono ?_; rintro e w1 ⟨m, v, k, t, rfl, hP, hts⟩
  obtain ⟨hms, hks⟩ := hP.small
  have HM := Lib.hid hP.meth
  have W1 := Lib.hid hP.bw
  obtain ⟨ok, HS, LS, hp, hh, hl, hF⟩ := lieF_of m k t
  have HF := Lib.hid hF
  have Hi := Lib.hid (fun v W (hM : MethAt W m v) => (implMakeProof_any m v k t W hM hms hks (by unfold maxLen; omega)).mono (fun e w' ⟨hv, lv, he, hP, hb⟩ => (⟨hv, lv, by rw [← hp]; exact he, by rw [← hh, ← hl]; exact proofAt_own hP, hb⟩ : ∃ hv lv, e = Ending.returned (.tuple #[.agg #[hv, lv], .bool ok]) ∧ (w'.ownsRow W.heap.size 9 1 hv HS.length (HS.map Value.string) ∧ w'.ownsRow W.heap.size 51 3 lv LS.length (LS.flatMap lnC)) ∧ Below W.heap.size W w')))
  have Hs := Lib.hid (fun v W (hM : MethAt W m v) => (specMakeProof_any m v k t W hM hms hks (by omega)).mono (fun e w' ⟨hv, lv, he, hP, hb⟩ => (⟨hv, lv, by rw [← hp]; exact he, by rw [← hh, ← hl]; exact proofAt_own hP, hb⟩ : ∃ hv lv, e = Ending.returned (.tuple #[.agg #[hv, lv], .bool ok]) ∧ (w'.ownsRow W.heap.size 9 1 hv HS.length (HS.map Value.string) ∧ w'.ownsRow W.heap.size 51 3 lv LS.length (LS.flatMap lnC)) ∧ Below W.heap.size W w')))
  have Hc := Lib.hid (fun v hv lv ls W (hM : MethAt W m v) (h1 : Strs W hv HS) (h2 : Lns W lv ls) (fl : FitL ls) => implCheckProof_any m v k t hv lv HS ls W hM hms hks (by unfold maxLen; omega) h1 h2 hF.fs fl)
  have Hl := Lib.hid (fun v hv lv ls W (hM : MethAt W m v) (h1 : Strs W hv HS) (h2 : Lns W lv ls) (fl : FitL ls) => implFirstLie_any m v k t hv lv HS ls W hM hms hks (by unfold maxLen; omega) h1 h2 hF.fs fl)
  obtain ⟨A, c9, ev⟩ := hP.meth.form
  subst ev
  clear hP hms hks hF hp hh hl
  unfold Mt.v Cl.v at *
  simp only
  go_upto_region 4 with fail
  refine box2 (C := fun W => Code.wp _ _ _ _ W) ?_
  intro w2 hw2 k1 k2 hB2
  have R1 := boxRule k1
  have R2 := boxRule k2
  have W2 := Lib.hid (bw_to W1.out hw2)
  have HM2 := Lib.hid (HM.out.to hw2)
  clear k1 k2 hw2 HM W1
  go_wp2_with fail
  refine (Hi.out _ _ HM2.out).mono ?_; rintro e w3 ⟨hv3, lv3, rfl, ⟨hho3, hlo3⟩, hb3⟩
  obtain ⟨A3, q3, ev, _⟩ := sl_of_own hho3
  subst ev
  obtain ⟨A4, q4, ev, _⟩ := sl_of_own hlo3
  subst ev
  have HS3 := Lib.hid (strs_of_own hho3)
  have HL3 := Lib.hid (lns_of_own hlo3)
  have HN3 := Lib.hid (nilok_own hlo3)
  have HX3 := Lib.hid (fun h : 1 ≤ LS.length => own_addr hlo3 h)
  clear hho3 hlo3
  go_upto_region 5 with fail
  refine box1 (C := fun W => Code.wp _ _ _ _ W) ?_
  intro w4 hw4 k3 hB4'
  have R3 := boxRule k3
  have hB4 := bw_to hb3 hw4
  have hz34 : w3.heap.size < w4.heap.size := (Array.getElem?_eq_some_iff.1 k3).1
  have HS4 := Lib.hid (HS3.out.to hw4)
  have HL4 := Lib.hid (HL3.out.to hw4)
  clear k3 hb3 hw4 HS3 HL3
  go_wp2_with fail
  refine (Hs.out _ _ (HM2.out.to hB4)).mono ?_; rintro e w5 ⟨hv5, lv5, rfl, ⟨hho5, hlo5⟩, hb5⟩
  obtain ⟨A5, q5, ev, _⟩ := sl_of_own hho5
  subst ev
  obtain ⟨A6, q6, ev, _⟩ := sl_of_own hlo5
  subst ev
  have HS5 := Lib.hid (strs_of_own hho5)
  have HL5 := Lib.hid (lns_of_own hlo5)
  clear hho5 hlo5
  go_upto_region 6 with fail
  refine box1 (C := fun W => Code.wp _ _ _ _ W) ?_
  intro w6 hw6 k4 hB6'
  have R4 := boxRule k4
  have hB46 := bw_to hb5 hw6
  have hB6 := bw_to hB4 hB46
  have HQ := Lib.hid (specSameProof_same _ _ _ _ HS LS w6 (HS4.out.to hB46) (HL4.out.to hB46) (HS5.out.to hw6) (HL5.out.to hw6))
  clear k4 hw6 hb5 HS5 HL5
  have W6 := Lib.hid (bw_to W2.out hB6)
  have HM6 := Lib.hid (HM2.out.to hB6)
  have HS6 := Lib.hid (HS4.out.to hB46)
  have HL6 := Lib.hid (HL4.out.to hB46)
  have a0 := R3 w6 0 hB46
  have a1 := R3 w6 1 hB46
  have b0 := R4 w6 0 (Below.refl _ _)
  have b1 := R4 w6 1 (Below.refl _ _)
  clear HS4 HL4 HM2
  cases ok
  · go_wp2_with fail
    refine HQ.out.mono ?_; rintro e w7 ⟨rfl, hb7⟩
    have W7 := Lib.hid (bw_to W6.out hb7)
    clear R1 R2 R3 R4 hB6 hB46 hB4 a0 a1 b0 b1
    go_upto_region 22 with fail
    have HU2 : BytesAt w7 w7.heap.size (.slice B2 n2 c2) := (HU.out.keep (fun p hp => W7.out.cell hp)).more W7.out.size
    go_wp2_with fail
    refine (drawFirstLie_any _ w7 HU2).mono ?_; rintro e w21 ⟨m1, v1, k1, t1, hv1, lv1, hs1, ls1, rfl, hP1, hts1, hho1, hlv1, fs1, fl1⟩
    obtain ⟨hms1, hks1⟩ := hP1.small
    have HM21 := Lib.hid hP1.meth
    have W21 := Lib.hid (bw_to W7.out hP1.bw)
    have HS21 := Lib.hid (strs_of_own hho1)
    have HL21 := Lib.hid (linV_lns hlv1)
    have Hci := Lib.hid (fun v hv lv W (hM : MethAt W m1 v) (h1 : Strs W hv hs1) (h2 : Lns W lv ls1) => implFirstLie_any m1 v k1 t1 hv lv hs1 ls1 W hM hms1 hks1 (by unfold maxLen; omega) h1 h2 fs1 fl1)
    have Hcs := Lib.hid (fun v hv lv W (hM : MethAt W m1 v) (h1 : Strs W hv hs1) (h2 : Lns W lv ls1) => specFirstLie_any m1 v k1 t1 hv lv hs1 ls1 W hM hms1 hks1 (by unfold maxLen; omega) h1 h2 fs1 fl1)
    obtain ⟨gz, hgz⟩ : ∃ b, b = lieAns (askT m1 k1 t1 && shapeB hs1 ls1 && !decide (lieZ m1 k1 t1 hs1 ls1 < 0)) (lieZ m1 k1 t1 hs1 ls1) := ⟨_, rfl⟩
    obtain ⟨gb, hgb⟩ : ∃ b, b = (askT m1 k1 t1 && shapeB hs1 ls1 && !decide (lieZ m1 k1 t1 hs1 ls1 < 0)) := ⟨_, rfl⟩
    rw [← hgz, ← hgb] at Hci Hcs
    obtain ⟨A21, c21, ev1⟩ := hP1.meth.form
    subst ev1
    obtain ⟨A22, q22, ev1, _⟩ := sl_of_own hho1
    subst ev1
    obtain ⟨A23, q23, ev1, _⟩ := lns_form (linV_lns hlv1)
    subst ev1
    clear hP1 hms1 hks1 HU2 hgz hgb hho1 hlv1
    unfold Mt.v Cl.v at *
    simp only
    go_upto_region 23 with fail
    refine box3 (C := fun W => Code.wp _ _ _ _ W) ?_
    intro w22 hw22 k1' k2' k3' hB22
    have R1 := boxRule k1'
    have R2 := boxRule k2'
    have R3 := boxRule k3'
    have W22 := Lib.hid (bw_to W21.out hw22)
    have HM22 := Lib.hid (HM21.out.to hw22)
    have HS22 := Lib.hid (HS21.out.to hw22)
    have HL22 := Lib.hid (HL21.out.to hw22)
    clear k1' k2' k3' hw22 HM21 W21 HS21 HL21
    have a0 := R3 w22 0 hB22
    have a1 := R3 w22 1 hB22
    go_wp2_with fail
    refine (Hci.out _ _ _ _ HM22.out HS22.out HL22.out).mono ?_; rintro e w23 ⟨rfl, hb23⟩
    clear a0 a1
    have a0 := R3 w23 0 hb23
    have a1 := R3 w23 1 hb23
    go_wp2_with fail
    refine (Hcs.out _ _ _ _ (HM22.out.to hb23) (HS22.out.to hb23) (HL22.out.to hb23)).mono ?_; rintro e w24 ⟨rfl, hb24⟩
    have hq1 : (gb == gb) = true := by cases gb <;> rfl
    have hq2 : (gz == gz) = true := beq_self_eq_true gz
    have W24 := Lib.hid (bw_to W22.out (bw_to hb23 hb24))
    clear R1 R2 R3 hb23 hb24 hB22 a0 a1
    go_wp2_with fail
    go_ret
    exact ⟨rfl, W24.out⟩
  · have hLl := HF.out.len rfl
    have hL8 := HF.out.ln8
    go_wp2_with fail
    refine HQ.out.mono ?_; rintro e w7 ⟨rfl, hb7⟩
    have hB47 := bw_to hB46 hb7
    have hB27 := bw_to hB6 hb7
    have W7 := Lib.hid (bw_to W6.out hb7)
    have HM7 := Lib.hid (HM6.out.to hb7)
    have HS7 := Lib.hid (HS6.out.to hb7)
    have HL7 := Lib.hid (HL6.out.to hb7)
    have hL0 : (0 : Int) < (LS.length : Int) := by omega
    clear a0 a1 b0 b1 R4 hB6 hB46 HM6 HS6 HL6 HQ hb7
    have a0 := R3 w7 0 hB47
    have a1 := R3 w7 1 hB47
    obtain ⟨g4, hg4, _, _⟩ := HX3.out hLl
    subst hg4
    go_upto_region 9 with fail
    go_cut [12] (fun s12 wx => ∃ A2 q2 G, s12 = .pointer (some ⟨G, 0, none⟩) ∧ LQ w7 (.slice A3 HS.length q3) LS.length A2 q2 G LS wx)
    case first =>
      have hrow : ∀ (W : World) (g : Nat), g = W.heap.size → (W.alloc (.cells #[] 51)).ownsRow g 51 3 (.slice (some ⟨g, 0, none⟩) 0 0) 0 [] := fun W g hg => own_of_heap (cs := #[]) (by rw [hg]; exact heap_new W _) (Nat.le_refl _) (by unfold maxLen; omega) rfl
      have HrA := Lib.hid (fun W (h : Below (w7.alloc (.cells #[] 51)).heap.size (w7.alloc (.cells #[] 51)) W) => own_to (hrow w7 _ rfl) h)
      have HrB := Lib.hid (fun o W (h : Below ((w7.alloc o).alloc (.cells #[] 51)).heap.size ((w7.alloc o).alloc (.cells #[] 51)) W) => own_base (own_to (hrow (w7.alloc o) (w7.heap.size + 1) (by simp)) h) (Nat.le_succ w7.heap.size))
      have hd7 : Below w7.heap.size w7 w7.drew := Below.drew (Below.refl _ _)
      have Y3 : ∀ W i, Below w7.heap.size w7 W → W.cell? ⟨w3.heap.size, i, none⟩ = _ := fun W i h => R3 W i (bw_to hB47 h)
      clear hrow a0 a1 R1 R2 R3 hB27 hB47 hB4 Hi Hs Hc Hl
      go_region_held3 (fun W => Below w7.heap.size w7 W) (first | assumption | exact Below.drew (by assumption) | exact bw_al (by assumption) _ | exact Below.drew (bw_al (by assumption) _) | exact bw_al (Below.drew (by assumption)) _ | exact grow_set (grow_set (by assumption) (Nat.le_refl _) _) (Nat.le_refl _) _ | exact grow_set (grow_set (by assumption) (Nat.le_succ _) _) (Nat.le_succ _) _ | exact grow_set (grow_set (by assumption) (Below.size (by assumption)) _) (Below.size (by assumption)) _)
        (first | (refine step_app_sl (v := .slice (some ⟨w7.heap.size, 0, none⟩) 0 0) (n := 0) (xs := []) _ (by rfl) _ _ _ (by rfl) w7.heap.size 51 _ 3 32 Tryz.underlying31 info_line (by rfl) (by omega) (by first | exact HrA.out _ (Below.drew (Below.refl _ _)) | exact HrA.out _ (Below.drew (bw_al (Below.refl _ _) _)) | exact HrA.out _ (Below.refl _ _) | exact HrA.out _ (bw_al (Below.refl _ _) _)) (by rfl) (HL7.out.to (by assumption)) (nilok_some _ _ _) (by rfl) (lnC_one _) (by omega) (by omega) (Below.size (by assumption)) LS.length (by omega) ?_; intro A2 q2 w2' hown2 hb2 hg2; (have hBw2 : Below w7.heap.size w7 w2' := Below.trans (by assumption) hb2); (try (first | (have kb2 := box_gr hg2) | (have kb2 := box_gr' hg2)); (have u0 := heap_cell kb2 0); (have u1 := heap_cell kb2 1); (have v0 := frozen_of_heap kb2 0 (Below.refl _ _)); (have v1 := frozen_of_heap kb2 1 (Below.refl _ _)))) | (refine step_app_sl (v := .slice (some ⟨w7.heap.size + 1, 0, none⟩) 0 0) (n := 0) (xs := []) _ (by rfl) _ _ _ (by rfl) w7.heap.size 51 _ 3 32 Tryz.underlying31 info_line (by rfl) (by omega) (by first | exact HrB.out _ _ (Below.drew (Below.refl _ _)) | exact HrB.out _ _ (Below.refl _ _)) (by rfl) (HL7.out.to (by assumption)) (nilok_some _ _ _) (by rfl) (lnC_one _) (by omega) (by omega) (Below.size (by assumption)) LS.length (by omega) ?_; intro A2 q2 w2' hown2 hb2 hg2; (have hBw2 : Below w7.heap.size w7 w2' := Below.trans (by assumption) hb2); (try (first | (have kb2 := box_gr hg2) | (have kb2 := box_gr' hg2)); (have u0 := heap_cell kb2 0); (have u1 := heap_cell kb2 1); (have v0 := frozen_of_heap kb2 0 (Below.refl _ _)); (have v1 := frozen_of_heap kb2 1 (Below.refl _ _)))))
      all_goals
        first | (go_wp2_with fail; go_meet) | go_meet
        first
          | exact ⟨A2, q2, _, rfl, lq_set hBw2 hown2 kb2 (by first | exact Nat.le_refl _ | exact Nat.le_succ _)⟩
          | exact ⟨A2, q2, _, rfl, lq_al hBw2 hown2⟩
    case rest =>
      obtain ⟨A2, q2, G, rfl, hQ⟩ := hcut
      obtain ⟨g2, hg2, _, _⟩ := own_addr hQ.row hLl
      subst hg2
      have Q0 := Lib.hid hQ
      have W9 := Lib.hid (bw_to W7.out hQ.hb)
      obtain ⟨y0, y1⟩ := hQ.cells
      have hU9 : BytesAt wc.drew wc.drew.heap.size (.slice B2 n2 c2) := (HU.out.keep (fun p hp => (Below.drew W9.out).cell hp)).more (Below.drew W9.out).size
      have HU9 := Lib.hid hU9
      have hLz : ¬ ((LS.length : Int) = 0) := by omega
      have hLe : ¬ (LS = []) := by intro h; rw [h] at hLl; simp at hLl
      have y1d : wc.drew.cell? ⟨G, 1, none⟩ = some (.slice (some ⟨g2, 0, none⟩) LS.length q2) := y1
      clear hQ hU9
      go_upto_region 10 with fail
      go_region_held3 (fun W => W.cell? ⟨G, 1, none⟩ = some (.slice (some ⟨g2, 0, none⟩) LS.length q2)) (first | with_reducible assumption) (first | (go_at_call 20; refine (numberOf_any _ _ HU9.out).mono ?_; rintro e wn ⟨q9, rfl, hq9, rfl⟩; (obtain ⟨i, hi⟩ : ∃ i, i = q9 % LS.length := ⟨_, rfl⟩); (have hiS : i < LS.length := by rw [hi]; exact Nat.mod_lt _ (by omega)); (have hqm : Int.tmod (q9 : Int) (LS.length : Int) = (i : Int) := by rw [hi]; rfl); (have hqe : (q9 : Int) % (LS.length : Int) = (i : Int) := by rw [hi]; rfl); (have hzi : (i : Int) < (LS.length : Int) := by omega); (have hwi : IntKind.i64.wrap (i : Int) = (i : Int) := IntWalk.i64_in _ (by omega)); clear hi))
      obtain ⟨_, hgg, hc0, hfz0⟩ := Q0.out.line rfl hiS
      cases hgg
      obtain ⟨ha0, ha9⟩ := HF.out.at_ i hiS
      have Hmv := Lib.hid (HF.out.moved i hiS)
      have Hput := Lib.hid (fun a => (Q0.out.put hiS a).to (Below.drew (Below.refl _ _)))
      obtain ⟨ln, hln⟩ : ∃ l, l = LS[i] := ⟨_, rfl⟩
      have Hfl : Hid (∀ a, FitL (LS.set i ⟨ln.row, ln.lead, a⟩)) := Lib.hid (fun a l hl => by
        rcases List.mem_or_eq_of_mem_set hl with h | h
        · exact HF.out.fl l h
        · subst h; show ln.row.size ≤ maxLen; rw [hln]; exact HF.out.fl _ (List.getElem_mem hiS))
      have Hlen : Hid (∀ a, (LS.set i ⟨ln.row, ln.lead, a⟩).length = LS.length) := Lib.hid (fun a => List.length_set)
      rw [← hln] at hc0 Hmv Hput ha0 ha9
      clear hln
      obtain ⟨x, hx⟩ : ∃ x, x = ln.at' := ⟨_, rfl⟩
      rw [← hx] at hc0 Hmv ha0 ha9
      have hc : wc.drew.cell? ⟨g2, i * 3 + 2, none⟩ = some (.int .i64 x) := hc0
      have hfz : wc.drew.frozen? ⟨g2, i * 3 + 2, none⟩ = false := hfz0
      clear hx y0 y1 hc0 hfz0
      have hwm : IntKind.i64.wrap (x - 1) = x - 1 := IntWalk.i64_in _ (by omega)
      have hwp : IntKind.i64.wrap (x + 1) = x + 1 := IntWalk.i64_in _ (by omega)
      go_upto_if 87 with fail
      go_cut [13] (fun s13 wx => s13 = .int .i64 (i : Int) ∧ ∃ a : Int, 0 ≤ a ∧ a ≤ 40 ∧ a ≠ x ∧ LQ w7 (.slice A3 HS.length q3) LS.length (some ⟨g2, 0, none⟩) q2 G (LS.set i ⟨ln.row, ln.lead, a⟩) wx)
      case first =>
        by_cases hx0 : 0 < x
        · have hE := Hput.out (x - 1)
          clear Hi Hs Hc Hl
          go_wp2_with fail
          go_meet
          exact ⟨rfl, x - 1, by omega, by omega, by omega, hE⟩
        · have hE := Hput.out (x + 1)
          clear Hi Hs Hc Hl
          go_wp2_with fail
          go_meet
          exact ⟨rfl, x + 1, by omega, by omega, by omega, hE⟩
      case rest =>
        obtain ⟨rfl, a, hal, hah, hax, hQ10⟩ := hcut
        obtain ⟨hask2, hlie⟩ := Hmv.out a hal hah hax
        have Q10 := Lib.hid hQ10
        have HLq := Lib.hid (lns_own_v (Hlen.out a) hQ10.row)
        have HSq := Lib.hid (HS7.out.to hQ10.hb)
        have HMq := Lib.hid (HM7.out.to hQ10.hb)
        have Hff := Lib.hid (Hfl.out a)
        obtain ⟨LT, hLT⟩ : ∃ l, l = LS.set i ⟨ln.row, ln.lead, a⟩ := ⟨_, rfl⟩
        rw [← hLT] at hask2 hlie HLq Hff
        have hdec : decide ((i : Int) + 2 < 0) = false := decide_eq_false (by omega)
        have Hc1 := Lib.hid (fun v hv W hM h1 h2 => Hc.out v hv (.slice (some ⟨g2, 0, none⟩) LS.length q2) LT W hM h1 h2 Hff.out)
        have Hl1 := Lib.hid (fun v hv W hM h1 h2 => Hl.out v hv (.slice (some ⟨g2, 0, none⟩) LS.length q2) LT W hM h1 h2 Hff.out)
        rw [hask2, hlie, hdec] at Hc1 Hl1
        rw [show (true && !false) = true from rfl, show lieAns true ((i : Int) + 2) = (i : Int) + 2 from rfl] at Hl1
        rw [show (true && false) = false from rfl] at Hc1
        clear hLT hask2 hlie Hff Hmv Hput Hfl Hlen Q0 Hi Hs
        obtain ⟨z0, z1⟩ := hQ10.cells
        have hB10 := bw_to hB27 hQ10.hb
        clear hQ10
        go_wp2_with fail
        refine (Hc1.out _ _ _ HMq.out HSq.out HLq.out).mono ?_; rintro e w11 ⟨rfl, hb11⟩
        clear z0 z1
        obtain ⟨z0, z1⟩ := (Q10.out.to hb11).cells
        have hB11 := bw_to hB10 hb11
        go_wp2_with fail
        refine (Hl1.out _ _ _ (HMq.out.to hb11) (HSq.out.to hb11) (HLq.out.to hb11)).mono ?_; rintro e w12 ⟨rfl, hb12⟩
        have hw2i : IntKind.i64.wrap (2 + (i : Int)) = 2 + (i : Int) := IntWalk.i64_in _ (by omega)
        have hq2i : ((i : Int) + 2 == 2 + (i : Int)) = true := by rw [beq_iff_eq]; omega
        have hB7c := bw_to Q10.out.hb (bw_to hb11 hb12)
        have hB12 := bw_to hB27 hB7c
        have HM12 := Lib.hid (HM7.out.to hB7c)
        have HS12 := Lib.hid (HS7.out.to hB7c)
        have HL12 := Lib.hid (HL7.out.to hB7c)
        have hB4c := bw_to hB47 hB7c
        have W12 := Lib.hid (bw_to W7.out hB7c)
        clear z0 z1 hb11 hb12 hB11 hB10 HMq HSq HLq Hc1 Hl1 Q10
        go_upto_region 18 with fail
        have Hsh := Lib.hid (HF.out.short rfl)
        have Hfl1 := Lib.hid (show FitL (LS.drop 1) from fun l hl => HF.out.fl l (List.mem_of_mem_drop hl))
        have HLr := Lib.hid (lns_fromG HL12.out rfl hLl)
        obtain ⟨l1, ls1, hls⟩ : ∃ x l, LS = x :: l := by
          cases LS with
          | nil => simp at hLl
          | cons x l => exact ⟨x, l, rfl⟩
        have hld : LS.drop 1 = ls1 := by rw [hls]; rfl
        have hll : LS.length = ls1.length + 1 := by rw [hls]; rfl
        rw [hld] at Hsh Hfl1 HLr
        rw [hll] at HLr R3
        have hq4 : ls1.length + 1 ≤ q4 := by obtain ⟨_, _, e, h1, _⟩ := HL12.out; cases e; rw [hll] at h1; exact h1
        have Hc1 := Lib.hid (fun v hv lv W hM h1 h2 => Hc.out v hv lv ls1 W hM h1 h2 Hfl1.out)
        obtain ⟨hsh1, hsh2⟩ := Hsh.out
        rw [hsh1, hsh2, show (true && decide ((1 : Int) < 0)) = false from rfl] at Hc1
        have hd12 : Below w12.heap.size w12 w12.drew := Below.drew (Below.refl _ _)
        have hd12a := bw_al (Below.refl w12.heap.size w12) (.cells #[.slice none 0 0, .slice none 0 0] 33)
        have c0 := R3 w12.drew 0 (bw_to hB4c hd12)
        have c1 := R3 w12.drew 1 (bw_to hB4c hd12)
        have c2' := R3 _ 0 (bw_to hB4c hd12a)
        have c3 := R3 _ 1 (bw_to hB4c hd12a)
        have c4 := R3 _ 0 (bw_to hB4c (bw_al hd12 (.cells #[.slice none 0 0, .slice none 0 0] 33)))
        have c5 := R3 _ 1 (bw_to hB4c (bw_al hd12 (.cells #[.slice none 0 0, .slice none 0 0] 33)))
        have c6 := R3 _ 0 (bw_to hB4c (Below.drew hd12a))
        have c7 := R3 _ 1 (bw_to hB4c (Below.drew hd12a))
        have h1l : (1 : Int) ≤ ((ls1.length + 1 : Nat) : Int) := by omega
        have h1n : (1 : Int) ≤ (ls1.length : Int) + 1 := by omega
        clear HL12 Hsh hsh1 hsh2 hls hld Hc
        by_cases hq1 : q4 = 1
        · go_region
          have HLd := Lib.hid (show Lns w12 (.slice (some ⟨g4, 0, none⟩) ls1.length 0) ls1 from by have h := HLr.out; rw [if_pos hq1, hq1] at h; exact h)
          refine abs_world (F := fun W => Below w12.heap.size w12 W ∧ W.cell? ⟨w12.heap.size, 0, none⟩ = some (.slice A3 HS.length q3) ∧ W.cell? ⟨w12.heap.size, 1, none⟩ = some (.slice (some ⟨g4, 0, none⟩) ls1.length 0)) ⟨Below.drew (bw_al (Below.refl _ _) _), (heap_cell (heap_new w12 _) 0).trans rfl, (heap_cell (heap_new w12 _) 1).trans rfl⟩ ?_
          rintro w13 ⟨hb13, z0, z1⟩
          have hB13 := bw_to hB12 hb13
          have W13 := Lib.hid (bw_to W12.out hb13)
          have HM13 := Lib.hid (HM12.out.to hb13)
          have HS13 := Lib.hid (HS12.out.to hb13)
          have HL13 := Lib.hid (HLd.out.to hb13)
          clear c0 c1 c2' c3 c4 c5 c6 c7 hd12 hd12a HM12 HS12 HLd HLr hB12 hB4c hb13
          go_wp2_with fail
          refine (Hc1.out _ _ _ _ HM13.out HS13.out HL13.out).mono ?_; rintro e wz ⟨rfl, hbz⟩
          have W7 := Lib.hid (bw_to W13.out hbz)
          clear R1 R2 R3 hB13 z0 z1 hbz W13
          go_upto_region 22 with fail
          have HU2 : BytesAt wz wz.heap.size (.slice B2 n2 c2) := (HU.out.keep (fun p hp => W7.out.cell hp)).more W7.out.size
          go_wp2_with fail
          refine (drawFirstLie_any _ wz HU2).mono ?_; rintro e w21 ⟨m1, v1, k1, t1, hv1, lv1, hs1, ls1, rfl, hP1, hts1, hho1, hlv1, fs1, fl1⟩
          obtain ⟨hms1, hks1⟩ := hP1.small
          have HM21 := Lib.hid hP1.meth
          have W21 := Lib.hid (bw_to W7.out hP1.bw)
          have HS21 := Lib.hid (strs_of_own hho1)
          have HL21 := Lib.hid (linV_lns hlv1)
          have Hci := Lib.hid (fun v hv lv W (hM : MethAt W m1 v) (h1 : Strs W hv hs1) (h2 : Lns W lv ls1) => implFirstLie_any m1 v k1 t1 hv lv hs1 ls1 W hM hms1 hks1 (by unfold maxLen; omega) h1 h2 fs1 fl1)
          have Hcs := Lib.hid (fun v hv lv W (hM : MethAt W m1 v) (h1 : Strs W hv hs1) (h2 : Lns W lv ls1) => specFirstLie_any m1 v k1 t1 hv lv hs1 ls1 W hM hms1 hks1 (by unfold maxLen; omega) h1 h2 fs1 fl1)
          obtain ⟨gz, hgz⟩ : ∃ b, b = lieAns (askT m1 k1 t1 && shapeB hs1 ls1 && !decide (lieZ m1 k1 t1 hs1 ls1 < 0)) (lieZ m1 k1 t1 hs1 ls1) := ⟨_, rfl⟩
          obtain ⟨gb, hgb⟩ : ∃ b, b = (askT m1 k1 t1 && shapeB hs1 ls1 && !decide (lieZ m1 k1 t1 hs1 ls1 < 0)) := ⟨_, rfl⟩
          rw [← hgz, ← hgb] at Hci Hcs
          obtain ⟨A21, c21, ev1⟩ := hP1.meth.form
          subst ev1
          obtain ⟨A22, q22, ev1, _⟩ := sl_of_own hho1
          subst ev1
          obtain ⟨A23, q23, ev1, _⟩ := lns_form (linV_lns hlv1)
          subst ev1
          clear hP1 hms1 hks1 HU2 hgz hgb hho1 hlv1
          unfold Mt.v Cl.v at *
          simp only
          go_upto_region 23 with fail
          refine box3 (C := fun W => Code.wp _ _ _ _ W) ?_
          intro w22 hw22 k1' k2' k3' hB22
          have R1 := boxRule k1'
          have R2 := boxRule k2'
          have R3 := boxRule k3'
          have W22 := Lib.hid (bw_to W21.out hw22)
          have HM22 := Lib.hid (HM21.out.to hw22)
          have HS22 := Lib.hid (HS21.out.to hw22)
          have HL22 := Lib.hid (HL21.out.to hw22)
          clear k1' k2' k3' hw22 HM21 W21 HS21 HL21
          have a0 := R3 w22 0 hB22
          have a1 := R3 w22 1 hB22
          go_wp2_with fail
          refine (Hci.out _ _ _ _ HM22.out HS22.out HL22.out).mono ?_; rintro e w23 ⟨rfl, hb23⟩
          clear a0 a1
          have a0 := R3 w23 0 hb23
          have a1 := R3 w23 1 hb23
          go_wp2_with fail
          refine (Hcs.out _ _ _ _ (HM22.out.to hb23) (HS22.out.to hb23) (HL22.out.to hb23)).mono ?_; rintro e w24 ⟨rfl, hb24⟩
          have hq1 : (gb == gb) = true := by cases gb <;> rfl
          have hq2 : (gz == gz) = true := beq_self_eq_true gz
          have W24 := Lib.hid (bw_to W22.out (bw_to hb23 hb24))
          clear R1 R2 R3 hb23 hb24 hB22 a0 a1
          go_wp2_with fail
          go_ret
          exact ⟨rfl, W24.out⟩
        · go_region
          have HLd := Lib.hid (show Lns w12 (.slice (some ⟨g4, 3, none⟩) ls1.length (q4 - 1)) ls1 from by have h := HLr.out; rw [if_neg hq1] at h; exact h)
          refine abs_world (F := fun W => Below w12.heap.size w12 W ∧ W.cell? ⟨w12.heap.size, 0, none⟩ = some (.slice A3 HS.length q3) ∧ W.cell? ⟨w12.heap.size, 1, none⟩ = some (.slice (some ⟨g4, 3, none⟩) ls1.length (q4 - 1))) ⟨Below.drew (bw_al (Below.refl _ _) _), (heap_cell (heap_new w12 _) 0).trans rfl, (heap_cell (heap_new w12 _) 1).trans rfl⟩ ?_
          rintro w13 ⟨hb13, z0, z1⟩
          have hB13 := bw_to hB12 hb13
          have W13 := Lib.hid (bw_to W12.out hb13)
          have HM13 := Lib.hid (HM12.out.to hb13)
          have HS13 := Lib.hid (HS12.out.to hb13)
          have HL13 := Lib.hid (HLd.out.to hb13)
          clear c0 c1 c2' c3 c4 c5 c6 c7 hd12 hd12a HM12 HS12 HLd HLr hB12 hB4c hb13
          go_wp2_with fail
          refine (Hc1.out _ _ _ _ HM13.out HS13.out HL13.out).mono ?_; rintro e wz ⟨rfl, hbz⟩
          have W7 := Lib.hid (bw_to W13.out hbz)
          clear R1 R2 R3 hB13 z0 z1 hbz W13
          go_upto_region 22 with fail
          have HU2 : BytesAt wz wz.heap.size (.slice B2 n2 c2) := (HU.out.keep (fun p hp => W7.out.cell hp)).more W7.out.size
          go_wp2_with fail
          refine (drawFirstLie_any _ wz HU2).mono ?_; rintro e w21 ⟨m1, v1, k1, t1, hv1, lv1, hs1, ls1, rfl, hP1, hts1, hho1, hlv1, fs1, fl1⟩
          obtain ⟨hms1, hks1⟩ := hP1.small
          have HM21 := Lib.hid hP1.meth
          have W21 := Lib.hid (bw_to W7.out hP1.bw)
          have HS21 := Lib.hid (strs_of_own hho1)
          have HL21 := Lib.hid (linV_lns hlv1)
          have Hci := Lib.hid (fun v hv lv W (hM : MethAt W m1 v) (h1 : Strs W hv hs1) (h2 : Lns W lv ls1) => implFirstLie_any m1 v k1 t1 hv lv hs1 ls1 W hM hms1 hks1 (by unfold maxLen; omega) h1 h2 fs1 fl1)
          have Hcs := Lib.hid (fun v hv lv W (hM : MethAt W m1 v) (h1 : Strs W hv hs1) (h2 : Lns W lv ls1) => specFirstLie_any m1 v k1 t1 hv lv hs1 ls1 W hM hms1 hks1 (by unfold maxLen; omega) h1 h2 fs1 fl1)
          obtain ⟨gz, hgz⟩ : ∃ b, b = lieAns (askT m1 k1 t1 && shapeB hs1 ls1 && !decide (lieZ m1 k1 t1 hs1 ls1 < 0)) (lieZ m1 k1 t1 hs1 ls1) := ⟨_, rfl⟩
          obtain ⟨gb, hgb⟩ : ∃ b, b = (askT m1 k1 t1 && shapeB hs1 ls1 && !decide (lieZ m1 k1 t1 hs1 ls1 < 0)) := ⟨_, rfl⟩
          rw [← hgz, ← hgb] at Hci Hcs
          obtain ⟨A21, c21, ev1⟩ := hP1.meth.form
          subst ev1
          obtain ⟨A22, q22, ev1, _⟩ := sl_of_own hho1
          subst ev1
          obtain ⟨A23, q23, ev1, _⟩ := lns_form (linV_lns hlv1)
          subst ev1
          clear hP1 hms1 hks1 HU2 hgz hgb hho1 hlv1
          unfold Mt.v Cl.v at *
          simp only
          go_upto_region 23 with fail
          refine box3 (C := fun W => Code.wp _ _ _ _ W) ?_
          intro w22 hw22 k1' k2' k3' hB22
          have R1 := boxRule k1'
          have R2 := boxRule k2'
          have R3 := boxRule k3'
          have W22 := Lib.hid (bw_to W21.out hw22)
          have HM22 := Lib.hid (HM21.out.to hw22)
          have HS22 := Lib.hid (HS21.out.to hw22)
          have HL22 := Lib.hid (HL21.out.to hw22)
          clear k1' k2' k3' hw22 HM21 W21 HS21 HL21
          have a0 := R3 w22 0 hB22
          have a1 := R3 w22 1 hB22
          go_wp2_with fail
          refine (Hci.out _ _ _ _ HM22.out HS22.out HL22.out).mono ?_; rintro e w23 ⟨rfl, hb23⟩
          clear a0 a1
          have a0 := R3 w23 0 hb23
          have a1 := R3 w23 1 hb23
          go_wp2_with fail
          refine (Hcs.out _ _ _ _ (HM22.out.to hb23) (HS22.out.to hb23) (HL22.out.to hb23)).mono ?_; rintro e w24 ⟨rfl, hb24⟩
          have hq1 : (gb == gb) = true := by cases gb <;> rfl
          have hq2 : (gz == gz) = true := beq_self_eq_true gz
          have W24 := Lib.hid (bw_to W22.out (bw_to hb23 hb24))
          clear R1 R2 R3 hb23 hb24 hB22 a0 a1
          go_wp2_with fail
          go_ret
          exact ⟨rfl, W24.out⟩
end Go.Proofs.YtbdioapgekaejaaGreat

/- laws.FnLies answers true at every input, and leaves its arguments as they were. No condition. -/
namespace Go.Proofs.YtbdioapgekaejaaGreat
open Go Go.RowKit Go.WideShapes Go.ChangeShapes Go.ChangeAt

set_option maxRecDepth 100000 in
set_option maxHeartbeats 1000000 in
theorem fnLies_lifted (os : Os) (started : os.Started) (H : Type) (enc : TypeId × Value → H) :
    ReturnsInHanded {} Tryz.checked os 4 .any (Rows.fnLiesSpec.pre6 enc Tryz.prog Tryz.f4 Rows.fnLiesRow.domain false) (Rows.fnLiesSpec.post enc Tryz.prog Tryz.f4 false true false false) := by
  refine returnsInHanded_of_change (C := Tryz.checked) own started (by kernel_rfl) Tryz.func4
    (ChangeSpec.witness6 (enc := enc) (C := Tryz.checked) false ⟨#[], #[.slice none 0 0, .slice none 0 0], []⟩ 8 (by kernel_rfl) (by kernel_rfl) (by kernel_rfl) (by kernel_rfl)) ?_
  intro W base args ds gs before hval0 hW _ _
  have hval : ∀ (j : Nat) t v, Tryz.f4.params[j]? = some t → args[j]? = some v → Value.okWide Tryz.prog W .any base t v := hval0
  have hW' := hW
  obtain ⟨p, q, hA0, hV, rfl, _, _⟩ := hW
  have hA : DataW.TrodAll enc Tryz.prog W 0 (fun _ => true) true Tryz.f4.params.toList args.toList ds p := hA0
  rw [Tryz.params4] at hA hval
  obtain ⟨v0, v1, d0, d1, p0, p1, rfl, rfl, rfl, h0, h1⟩ := trodAll_two hA
  obtain ⟨rfl, rfl⟩ := trodVars_none hV
  obtain ⟨z0, hz0⟩ := op_Bytes (hval 0 22 v0 rfl rfl) h0
  obtain ⟨z1, hz1⟩ := op_Bytes (hval 1 22 v1 rfl rfl) h1
  clear hA0 hval0
  exact (lawLies_any v0 z0 v1 z1 W hz0 hz1).mono fun e W' ⟨he, hb⟩ => ⟨_, he, law_post laidOut (by kernel_rfl) rfl rfl rfl rfl rfl Tryz.underlying4 hW' hb⟩

theorem fnLies_holds : Rows.FnLiesSaid :=
  OpenClaim.holds_of_wide 4 Tryz.f4 rfl rfl rfl rfl rfl rfl rfl ⟨rfl, rfl, rfl, rfl, rfl⟩ rfl rfl rfl rfl rfl (by kernel_rfl) Tryz.func4 fnLies_cf
    (of_decide_eq_true (by kernel_rfl)) (by unfold Func.isWrapper; rw [if_neg (of_decide_eq_false (by kernel_rfl))]; exact ⟨rfl, rfl⟩)
    (fun os started H enc _ => fnLies_lifted os started H enc)
end Go.Proofs.YtbdioapgekaejaaGreat

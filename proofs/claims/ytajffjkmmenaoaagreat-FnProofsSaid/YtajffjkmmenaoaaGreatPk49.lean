/- The law on proofs: a proof is there just where the touch is true and round, and the checker accepts it. -/
import Derived.Test.YtajffjkmmenaoaaGreatPk44
import Derived.Test.YtajffjkmmenaoaaGreatPk46
import Derived.Test.YtajffjkmmenaoaaGreatPk47
import Derived.Test.YtajffjkmmenaoaaGreatPk48
import Derived.Laws.StructEq
namespace Go.Proofs.YtajffjkmmenaoaaGreat
open Go Go.RowKit
set_option linter.unusedVariables false
set_option linter.unusedSimpArgs false

/-- What is known of a touch and its proof. -/
def PrfOf (m : Mt) (k : Cl) (t : ByteArray) (ok one nd rd : Bool) (LS : List Ln) : Prop :=
  okT m k t = one ∧ ((one = false ∧ ok = false) ∨ (one = true ∧ ok = (nd && rd) ∧ (ok = true → LS.length = (rowsT m k t).length) ∧ ∃ n, CGood m k n ∧ callsB m k = true ∧ touchB t.data.toList = true ∧ n ≤ 8 ∧ 3 ≤ n ∧ (∀ x ∈ rowsT m k t, PermR n x) ∧ (rowsT m k t).length ≤ 800 ∧ decide (rowsT m k t).Nodup = nd ∧ decide (endT m k t = roundsB n) = rd))
theorem prf_of {m : Mt} {k : Cl} {t : ByteArray} {ok : Bool} {LS : List Ln} (hp : proofB m k t = ok) (hl : lsO m k t = LS) : ∃ one nd rd, PrfOf m k t ok one nd rd LS := by
  obtain ⟨one, hone⟩ : ∃ b, b = okT m k t := ⟨_, rfl⟩
  cases one
  · refine ⟨false, false, false, hone.symm, .inl ⟨rfl, ?_⟩⟩
    rw [← hp]; unfold proofB; rw [← hone]; rfl
  · have hask : askT m k t = true := by have h := hone.symm; unfold okT at h; rw [Bool.and_eq_true] at h; exact h.1
    have hask' := hask
    unfold askT at hask'
    rw [Bool.and_eq_true] at hask'
    obtain ⟨n, hg⟩ := cgood_of hask'.1
    have hst : m.stage.toNat = n := by rw [hg.m.st]; rfl
    refine ⟨true, decide (rowsT m k t).Nodup, decide (endT m k t = roundsB n), hone.symm, .inr ⟨rfl, ?_, ?_, n, hg, hask'.1, hask'.2, hg.m.hi, hg.m.lo, rowsT_perm hg.m t, rows_size hone.symm, rfl, rfl⟩⟩
    · rw [← hp]; unfold proofB; rw [← hone, hst]; simp
    · intro h
      rw [← hl]; unfold lsO
      rw [if_pos (by rw [hp, h]), lnsOf_len]
set_option maxRecDepth 100000 in
set_option maxHeartbeats 8000000 in
theorem lawProofs_any (V : Value) (zV : Nat) (U : Value) (zU : Nat) (w : World) (hV : BytesAt w w.heap.size V) (hU : BytesAt w w.heap.size U) : Calls Tryz.prog 3 #[V, U] w fun e w' => e = .returned (.bool true) ∧ Below w.heap.size w w' := by
  have HV := Lib.hid hV
  have HU := Lib.hid hU
  obtain ⟨B1, n1, c1, zs1, rfl, _, _, hm1, _⟩ := hV
  obtain ⟨B2, n2, c2, zs2, rfl, _, _, hm2, _⟩ := hU
  unfold maxLen at hm1 hm2
  go_enter Tryz.func3, Tryz.ntmps3
  go_wp2_with fail
  refine (bigB_any B1 B2 n1 c1 n2 c2 w (by omega) (by omega)).mono ?_; rintro e w0 ⟨bb, rfl, rfl⟩
  cases bb
  rotate_left
  · go_wp2_with fail
    go_ret
    exact ⟨rfl, Below.refl _ _⟩
  go_wp2_with fail
  refine (drawMakeProof_any _ w HV.out).mono ?_; rintro e w1 ⟨m, v, k, t, rfl, hP, hts⟩
  obtain ⟨hms, hks⟩ := hP.small
  have HM := Lib.hid hP.meth
  have W1 := Lib.hid hP.bw
  obtain ⟨ok, HS, LS, hp, hh, hl, hF⟩ := lieF_of m k t
  obtain ⟨one, nd, rd, hone, hcase⟩ := prf_of hp hl
  have HF := Lib.hid hF
  have Hi := Lib.hid (fun v W (hM : MethAt W m v) => (implMakeProof_any m v k t W hM hms hks (by unfold maxLen; omega)).mono (fun e w' ⟨hv, lv, he, hP, hb⟩ => (⟨hv, lv, by rw [← hp]; exact he, by rw [← hh, ← hl]; exact proofAt_own hP, hb⟩ : ∃ hv lv, e = Ending.returned (.tuple #[.agg #[hv, lv], .bool ok]) ∧ (w'.ownsRow W.heap.size 9 1 hv HS.length (HS.map Value.string) ∧ w'.ownsRow W.heap.size 58 3 lv LS.length (LS.flatMap lnC)) ∧ Below W.heap.size W w')))
  have Hs := Lib.hid (fun v W (hM : MethAt W m v) => (specMakeProof_any m v k t W hM hms hks (by omega)).mono (fun e w' ⟨hv, lv, he, hP, hb⟩ => (⟨hv, lv, by rw [← hp]; exact he, by rw [← hh, ← hl]; exact proofAt_own hP, hb⟩ : ∃ hv lv, e = Ending.returned (.tuple #[.agg #[hv, lv], .bool ok]) ∧ (w'.ownsRow W.heap.size 9 1 hv HS.length (HS.map Value.string) ∧ w'.ownsRow W.heap.size 58 3 lv LS.length (LS.flatMap lnC)) ∧ Below W.heap.size W w')))
  have Hc := Lib.hid (fun v hv lv W (hM : MethAt W m v) (h1 : Strs W hv HS) (h2 : Lns W lv LS) => implCheckProof_any m v k t hv lv HS LS W hM hms hks (by unfold maxLen; omega) h1 h2 hF.fs hF.fl)
  have Hl := Lib.hid (fun v hv lv W (hM : MethAt W m v) (h1 : Strs W hv HS) (h2 : Lns W lv LS) => implFirstLie_any m v k t hv lv HS LS W hM hms hks (by unfold maxLen; omega) h1 h2 hF.fs hF.fl)
  have Hr := Lib.hid (fun v W (hM : MethAt W m v) => implTouchRows_any m v k t W hM hms hks (by unfold maxLen; omega))
  rw [hone] at Hr
  have Hround := Lib.hid (fun n (hg : CGood m k n) (hok : callsB m k = true) (ht : touchB t.data.toList = true) v W (hM : MethAt W m v) => isRound_yes m v k t n W hg hok hM hms hks ht (by unfold maxLen; omega))
  have Hcase := Lib.hid hcase
  have Hone := Lib.hid hone
  obtain ⟨A, c9, ev⟩ := hP.meth.form
  subst ev
  clear hP hms hks hF hp hh hl hcase hone
  unfold Mt.v Cl.v at *
  simp only
  go_upto_region 4 with fail
  refine box2 (C := fun W => Code.wp _ _ _ _ W) ?_
  intro w2 hw2 k1 k2 hB2
  have R1 := boxRule k1
  have R2 := boxRule k2
  have W2 := Lib.hid (bw_to W1.out hw2)
  have HM2 := Lib.hid (HM.out.to hw2)
  clear k1 k2 hw2 HM W1
  go_wp2_with fail
  refine (Hi.out _ _ HM2.out).mono ?_; rintro e w3 ⟨hv3, lv3, rfl, ⟨hho3, hlo3⟩, hb3⟩
  obtain ⟨A3, q3, ev, _⟩ := sl_of_own hho3
  subst ev
  obtain ⟨A4, q4, ev, _⟩ := sl_of_own hlo3
  subst ev
  have HS3 := Lib.hid (strs_of_own hho3)
  have HL3 := Lib.hid (lns_of_own hlo3)
  clear hho3 hlo3
  go_upto_region 5 with fail
  refine box1 (C := fun W => Code.wp _ _ _ _ W) ?_
  intro w4 hw4 k3 hB4'
  have R3 := boxRule k3
  have hB4 := bw_to hb3 hw4
  have hz34 : w3.heap.size < w4.heap.size := (Array.getElem?_eq_some_iff.1 k3).1
  have HS4 := Lib.hid (HS3.out.to hw4)
  have HL4 := Lib.hid (HL3.out.to hw4)
  clear k3 hb3 hw4 HS3 HL3
  go_wp2_with fail
  refine (Hs.out _ _ (HM2.out.to hB4)).mono ?_; rintro e w5 ⟨hv5, lv5, rfl, ⟨hho5, hlo5⟩, hb5⟩
  obtain ⟨A5, q5, ev, _⟩ := sl_of_own hho5
  subst ev
  obtain ⟨A6, q6, ev, _⟩ := sl_of_own hlo5
  subst ev
  have HS5 := Lib.hid (strs_of_own hho5)
  have HL5 := Lib.hid (lns_of_own hlo5)
  clear hho5 hlo5
  go_upto_region 6 with fail
  refine box1 (C := fun W => Code.wp _ _ _ _ W) ?_
  intro w6 hw6 k4 hB6'
  have R4 := boxRule k4
  have hB46 := bw_to hb5 hw6
  have hB6 := bw_to hB4 hB46
  have HQ := Lib.hid (specSameProof_same _ _ _ _ HS LS w6 (HS4.out.to hB46) (HL4.out.to hB46) (HS5.out.to hw6) (HL5.out.to hw6))
  clear k4 hw6 hb5 HS5 HL5
  have W6 := Lib.hid (bw_to W2.out hB6)
  have HM6 := Lib.hid (HM2.out.to hB6)
  have HS6 := Lib.hid (HS4.out.to hB46)
  have HL6 := Lib.hid (HL4.out.to hB46)
  have a0 := R3 w6 0 hB46
  have a1 := R3 w6 1 hB46
  have b0 := R4 w6 0 (Below.refl _ _)
  have b1 := R4 w6 1 (Below.refl _ _)
  clear HS4 HL4 HM2
  have gok : (ok != ok) = false := by cases ok <;> rfl
  go_wp2_with fail
  refine HQ.out.mono ?_; rintro e w7 ⟨rfl, hb7⟩
  have W7 := Lib.hid (bw_to W6.out hb7)
  have hB7 := bw_to hB6 hb7
  have hB47 := bw_to hB46 hb7
  have HM7 := Lib.hid (HM6.out.to hb7)
  have HS7 := Lib.hid (HS6.out.to hb7)
  have HL7 := Lib.hid (HL6.out.to hb7)
  clear a0 a1 b0 b1 R4 hB6 hB46 HM6 HS6 HL6 HQ hb7 hB4 Hi Hs W6
  go_wp2_with fail
  refine (Hr.out _ _ HM7.out).mono ?_; rintro e w8 ⟨A7, q7, rfl, hown, hb8⟩
  have HR8 := Lib.hid (strs_of_own hown)
  obtain ⟨L, hL⟩ : ∃ L, L = rowsO m k t := ⟨_, rfl⟩
  rw [← hL] at HR8 ⊢
  have HL := Lib.hid hL
  have W8 := Lib.hid (bw_to W7.out hb8)
  have hB8 := bw_to hB7 hb8
  have hB48 := bw_to hB47 hb8
  have HM8 := Lib.hid (HM7.out.to hb8)
  have HS8 := Lib.hid (HS7.out.to hb8)
  have HL8 := Lib.hid (HL7.out.to hb8)
  have hB2' := hB2
  clear hown hL hb8 hB7 hB47 HM7 HS7 HL7 W7 Hr W2
  go_upto_if 73 with fail
  go_cut [12] (fun s12 wx => s12 = .slice A7 L.length q7 ∧ Below w8.heap.size w8 wx)
  case first =>
    rcases Hcase.out with ⟨rfl, rfl⟩ | ⟨rfl, hok, hlen, n, hg, hcb, htb, hn8, hn3, hpr, hr8, hNd, hrd⟩
    · go_wp2_with fail
      go_meet
      exact ⟨rfl, Below.refl _ _⟩
    · have hro : L = rowsT m k t := by rw [HL.out]; unfold rowsO; rw [if_pos Hone.out]
      have Htl := Lib.hid (fun W V (hV : Strs W V L) => isTrueList_yes V L n W hV hn8 hn3 (by rw [hro]; exact hpr) (by rw [hro]; exact hr8))
      have Hrn := Lib.hid (Hround.out n hg hcb htb)
      rw [hrd] at Hrn
      rw [hro, hNd, ← hro] at Htl
      clear hg hcb htb hpr hNd hrd hro hr8 hlen Hround
      go_wp2_with fail
      refine (Htl.out _ _ HR8.out).mono ?_; rintro e w9 ⟨rfl, hb9⟩
      have hB9 := bw_to hB8 hb9
      go_wp2_with fail
      refine (Hrn.out _ _ (HM8.out.to hb9)).mono ?_; rintro e w10 ⟨rfl, hb10⟩
      clear R1 R2 R3 Hc Hl
      cases nd <;> cases rd <;> simp at hok <;> subst hok
      all_goals
        go_wp2_with fail
        go_meet
        exact ⟨rfl, bw_to hb9 hb10⟩
  case rest =>
    obtain ⟨rfl, hbc⟩ := hcut
    have hBc := bw_to hB8 hbc
    have hB4c := bw_to hB48 hbc
    have Wc := Lib.hid (bw_to W8.out hbc)
    have HMc := Lib.hid (HM8.out.to hbc)
    have HSc := Lib.hid (HS8.out.to hbc)
    have HLc := Lib.hid (HL8.out.to hbc)
    clear hbc hB8 hB48 HM8 HS8 HL8 W8 HR8 Hround
    obtain ⟨w11, hw11⟩ : ∃ W, W = wc := ⟨_, rfl⟩
    rw [← hw11] at hBc hB4c Wc HMc HSc HLc ⊢
    clear hw11 wc
    go_upto_if 100 with fail
    go_cut [12] (fun s12 wx => s12 = .slice A7 L.length q7 ∧ Below w11.heap.size w11 wx)
    case first =>
      rcases Hcase.out with ⟨rfl, rfl⟩ | ⟨rfl, hok, hlen, _⟩
      · have hnone : (false = true) = False := by simp
        go_wp2_with fail
        go_meet
        exact ⟨rfl, Below.refl _ _⟩
      · cases ok
        · clear hok hlen
          have hnone : (false = true) = False := by simp
          go_wp2_with fail
          go_meet
          exact ⟨rfl, Below.refl _ _⟩
        · have hro : L = rowsT m k t := by rw [HL.out]; unfold rowsO; rw [if_pos Hone.out]
          have hLL : ((LS.length : Int) == (L.length : Int)) = true := by rw [hro, hlen rfl, beq_iff_eq]
          have hLL2 : (LS.length : Int) = (L.length : Int) := by rw [hro, hlen rfl]
          obtain ⟨hwa, hwb⟩ := HF.out.whole rfl
          have hdec : decide ((-1 : Int) < 0) = true := by decide
          rw [hwa, hwb, hdec] at Hc
          rw [hwa, hwb, hdec] at Hl
          simp only [Bool.and_true, Bool.not_true, Bool.and_false] at Hc Hl
          have HLL := Lib.hid hLL
          clear hwa hwb hro hlen hok HF hLL
          obtain ⟨za, hza⟩ : ∃ z, z = lieAns false (-1) := ⟨_, rfl⟩
          rw [← hza] at Hl
          clear hza
          have a0 := R3 w11 0 hB4c
          have a1 := R3 w11 1 hB4c
          go_wp2_with fail
          refine (Hc.out _ _ _ _ HMc.out HSc.out HLc.out).mono ?_; rintro e w12 ⟨rfl, hb12⟩
          have hB12 := bw_to hBc hb12
          have hB412 := bw_to hB4c hb12
          clear a0 a1
          have a0 := R3 w12 0 hB412
          have a1 := R3 w12 1 hB412
          go_wp2_with fail
          refine (Hl.out _ _ _ _ (HMc.out.to hb12) (HSc.out.to hb12) (HLc.out.to hb12)).mono ?_; rintro e w13 ⟨rfl, hb13⟩
          have hB13 := bw_to hB12 hb13
          have hB413 := bw_to hB412 hb13
          clear a0 a1
          have a1 := R3 w13 1 hB413
          have hLL := HLL.out
          clear Hc Hl
          go_wp2_with fail
          go_meet
          exact ⟨rfl, bw_to hb12 hb13⟩
    case rest =>
      obtain ⟨rfl, hbd⟩ := hcut
      have Wd := Lib.hid (bw_to Wc.out hbd)
      clear hbd hBc hB4c HMc HSc HLc Wc R1 R2 R3 Hc Hl HF Hcase Hone HL
      have HU2 : BytesAt wc wc.heap.size (.slice B2 n2 c2) := (HU.out.keep (fun p hp => Wd.out.cell hp)).more Wd.out.size
      go_wp2_with fail
      refine (drawCheckProof_any _ wc HU2).mono ?_; rintro e w21 ⟨m1, v1, k1, t1, hv1, lv1, hs1, ls1, rfl, hP1, hts1, hho1, hlv1, fs1, fl1⟩
      obtain ⟨hms1, hks1⟩ := hP1.small
      have HM21 := Lib.hid hP1.meth
      have W21 := Lib.hid (bw_to Wd.out hP1.bw)
      have HS21 := Lib.hid (strs_of_own hho1)
      have HL21 := Lib.hid (linV_lns hlv1)
      have Hci := Lib.hid (fun v hv lv W (hM : MethAt W m1 v) (h1 : Strs W hv hs1) (h2 : Lns W lv ls1) => implCheckProof_any m1 v k1 t1 hv lv hs1 ls1 W hM hms1 hks1 (by unfold maxLen; omega) h1 h2 fs1 fl1)
      have Hcs := Lib.hid (fun v hv lv W (hM : MethAt W m1 v) (h1 : Strs W hv hs1) (h2 : Lns W lv ls1) => specCheckProof_any m1 v k1 t1 hv lv hs1 ls1 W hM hms1 hks1 (by unfold maxLen; omega) h1 h2 fs1 fl1)
      have Him := Lib.hid (fun v W (hM : MethAt W m1 v) => implMakeProof_any m1 v k1 t1 W hM hms1 hks1 (by unfold maxLen; omega))
      have Hln := Lib.hid (@lie_none m1 k1 t1 hs1 ls1)
      obtain ⟨g1, hg1⟩ : ∃ b, b = (askT m1 k1 t1 && shapeB hs1 ls1) := ⟨_, rfl⟩
      obtain ⟨g2, hg2⟩ : ∃ b, b = (g1 && decide (lieZ m1 k1 t1 hs1 ls1 < 0)) := ⟨_, rfl⟩
      rw [← hg1] at Hci Hcs Hln
      rw [← hg2] at Hci Hcs
      have Hyes : Hid (g2 = true → g1 = true ∧ proofB m1 k1 t1 = true ∧ hsO m1 k1 t1 = hs1 ∧ lsO m1 k1 t1 = ls1) := Lib.hid (fun h => by
        rw [hg2, Bool.and_eq_true, decide_eq_true_eq] at h
        exact ⟨h.1, Hln.out h.1 h.2⟩)
      obtain ⟨A21, c21, ev1⟩ := hP1.meth.form
      subst ev1
      obtain ⟨A22, q22, ev1, _⟩ := sl_of_own hho1
      subst ev1
      obtain ⟨A23, q23, ev1, _⟩ := lns_form (linV_lns hlv1)
      subst ev1
      clear hP1 hms1 hks1 HU2 hg1 hg2 hho1 hlv1 Hln Wd
      unfold Mt.v Cl.v at *
      simp only
      go_upto_region 20 with fail
      refine box3 (C := fun W => Code.wp _ _ _ _ W) ?_
      intro w22 hw22 k1' k2' k3' hB22
      have R1 := boxRule k1'
      have R2 := boxRule k2'
      have R3 := boxRule k3'
      have W22 := Lib.hid (bw_to W21.out hw22)
      have HM22 := Lib.hid (HM21.out.to hw22)
      have HS22 := Lib.hid (HS21.out.to hw22)
      have HL22 := Lib.hid (HL21.out.to hw22)
      clear k1' k2' k3' hw22 HM21 W21 HS21 HL21
      have a0 := R3 w22 0 hB22
      have a1 := R3 w22 1 hB22
      go_wp2_with fail
      refine (Hci.out _ _ _ _ HM22.out HS22.out HL22.out).mono ?_; rintro e w23 ⟨rfl, hb23⟩
      clear a0 a1
      have a0 := R3 w23 0 hb23
      have a1 := R3 w23 1 hb23
      go_wp2_with fail
      refine (Hcs.out _ _ _ _ (HM22.out.to hb23) (HS22.out.to hb23) (HL22.out.to hb23)).mono ?_; rintro e w24 ⟨rfl, hb24⟩
      have hB24 := bw_to hb23 hb24
      have W24 := Lib.hid (bw_to W22.out hB24)
      have HU3 : BytesAt w24 w24.heap.size (.slice B2 n2 c2) := (HU.out.keep (fun p hp => W24.out.cell hp)).more W24.out.size
      clear a0 a1 hb23 hb24 Hci Hcs W22
      go_wp2_with fail
      refine (drawSameProof_any _ w24 HU3).mono ?_; rintro e w25 ⟨hv2, lv2, hv3, lv3, hs2, hs3, ls2, ls3, rfl, S2, L2, S3, L3, hb25⟩
      have S2' := Lib.hid S2
      have S3' := Lib.hid S3
      have L2' := Lib.hid L2
      have L3' := Lib.hid L3
      obtain ⟨x1, x2, ev1, _⟩ := S2
      subst ev1
      obtain ⟨x3, x4, ev1, _⟩ := S3
      subst ev1
      obtain ⟨x5, x6, ev1, _⟩ := L2
      subst ev1
      obtain ⟨x7, x8, ev1, _⟩ := L3
      subst ev1
      have hB25 := bw_to hB24 hb25
      clear HU3
      go_upto_region 23 with fail
      refine box2 (C := fun W => Code.wp _ _ _ _ W) ?_
      intro w26 hw26 k5 k6 hB26'
      have R5 := boxRule k5
      have R6 := boxRule k6
      have hB26 := bw_to hB25 hw26
      have W26 := Lib.hid (bw_to W24.out (bw_to hb25 hw26))
      obtain ⟨c, hc⟩ : ∃ c : Bool, c = true ↔ ls2 = ls3 := by
        by_cases h : ls2 = ls3
        · exact ⟨true, by simp [h]⟩
        · exact ⟨false, by simp [h]⟩
      obtain ⟨d, hd⟩ : ∃ d, d = (decide (hs2 = hs3) && c) := ⟨_, rfl⟩
      have HI := Lib.hid (fun W (hW : Below w26.heap.size w26 W) => implSameProof_any _ _ _ _ hs2 hs3 ls2 ls3 W ((S2'.out.to hw26).to hW) ((L2'.out.to hw26).to hW) ((S3'.out.to hw26).to hW) ((L3'.out.to hw26).to hW) c hc)
      have HJ := Lib.hid (fun W (hW : Below w26.heap.size w26 W) => specSameProof_any _ _ _ _ hs2 hs3 ls2 ls3 W ((S2'.out.to hw26).to hW) ((L2'.out.to hw26).to hW) ((S3'.out.to hw26).to hW) ((L3'.out.to hw26).to hW) d (by rw [hd, Bool.and_eq_true, decide_eq_true_eq, hc]))
      rw [← hd] at HI
      have r0 : ∀ u : Aft w26, u.w.cell? ⟨w25.heap.size, 0, none⟩ = _ := fun u => R5 u.w 0 u.h
      have r1 : ∀ u : Aft w26, u.w.cell? ⟨w25.heap.size, 1, none⟩ = _ := fun u => R5 u.w 1 u.h
      have s0 : ∀ u : Aft w26, u.w.cell? ⟨w25.heap.size + 1, 0, none⟩ = _ := fun u => R6 u.w 0 u.h
      have s1 : ∀ u : Aft w26, u.w.cell? ⟨w25.heap.size + 1, 1, none⟩ = _ := fun u => R6 u.w 1 u.h
      have hq1 : (g1 != g1) = false := by cases g1 <;> rfl
      have hq2 : (g2 != g2) = false := by cases g2 <;> rfl
      have hq3 : (d != d) = false := by cases d <;> rfl
      have hBr := Below.refl w26.heap.size w26
      clear k5 k6 hB26' hw26 hb25 hc hd S2' S3' L2' L3' R5 R6 hB25 hB24
      refine wp_region_aft (wb := w26) (by kernel_rfl) (by kernel_rfl) hBr ?_
      repeat (go_big_quiet_step ((first | (go_at_call 17; exact calls_aft fun w hw => HI.out w hw) | (go_at_call 8; exact calls_aft fun w hw => HJ.out w hw))))
      refine wpQuiet_nil ?_
      rintro _ ⟨u3, rfl⟩
      have hB3 := u3.h
      generalize u3.w = w27 at hB3 ⊢
      have hB27 := bw_to hB26 hB3
      have W27 := Lib.hid (bw_to W26.out hB3)
      clear r0 r1 s0 s1 HI HJ
      cases g2
      · cases g1
        · go_wp2_with fail
          go_ret
          exact ⟨rfl, W27.out⟩
        · go_wp2_with fail
          go_ret
          exact ⟨rfl, W27.out⟩
      · obtain ⟨hg1, hpf, hhs, hls⟩ := Hyes.out rfl
        subst hg1
        have HM27 := Lib.hid (HM22.out.to hB27)
        have HS27 := Lib.hid (HS22.out.to hB27)
        have HL27 := Lib.hid (HL22.out.to hB27)
        have Him2 := Lib.hid (fun v W hM => (Him.out v W hM).mono (fun e w' ⟨hv, lv, he, hP, hb⟩ => (⟨hv, lv, by rw [← hpf]; exact he, by rw [← hhs, ← hls]; exact proofAt_own hP, hb⟩ : ∃ hv lv, e = Ending.returned (.tuple #[.agg #[hv, lv], .bool true]) ∧ (w'.ownsRow W.heap.size 9 1 hv hs1.length (hs1.map Value.string) ∧ w'.ownsRow W.heap.size 58 3 lv ls1.length (ls1.flatMap lnC)) ∧ Below W.heap.size W w')))
        clear Hyes hpf hhs hls HM22 HS22 HL22 Him hB26
        go_wp2_with fail
        refine (Him2.out _ _ HM27.out).mono ?_; rintro e w28 ⟨hv9, lv9, rfl, ⟨hho9, hlo9⟩, hb28⟩
        obtain ⟨y1, y2, ev1, _⟩ := sl_of_own hho9
        subst ev1
        obtain ⟨y3, y4, ev1, _⟩ := sl_of_own hlo9
        subst ev1
        go_upto_region 27 with fail
        refine box1 (C := fun W => Code.wp _ _ _ _ W) ?_
        intro w29 hw29 k7 hB29'
        have R7 := boxRule k7
        have hB29 := bw_to hB27 (bw_to hb28 hw29)
        have W29 := Lib.hid (bw_to W27.out (bw_to hb28 hw29))
        have HQ9 := Lib.hid (specSameProof_same _ _ _ _ hs1 ls1 w29 ((strs_of_own hho9).to hw29) ((lns_of_own hlo9).to hw29) (HS27.out.to (bw_to hb28 hw29)) (HL27.out.to (bw_to hb28 hw29)))
        have a0 := R7 w29 0 (Below.refl _ _)
        have a1 := R7 w29 1 (Below.refl _ _)
        have b0 := R3 w29 0 hB29
        have b1 := R3 w29 1 hB29
        clear k7 hho9 hlo9 hw29 hb28 Him2 HM27 HS27 HL27 R1 R2 R3 R7
        go_wp2_with fail
        refine HQ9.out.mono ?_; rintro e w30 ⟨rfl, hb30⟩
        go_wp2_with fail
        go_ret
        exact ⟨rfl, bw_to W29.out hb30⟩
end Go.Proofs.YtajffjkmmenaoaaGreat

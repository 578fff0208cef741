/- Are the bytes too many? -/
import Derived.Test.YtbdioapgekaejaaGreatPk29
import Derived.Test.YtbdioapgekaejaaGreatPk43
import Derived.Test.YtbdioapgekaejaaGreatPk40
import Derived.Laws.StructEq
namespace Go.Proofs.YtbdioapgekaejaaGreat
open Go Go.RowKit
set_option linter.unusedVariables false
set_option linter.unusedSimpArgs false

theorem bigB_any (A B : Option Addr) (n c k d : Nat) (w : World) (hn : n ≤ 9223372036854775807) (hk : k ≤ 9223372036854775807) : Calls Tryz.prog 6 #[.slice A n c, .slice B k d] w fun e w' => ∃ b, e = .returned (.bool b) ∧ w = w' := by
  go_enter Tryz.func6, Tryz.ntmps6
  by_cases h : n ≤ 1048576
  · have h1 : ¬ (1048576 : Int) < n := by omega
    have h2 : IntKind.i64.wrap (1048576 - (n : Int)) = 1048576 - (n : Int) := IntWalk.i64_in _ (by omega)
    by_cases h3 : 1048576 - (n : Int) < k
    · go_wp2_with fail
      go_ret
      simp [h3]
    · go_wp2_with fail
      go_ret
      simp [h3]
  · have h1 : (1048576 : Int) < n := by omega
    go_wp2_with fail
    go_ret
    first | exact ⟨_, rfl, rfl⟩ | exact ⟨_, rfl⟩ | exact rfl

end Go.Proofs.YtbdioapgekaejaaGreat

/- The law on faults told: a fault is there just where the touch is false. (Printed by a program: tools/mkLF.py.) -/
namespace Go.Proofs.YtbdioapgekaejaaGreat
open Go Go.RowKit
set_option linter.unusedVariables false
set_option linter.unusedSimpArgs false

theorem chk_true {rows : List ByteArray} {T N a b : Nat} (hN : 0 < N) (hl : rows.length = T * N) (h : FstRep rows a b) : chkB rows T N ((a / N : Nat) : Int) ((a % N : Nat) : Int) ((b / N : Nat) : Int) ((b % N : Nat) : Int) = true := by
  obtain ⟨hab, hbl, he⟩ := h.rep
  have qa : a / N < T := by rw [Nat.div_lt_iff_lt_mul hN, ← hl]; omega
  have qb : b / N < T := by rw [Nat.div_lt_iff_lt_mul hN, ← hl]; omega
  have ra := Nat.mod_lt a hN
  have rb := Nat.mod_lt b hN
  have ea : ((a / N : Nat) : Int) * (N : Int) + ((a % N : Nat) : Int) = (a : Int) := by
    have := Nat.div_add_mod a N
    rw [Nat.mul_comm] at this
    have h2 : (((a / N * N + a % N : Nat)) : Int) = (a : Int) := by rw [this]
    rw [Int.natCast_add, Int.natCast_mul] at h2
    exact h2
  have eb : ((b / N : Nat) : Int) * (N : Int) + ((b % N : Nat) : Int) = (b : Int) := by
    have := Nat.div_add_mod b N
    rw [Nat.mul_comm] at this
    have h2 : (((b / N * N + b % N : Nat)) : Int) = (b : Int) := by rw [this]
    rw [Int.natCast_add, Int.natCast_mul] at h2
    exact h2
  generalize a / N = d1 at *
  generalize b / N = d2 at *
  generalize a % N = e1 at *
  generalize b % N = e2 at *
  unfold chkB
  rw [ea, eb, decide_eq_true (by omega), decide_eq_true (by omega), decide_eq_true (by omega), decide_eq_true (by omega), decide_eq_true (by omega), decide_eq_true (by rw [Int.toNat_natCast, Int.toNat_natCast]; exact he)]
  rfl
/-- What is known of a touch, its rows and its fault. -/
def FltOf (m : Mt) (k : Cl) (t : ByteArray) (x y z u : Int) (o ok nd : Bool) : Prop :=
  fltV m.l.length (fltO m k t) = .agg #[.int .i64 x, .int .i64 y, .int .i64 z, .int .i64 u] ∧ (fltO m k t).isSome = o ∧ okT m k t = ok ∧
  ((o = false ∧ ok = false) ∨ (ok = true ∧ nd = !o ∧ (o = true → chkB (rowsT m k t) t.size m.l.length x y z u = true ∧ proofB m k t = false) ∧ ∃ n, n ≤ 8 ∧ 3 ≤ n ∧ (∀ x ∈ rowsT m k t, PermR n x) ∧ (rowsT m k t).length ≤ 800 ∧ decide (rowsT m k t).Nodup = nd))
theorem flt_of (m : Mt) (k : Cl) (t : ByteArray) : ∃ (x y z u : Int) (o ok nd : Bool), FltOf m k t x y z u o ok nd := by
  obtain ⟨ok, hok⟩ : ∃ ok, ok = okT m k t := ⟨_, rfl⟩
  cases ok
  · have h := fltO_no hok.symm
    exact ⟨0, 0, 0, 0, false, false, false, by rw [h]; rfl, by rw [h]; rfl, hok.symm, .inl ⟨rfl, rfl⟩⟩
  · have hro : rowsO m k t = rowsT m k t := by unfold rowsO; rw [if_pos hok.symm]
    have hask : askT m k t = true := by have h := hok.symm; unfold okT at h; rw [Bool.and_eq_true] at h; exact h.1
    have hask' := hask
    unfold askT at hask'
    rw [Bool.and_eq_true] at hask'
    obtain ⟨n, hg⟩ := cgood_of hask'.1
    have hN : 0 < m.l.length := by have := hg.m.len; omega
    have hnd := repO_isSome (rowsT m k t)
    have hfo : fltO m k t = repO (rowsT m k t) := by unfold fltO; rw [hro]
    have hrow := rowsT_perm (k := k) hg.m t
    have hr8 := rows_size hok.symm
    cases hr : repO (rowsT m k t) with
    | none =>
      rw [hr] at hnd hfo
      exact ⟨0, 0, 0, 0, false, true, true, by rw [hfo]; rfl, by rw [hfo]; rfl, hok.symm, .inr ⟨rfl, rfl, fun h => (by cases h), n, hg.m.hi, hg.m.lo, hrow, hr8, by simpa using hnd⟩⟩
    | some p =>
      obtain ⟨a, b⟩ := p
      rw [hr] at hnd hfo
      have hndf : decide (rowsT m k t).Nodup = false := by simpa using hnd
      refine ⟨_, _, _, _, true, true, false, by rw [hfo]; rfl, by rw [hfo]; rfl, hok.symm, .inr ⟨rfl, rfl, fun _ => ⟨chk_true hN (rowsT_len m k t) (repO_fst hr), ?_⟩, n, hg.m.hi, hg.m.lo, hrow, hr8, hndf⟩⟩
      unfold proofB
      rw [hndf, ← hok]; rfl
set_option maxRecDepth 100000 in
set_option maxHeartbeats 8000000 in
theorem lawFaultsTold_any (V : Value) (zV : Nat) (U : Value) (zU : Nat) (w : World) (hV : BytesAt w w.heap.size V) (hU : BytesAt w w.heap.size U) : Calls Tryz.prog 5 #[V, U] w fun e w' => e = .returned (.bool true) ∧ Below w.heap.size w w' := by
  have HV := Lib.hid hV
  have HU := Lib.hid hU
  obtain ⟨A1, n1, c1, zs1, rfl, _, _, hm1, _⟩ := hV
  obtain ⟨A2, n2, c2, zs2, rfl, _, _, hm2, _⟩ := hU
  unfold maxLen at hm1 hm2
  go_enter Tryz.func5, Tryz.ntmps5
  go_wp2_with fail
  refine (bigB_any A1 A2 n1 c1 n2 c2 w (by omega) (by omega)).mono ?_; rintro e w0 ⟨bb, rfl, rfl⟩
  cases bb
  rotate_left
  · go_wp2_with fail
    go_ret
    exact ⟨rfl, Below.refl _ _⟩
  go_wp2_with fail
  refine (drawMakeFault_any _ w HV.out).mono ?_; rintro e w1 ⟨m, v, k, t, rfl, hP, hts⟩
  obtain ⟨hms, hks⟩ := hP.small
  have HM := Lib.hid hP.meth
  have W1 := Lib.hid hP.bw
  have hMs := Lib.hid hms
  have hKs := Lib.hid hks
  obtain ⟨x, y, z, u, o, ok, nd, hfl⟩ := flt_of m k t
  have Hi := Lib.hid (fun v W (hM : MethAt W m v) => implMakeFault_any m v k t W hM hms hks (by unfold maxLen; omega))
  have Hs := Lib.hid (fun v W (hM : MethAt W m v) => specMakeFault_any m v k t W hM hms hks (by omega))
  have Hr := Lib.hid (fun v W (hM : MethAt W m v) => implTouchRows_any m v k t W hM hms hks (by unfold maxLen; omega))
  have Hc := Lib.hid (fun v W (hM : MethAt W m v) => implCheckFault_any m v k t x y z u W hM hms hks (by omega))
  have Hp := Lib.hid (fun v W (hM : MethAt W m v) => implMakeProof_any m v k t W hM hms hks (by unfold maxLen; omega))
  rw [hfl.1, hfl.2.1] at Hi Hs
  rw [hfl.2.2.1] at Hr Hc
  obtain ⟨-, -, hok, hca⟩ := hfl
  obtain ⟨A, c9, ev⟩ := hP.meth.form
  subst ev
  clear hP hms hks
  unfold Mt.v Cl.v at *
  simp only
  go_upto_region 4 with fail
  refine box2 (C := fun W => Code.wp _ _ _ _ W) ?_
  intro w2 hw2 k1 k2 hB2
  have R1 := boxRule k1
  have R2 := boxRule k2
  have W2 := Lib.hid (bw_to W1.out hw2)
  have HM2 := Lib.hid (HM.out.to hw2)
  clear k1 k2 hw2 HM W1
  go_wp2_with fail
  refine (Hi.out _ _ HM2.out).mono ?_; rintro e w3 ⟨rfl, hb3⟩
  go_upto_region 5 with fail
  refine box1 (C := fun W => Code.wp _ _ _ _ W) ?_
  intro w4 hw4 k3 hB4'
  have R3 := boxRule k3
  have hB4 := bw_to hb3 hw4
  have hz34 : w3.heap.size < w4.heap.size := (Array.getElem?_eq_some_iff.1 k3).1
  clear k3 hb3 hw4
  go_wp2_with fail
  refine (Hs.out _ _ (HM2.out.to hB4)).mono ?_; rintro e w5 ⟨rfl, hb5⟩
  go_upto_region 6 with fail
  refine box1 (C := fun W => Code.wp _ _ _ _ W) ?_
  intro w6 hw6 k4 hB6'
  have R4 := boxRule k4
  have hB46 := bw_to hb5 hw6
  have hB6 := bw_to hB4 hB46
  clear k4 hw6 hb5
  have W6 := Lib.hid (bw_to W2.out hB6)
  have HM6 := Lib.hid (HM2.out.to hB6)
  have a0 := R3 w6 0 hB46
  have a1 := R3 w6 1 hB46
  have a2 := R3 w6 2 hB46
  have a3 := R3 w6 3 hB46
  have b0 := R4 w6 0 (Below.refl _ _)
  have b1 := R4 w6 1 (Below.refl _ _)
  have b2 := R4 w6 2 (Below.refl _ _)
  have b3 := R4 w6 3 (Below.refl _ _)
  go_upto_region 8 with fail
  clear b0 b1 b2 b3 R4
  rcases hca with ⟨rfl, rfl⟩ | ⟨rfl, hnd, hyes, n, hn8, hn3, hpr, hr8, hNd⟩
  · go_wp2_with fail
    refine (Hr.out _ _ HM6.out).mono ?_; rintro e w7 ⟨A7, q7, rfl, hown, hb7⟩
    go_upto_region 18 with fail
    have W7 := Lib.hid (bw_to W6.out hb7)
    clear R1 R2 R3 hB6 hB46 hB4 a0 a1 a2 a3 hown
    have HU2 : BytesAt w7 w7.heap.size (.slice A2 n2 c2) := (HU.out.keep (fun p hp => W7.out.cell hp)).more W7.out.size
    go_wp2_with fail
    refine (drawCheckFault_any _ w7 HU2).mono ?_; rintro e w21 ⟨m1, v1, k1, t1, x1, y1, z1, u1, rfl, hP1, hts1⟩
    obtain ⟨hms1, hks1⟩ := hP1.small
    have HM21 := Lib.hid hP1.meth
    have W21 := Lib.hid (bw_to W7.out hP1.bw)
    have Hci := Lib.hid (fun v W (hM : MethAt W m1 v) => implCheckFault_any m1 v k1 t1 x1 y1 z1 u1 W hM hms1 hks1 (by omega))
    have Hcs := Lib.hid (fun v W (hM : MethAt W m1 v) => specCheckFault_any m1 v k1 t1 x1 y1 z1 u1 W hM hms1 hks1 (by omega))
    obtain ⟨g1, hg1⟩ : ∃ b, b = okT m1 k1 t1 := ⟨_, rfl⟩
    obtain ⟨g2, hg2⟩ : ∃ b, b = (g1 && chkB (rowsT m1 k1 t1) t1.size m1.l.length x1 y1 z1 u1) := ⟨_, rfl⟩
    rw [← hg1, ← hg2] at Hci Hcs
    obtain ⟨A21, c21, ev1⟩ := hP1.meth.form
    subst ev1
    clear hP1 hms1 hks1 HU2 hg1 hg2
    unfold Mt.v Cl.v at *
    simp only
    go_upto_region 19 with fail
    refine box3 (C := fun W => Code.wp _ _ _ _ W) ?_
    intro w22 hw22 k1' k2' k3' hB22
    have R1 := boxRule k1'
    have R2 := boxRule k2'
    have R3 := boxRule k3'
    have W22 := Lib.hid (bw_to W21.out hw22)
    have HM22 := Lib.hid (HM21.out.to hw22)
    clear k1' k2' k3' hw22 HM21 W21
    go_wp2_with fail
    refine (Hci.out _ _ HM22.out).mono ?_; rintro e w23 ⟨rfl, hb23⟩
    go_wp2_with fail
    refine (Hcs.out _ _ (HM22.out.to hb23)).mono ?_; rintro e w24 ⟨rfl, hb24⟩
    have hq1 : (g1 == g1) = true := by cases g1 <;> rfl
    have hq2 : (g2 == g2) = true := by cases g2 <;> rfl
    have W24 := Lib.hid (bw_to W22.out (bw_to hb23 hb24))
    clear R1 R2 R3 hb23 hb24 hB22
    go_wp2_with fail
    go_ret
    exact ⟨rfl, W24.out⟩
  · have hro : rowsO m k t = rowsT m k t := by unfold rowsO; rw [if_pos hok]
    rw [hro] at Hr
    have Htl := Lib.hid (fun W V (hV : Strs W V (rowsT m k t)) => isTrueList_yes V _ n W hV hn8 hn3 hpr hr8)
    rw [hNd] at Htl
    clear hpr
    go_wp2_with fail
    refine (Hr.out _ _ HM6.out).mono ?_; rintro e w7 ⟨A7, q7, rfl, hown, hb7⟩
    have HS7 := Lib.hid (strs_of_own hown)
    have hB7 := bw_to hB6 hb7
    clear hown hro hok hNd hr8
    cases o
    · simp at hnd
      subst hnd
      go_wp2_with fail
      refine (Htl.out _ _ HS7.out).mono ?_; rintro e w8 ⟨rfl, hb8⟩
      go_upto_region 18 with fail
      have W7 := Lib.hid (bw_to W6.out (bw_to hb7 hb8))
      clear R1 R2 R3 hB6 hB46 hB4 a0 a1 a2 a3 hyes
      have HU2 : BytesAt w8 w8.heap.size (.slice A2 n2 c2) := (HU.out.keep (fun p hp => W7.out.cell hp)).more W7.out.size
      go_wp2_with fail
      refine (drawCheckFault_any _ w8 HU2).mono ?_; rintro e w21 ⟨m1, v1, k1, t1, x1, y1, z1, u1, rfl, hP1, hts1⟩
      obtain ⟨hms1, hks1⟩ := hP1.small
      have HM21 := Lib.hid hP1.meth
      have W21 := Lib.hid (bw_to W7.out hP1.bw)
      have Hci := Lib.hid (fun v W (hM : MethAt W m1 v) => implCheckFault_any m1 v k1 t1 x1 y1 z1 u1 W hM hms1 hks1 (by omega))
      have Hcs := Lib.hid (fun v W (hM : MethAt W m1 v) => specCheckFault_any m1 v k1 t1 x1 y1 z1 u1 W hM hms1 hks1 (by omega))
      obtain ⟨g1, hg1⟩ : ∃ b, b = okT m1 k1 t1 := ⟨_, rfl⟩
      obtain ⟨g2, hg2⟩ : ∃ b, b = (g1 && chkB (rowsT m1 k1 t1) t1.size m1.l.length x1 y1 z1 u1) := ⟨_, rfl⟩
      rw [← hg1, ← hg2] at Hci Hcs
      obtain ⟨A21, c21, ev1⟩ := hP1.meth.form
      subst ev1
      clear hP1 hms1 hks1 HU2 hg1 hg2
      unfold Mt.v Cl.v at *
      simp only
      go_upto_region 19 with fail
      refine box3 (C := fun W => Code.wp _ _ _ _ W) ?_
      intro w22 hw22 k1' k2' k3' hB22
      have R1 := boxRule k1'
      have R2 := boxRule k2'
      have R3 := boxRule k3'
      have W22 := Lib.hid (bw_to W21.out hw22)
      have HM22 := Lib.hid (HM21.out.to hw22)
      clear k1' k2' k3' hw22 HM21 W21
      go_wp2_with fail
      refine (Hci.out _ _ HM22.out).mono ?_; rintro e w23 ⟨rfl, hb23⟩
      go_wp2_with fail
      refine (Hcs.out _ _ (HM22.out.to hb23)).mono ?_; rintro e w24 ⟨rfl, hb24⟩
      have hq1 : (g1 == g1) = true := by cases g1 <;> rfl
      have hq2 : (g2 == g2) = true := by cases g2 <;> rfl
      have W24 := Lib.hid (bw_to W22.out (bw_to hb23 hb24))
      clear R1 R2 R3 hb23 hb24 hB22
      go_wp2_with fail
      go_ret
      exact ⟨rfl, W24.out⟩
    · simp at hnd
      subst hnd
      obtain ⟨hch, hpf⟩ := hyes rfl
      rw [hch] at Hc
      rw [hpf] at Hp
      have Hpf := Lib.hid hpf
      clear hyes hch hpf
      go_wp2_with fail
      refine (Htl.out _ _ HS7.out).mono ?_; rintro e w8 ⟨rfl, hb8⟩
      have hb78 := bw_to hb7 hb8
      have hB8 := bw_to hB6 hb78
      have HM8 := Lib.hid (HM6.out.to hb78)
      have hB48 := bw_to hB46 hb78
      have a0 := R3 w8 0 hB48
      have a1 := R3 w8 1 hB48
      have a2 := R3 w8 2 hB48
      have a3 := R3 w8 3 hB48
      clear hb7 hb8
      go_wp2_with fail
      refine (Hc.out _ _ HM8.out).mono ?_; rintro e w9 ⟨rfl, hb9⟩
      have hB9 := bw_to hB8 hb9
      have HM9 := Lib.hid (HM8.out.to hb9)
      clear a0 a1 a2 a3
      go_wp2_with fail
      refine (Hp.out _ _ HM9.out).mono ?_; rintro e wp ⟨hv, lv, rfl, hPr, hbp⟩
      unfold ProofAt at hPr
      rw [Hpf.out, if_neg (by decide)] at hPr
      obtain ⟨rfl, rfl⟩ := hPr
      go_upto_region 16 with fail
      refine box1 (C := fun W => Code.wp _ _ _ _ W) ?_
      intro wq hwq kq hBq
      have W7 := Lib.hid (bw_to W6.out (bw_to hb78 (bw_to hb9 (bw_to hbp hwq))))
      clear R1 R2 R3 hB6 hB46 hB4 hB7 hB8 hB9 hb78 hb9 hbp hwq kq hB48
      go_upto_region 18 with fail
      have HU2 : BytesAt wq wq.heap.size (.slice A2 n2 c2) := (HU.out.keep (fun p hp => W7.out.cell hp)).more W7.out.size
      go_wp2_with fail
      refine (drawCheckFault_any _ wq HU2).mono ?_; rintro e w21 ⟨m1, v1, k1, t1, x1, y1, z1, u1, rfl, hP1, hts1⟩
      obtain ⟨hms1, hks1⟩ := hP1.small
      have HM21 := Lib.hid hP1.meth
      have W21 := Lib.hid (bw_to W7.out hP1.bw)
      have Hci := Lib.hid (fun v W (hM : MethAt W m1 v) => implCheckFault_any m1 v k1 t1 x1 y1 z1 u1 W hM hms1 hks1 (by omega))
      have Hcs := Lib.hid (fun v W (hM : MethAt W m1 v) => specCheckFault_any m1 v k1 t1 x1 y1 z1 u1 W hM hms1 hks1 (by omega))
      obtain ⟨g1, hg1⟩ : ∃ b, b = okT m1 k1 t1 := ⟨_, rfl⟩
      obtain ⟨g2, hg2⟩ : ∃ b, b = (g1 && chkB (rowsT m1 k1 t1) t1.size m1.l.length x1 y1 z1 u1) := ⟨_, rfl⟩
      rw [← hg1, ← hg2] at Hci Hcs
      obtain ⟨A21, c21, ev1⟩ := hP1.meth.form
      subst ev1
      clear hP1 hms1 hks1 HU2 hg1 hg2
      unfold Mt.v Cl.v at *
      simp only
      go_upto_region 19 with fail
      refine box3 (C := fun W => Code.wp _ _ _ _ W) ?_
      intro w22 hw22 k1' k2' k3' hB22
      have R1 := boxRule k1'
      have R2 := boxRule k2'
      have R3 := boxRule k3'
      have W22 := Lib.hid (bw_to W21.out hw22)
      have HM22 := Lib.hid (HM21.out.to hw22)
      clear k1' k2' k3' hw22 HM21 W21
      go_wp2_with fail
      refine (Hci.out _ _ HM22.out).mono ?_; rintro e w23 ⟨rfl, hb23⟩
      go_wp2_with fail
      refine (Hcs.out _ _ (HM22.out.to hb23)).mono ?_; rintro e w24 ⟨rfl, hb24⟩
      have hq1 : (g1 == g1) = true := by cases g1 <;> rfl
      have hq2 : (g2 == g2) = true := by cases g2 <;> rfl
      have W24 := Lib.hid (bw_to W22.out (bw_to hb23 hb24))
      clear R1 R2 R3 hb23 hb24 hB22
      go_wp2_with fail
      go_ret
      exact ⟨rfl, W24.out⟩
end Go.Proofs.YtbdioapgekaejaaGreat

/- The law NormalMethod, walked. -/
import Derived.Test.YtnbehldacehiiaaTB
namespace Go.Proofs.Ytnbehldacehiiaa
open Go Go.RowKit
set_option linter.unusedVariables false
set_option linter.unusedSimpArgs false

theorem mbox_row {w w' : World} {G : Nat} {m : Mt} {r v : Value} (h : MBox w G m r) (hg : w.grownBy w' v.ownBlock) (hne : v.ownBlock = none ∨ v.ownBlock ≠ some G) : MBox w' G m r := by
  refine World.ownsRow.kept (by unfold MBox at h; exact h) hg (.inr ?_)
  rcases hne with e | e
  · rw [e]; intro e'; cases e'
  · exact fun e' => e e'.symm
theorem nM_len {m : Mt} (h : m.l.length ≤ 1048576) : (nM m).l.length ≤ 1048576 := by
  unfold nM
  split
  · show (foldN m.l m.l.length).length ≤ _
    rw [foldN_len]; exact h
  · simp
set_option maxRecDepth 100000 in
set_option maxHeartbeats 4000000 in
theorem lawNormalMethod_any (m : Mt) (v : Value) (w : World) (hm : MethAt w m v) : Calls Try.prog 5 #[m.v v] w fun e w' => e = .returned (.bool true) ∧ Below w.heap.size w w' := by
  obtain ⟨M, hM⟩ : ∃ M, M = nM m := ⟨_, rfl⟩
  obtain ⟨b, hb⟩ : ∃ b, b = methB m := ⟨_, rfl⟩
  have HM := Lib.hid hM
  have Hb := Lib.hid hb
  have Hm := Lib.hid hm
  clear hM hb hm
  unfold Mt.v
  go_enter Try.func5, Try.ntmps5
  go_wp2_with fail
  refine box1 (C := fun W => Calls _ _ _ W _) ?_
  intro wb hw k1 hB0
  have R1 := boxRule k1
  clear k1
  refine (szMethod_any m v _ _ (Hm.out.to hw) (by omega) (by omega)).mono ?_; rintro e w1 ⟨r, rfl, hr0, hr1, hrl, hb1⟩
  have Hrl := Lib.hid hrl
  clear hrl
  by_cases hneg : r < 0
  · go_wp2_with fail
    go_ret
    exact ⟨rfl, bw_to hw hb1⟩
  · have Hs := Lib.hid (Hrl.out (by omega))
    have HMl : Hid (M.l.length ≤ 1048576) := Lib.hid (by rw [HM.out]; exact nM_len Hs.out.2.1)
    have hsp : ∀ x W, MethAt W m x → NilOk x → Calls Try.prog 18 #[.agg #[.string m.name, .int .i64 m.stage, x]] W fun e w' => ∃ A c, e = .returned (.tuple #[.agg #[.string M.name, .int .i64 M.stage, .slice A M.l.length c], .bool b]) ∧ w'.ownsRow W.heap.size 9 1 (.slice A M.l.length c) M.l.length (M.l.map Value.string) ∧ Below W.heap.size W w' := by
      intro x W h1 h2
      rw [HM.out, Hb.out]
      refine (specNormalMethod_any m x W h1 h2 Hs.out).mono fun e w' ⟨r, e1, h3, h4⟩ => ?_
      obtain ⟨A, c, hr, _⟩ := sl_of_own h3
      subst hr
      exact ⟨A, c, e1, h3, h4⟩
    have him : ∀ x W, MethAt W m x → NilOk x → Calls Try.prog 20 #[.agg #[.string m.name, .int .i64 m.stage, x]] W fun e w' => ∃ A c, e = .returned (.tuple #[.agg #[.string M.name, .int .i64 M.stage, .slice A M.l.length c], .bool b]) ∧ w'.ownsRow W.heap.size 9 1 (.slice A M.l.length c) M.l.length (M.l.map Value.string) ∧ Below W.heap.size W w' := by
      intro x W h1 h2
      rw [HM.out, Hb.out]
      refine (implNormalMethod_any m x W h1 h2 Hs.out).mono fun e w' ⟨r, e1, h3, h4⟩ => ?_
      obtain ⟨A, c, hr, _⟩ := sl_of_own h3
      subst hr
      exact ⟨A, c, e1, h3, h4⟩
    have htm : ∀ W, MethAt W m v → Calls Try.prog 19 #[.agg #[.string m.name, .int .i64 m.stage, v]] W fun e w' => ∃ A c, e = .returned (.agg #[.string m.name, .int .i64 m.stage, .slice A m.l.length c]) ∧ w'.ownsRow W.heap.size 9 1 (.slice A m.l.length c) m.l.length (m.l.map Value.string) ∧ MethAt w' m (.slice A m.l.length c) ∧ Below W.heap.size W w' := by
      intro W h1
      refine (toMethod_any m v W h1 Hs.out).mono fun e w' ⟨r, e1, h3, h4⟩ => ?_
      obtain ⟨A, c, hr, _⟩ := sl_of_own h3
      subst hr
      exact ⟨A, c, e1, h3, ⟨strs_of_own h3, h1.2⟩, h4⟩
    have Hsp := Lib.hid hsp
    have Him := Lib.hid him
    have Htm := Lib.hid htm
    clear hsp him htm
    have hB1 := bw_to hB0 hb1
    go_wp2_with fail
    refine (Htm.out _ (Hm.out.to (bw_to hw hB1))).mono ?_; rintro e w2 ⟨A2, c2, rfl, o2, t2, hb2⟩
    have N2 := Lib.hid (nilok_own o2)
    have T2 := Lib.hid t2
    have hB2 := bw_to hB1 hb2
    clear o2 t2 hb1 hB1 hb2
    go_wp2_with fail
    refine (Hsp.out _ _ T2.out N2.out).mono ?_; rintro e w3 ⟨Ap, cp, rfl, p3, hb3⟩
    have hB3 := bw_to hB2 hb3
    have hB4 := bw_al hB3 (.cells #[.string M.name, .int .i64 M.stage, .slice Ap M.l.length cp] 36)
    have p4 := own_to p3 (bw_al (Below.refl _ _) (.cells #[.string M.name, .int .i64 M.stage, .slice Ap M.l.length cp] 36))
    have m4 := mbox_of (m := M) (heap_new w3 (.cells #[.string M.name, .int .i64 M.stage, .slice Ap M.l.length cp] 36))
    have P3 := Lib.hid p3
    have P4 := Lib.hid p4
    have M4 := Lib.hid m4
    have hz3 : wb.heap.size ≤ w3.heap.size := hB3.size
    clear p3 p4 m4 hb3 hB2
    go_wp2_with fail
    refine (Htm.out _ (Hm.out.to (bw_to hw hB4))).mono ?_; rintro e w5 ⟨Aq, cq, rfl, q5, t5, hb5⟩
    have hB5 := bw_to hB4 hb5
    have hW6 := bw_al (Below.refl _ w5) (.cells #[.string m.name, .int .i64 m.stage, .slice Aq m.l.length cq] 36)
    have hB6 := bw_to hB5 hW6
    have T6 := Lib.hid (t5.to hW6)
    have N6 := Lib.hid (nilok_own q5)
    have Q5 := Lib.hid q5
    have Q6 := Lib.hid (own_to q5 hW6)
    have m6 := mbox_of (m := m) (heap_new w5 (.cells #[.string m.name, .int .i64 m.stage, .slice Aq m.l.length cq] 36))
    have M6 := Lib.hid m6
    have M46 := Lib.hid (mbox_to (mbox_to M4.out hb5) hW6)
    have P6 := Lib.hid (own_to (own_to P4.out hb5) hW6)
    have Hb5 := Lib.hid hb5
    have HW6 := Lib.hid hW6
    clear q5 t5 m6 hb5 hW6 hB4 hB3
    go_wp2_with fail
    refine (Him.out _ _ T6.out N6.out).mono ?_; rintro e w7 ⟨Ag, cg, rfl, g7, hb7⟩
    have hW8 := bw_al (Below.refl _ w7) (.cells #[.string M.name, .int .i64 M.stage, .slice Ag M.l.length cg] 36)
    have h78 := bw_to hb7 hW8
    have hB8 := bw_to hB6 h78
    have G7 := Lib.hid g7
    have G8 := Lib.hid (own_to g7 hW8)
    have P8 := Lib.hid (own_to P6.out h78)
    have Q8 := Lib.hid (own_to Q6.out h78)
    have m48 := mbox_to M46.out h78
    have M68 := Lib.hid (mbox_to M6.out h78)
    have m78 := mbox_of (m := M) (heap_new w7 (.cells #[.string M.name, .int .i64 M.stage, .slice Ag M.l.length cg] 36))
    have M78 := Lib.hid m78
    have M48 := Lib.hid m48
    obtain ⟨a0, a1, a2⟩ := mbox_c m48
    have Hb7 := Lib.hid hb7
    have H78 := Lib.hid h78
    have hz8 : w5.heap.size ≤ w7.heap.size := by have := hb7.size; simp at this; omega
    have Hz8 := Lib.hid hz8
    have Hz4 : Hid (wb.heap.size ≤ w3.heap.size) := Lib.hid hz3
    clear g7 m48 m78 hb7 h78 hW8 hz8 hB6 hB5
    go_wp2_with fail
    refine (eqMethod_same M _ _ _ (strs_own' G8.out) (strs_own' P8.out)).mono ?_; rintro e w9 ⟨rfl, hb9⟩
    have hB9 := bw_to hB8 hb9
    have G9 := Lib.hid (own_to G8.out hb9)
    have P9 := Lib.hid (own_to P8.out hb9)
    have Q9 := Lib.hid (own_to Q8.out hb9)
    have M49 := Lib.hid (mbox_to M48.out hb9)
    have M69 := Lib.hid (mbox_to M68.out hb9)
    have M79 := Lib.hid (mbox_to M78.out hb9)
    have R6 := fun w' (hb : Below w9.heap.size w9 w') => mbox_c (mbox_to M69.out hb)
    have R19 := fun w' i (hb : Below w9.heap.size w9 w') => R1 w' i (bw_to hB9 hb)
    have hst := Below.refl w9.heap.size w9
    have HR1 := Lib.hid R1
    have HB9 := Lib.hid hB9
    clear a0 a1 a2 hb9 R1 hB8 hB9
    go_wp2_with fail
    go_region_held3 (fun w' => Below w9.heap.size w9 w') (first | exact Below.drew (by assumption) | exact bw_to (by assumption) hb')
      (first | ((have oa' := oa); go_at_call 21; refine (eqMethod_same m _ _ _ (strs_own' (own_to Q9.out hBa)) (strs_own' oa)).mono ?_; rintro e wc ⟨rfl, hb'⟩) | (go_at_call 19; refine (Htm.out _ (Hm.out.to (bw_to hw (bw_to HB9.out (by assumption))))).mono ?_; rintro e wa ⟨Aa, ca, rfl, oa, ta, hb'⟩; (have hBa : Below w9.heap.size w9 wa := bw_to (by assumption) hb')))
    have hBc : Below w9.heap.size w9 wc := by assumption
    go_wp2_with fail
    refine (markMethod_any m _ m.l.length 1 _ _ _ (own_to Q9.out hBc) Hs.out.2.1 (by omega)).mono ?_; rintro e w12 ⟨k12, rfl, hk12, q12, hg12⟩
    have hk0 : ¬ k12 < 0 := by omega
    have nq4 := own_ne (G := w3.heap.size) Q5.out (.inl (by simp))
    have nq7 := own_ne (G := w7.heap.size) Q5.out (.inr Hz8.out)
    have m4 := mbox_row (mbox_to M49.out hBc) hg12 nq4
    have m7 := mbox_row (mbox_to M79.out hBc) hg12 nq7
    have P12 := Lib.hid ((own_to P9.out hBc).kept hg12 (own_apart' P3.out Q5.out (by simp)))
    have G12 := Lib.hid ((own_to G9.out hBc).kept hg12 (own_apart Q5.out G7.out (by simp)))
    have hB12 : Below wb.heap.size wb w12 := bw_row (bw_to HB9.out hBc) Q5.out (by have := Hz4.out; simp; omega) hg12
    have R4 := fun w' (hb : Below w12.heap.size w12 w') => mbox_c (mbox_to m4 hb)
    have R7 := fun w' (hb : Below w12.heap.size w12 w') => mbox_c (mbox_to m7 hb)
    have M4_12 := Lib.hid m4
    have M7_12 := Lib.hid m7
    have HB12 := Lib.hid hB12
    have hst12 := Below.refl w12.heap.size w12
    clear R6 R19 hst hBa hBc hg12 q12 hb' oa' oa ta m4 m7 nq4 nq7 hB12 hk12
    go_wp2_with fail
    refine (eqMethod_same M _ _ _ (strs_own' G12.out) (strs_own' P12.out)).mono ?_; rintro e w13 ⟨rfl, hb13⟩
    go_wp2_with fail
    refine (markMethod_any M _ M.l.length 1 _ _ _ (own_to G12.out hb13) HMl.out (by omega)).mono ?_; rintro e w14 ⟨k14, rfl, hk14, g14, hg14⟩
    have ng4 := own_ne (G := w3.heap.size) G7.out (.inl (by have := Hb5.out.size; simp at this ⊢; omega))
    have ng7 := own_ne (G := w7.heap.size) G7.out (.inr (Nat.le_refl _))
    have m4 := mbox_row (mbox_to M4_12.out hb13) hg14 ng4
    have m7 := mbox_row (mbox_to M7_12.out hb13) hg14 ng7
    have P14 := Lib.hid ((own_to P12.out hb13).kept hg14 (own_apart' P3.out G7.out (by have := Hb5.out.size; simp at this ⊢; omega)))
    have G14 := Lib.hid g14
    have hB14 : Below wb.heap.size wb w14 := bw_row (bw_to HB12.out hb13) G7.out (by have := Hz4.out; have := Hb5.out.size; simp at this ⊢; omega) hg14
    have R4' := fun w' (hb : Below w14.heap.size w14 w') => mbox_c (mbox_to m4 hb)
    have R7' := fun w' (hb : Below w14.heap.size w14 w') => mbox_c (mbox_to m7 hb)
    have R1' := fun w' i (hb : Below w14.heap.size w14 w') => HR1.out w' i (bw_to hB14 hb)
    have HB14 := Lib.hid hB14
    have hst14 := Below.refl w14.heap.size w14
    clear R4 R7 hst12 hb13 hg14 g14 m4 m7 ng4 ng7 hB14
    subst hk14
    go_wp2_with fail
    refine (heldMethod_any M _ M.l.length 1 _ (strs_own' G14.out) HMl.out (by omega)).mono ?_; rintro e w15 ⟨k15, rfl, hk15, hb15⟩
    subst hk15
    go_wp2_with fail
    refine (Htm.out _ (Hm.out.to (bw_to hw (bw_to HB14.out hb15)))).mono ?_; rintro e w16 ⟨Ah, ch, rfl, o16, t16, hb16⟩
    have hB16 := bw_to hb15 hb16
    go_wp2_with fail
    refine (Him.out _ _ t16 (nilok_own o16)).mono ?_; rintro e w17 ⟨Ai, ci, rfl, i17, hb17⟩
    have hB17 := bw_to hB16 hb17
    have hW18 := bw_al (Below.refl _ w17) (.cells #[.string M.name, .int .i64 M.stage, .slice Ai M.l.length ci] 36)
    have hB18 := bw_to hB17 hW18
    have I18 := Lib.hid (own_to i17 hW18)
    have P18 := Lib.hid (own_to P14.out hB18)
    clear i17 hb17 hb16 hb15 hB16 hB17 hW18 o16 t16
    go_wp2_with fail
    refine (eqMethod_same M _ _ _ (strs_own' I18.out) (strs_own' P18.out)).mono ?_; rintro e w19 ⟨rfl, hb19⟩
    have hB19 := bw_to hB18 hb19
    clear hB18 hb19
    go_wp2_with fail
    refine (heldMethod_any M _ M.l.length 1 _ (strs_own' (own_to G14.out hB19)) HMl.out (by omega)).mono ?_; rintro e w20 ⟨k20, rfl, hk20, hb20⟩
    subst hk20
    go_wp2_with fail
    go_ret
    exact ⟨rfl, bw_to hw (bw_to HB14.out (bw_to hB19 hb20))⟩
end Go.Proofs.Ytnbehldacehiiaa

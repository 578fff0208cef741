/- Contracts: whether two methods are alike. -/
import Derived.Test.YtnbehldacehiiaaTB
namespace Go.Proofs.Ytnbehldacehiiaa
open Go Go.RowKit
set_option linter.unusedVariables false
set_option linter.unusedSimpArgs false

def alikeB (a b : Mt) : Bool := decide (a.stage = b.stage) && decide (foldN a.l a.l.length = foldN b.l b.l.length)
theorem alike_yes {a b : Mt} (h : a.stage = b.stage) : alikeB a b = decide (foldN a.l a.l.length = foldN b.l b.l.length) := by unfold alikeB; rw [decide_eq_true h, Bool.true_and]
theorem alike_no {a b : Mt} (h : ¬ a.stage = b.stage) : alikeB a b = false := by unfold alikeB; rw [decide_eq_false h, Bool.false_and]
/-- Field 2 of a method. -/
theorem field2 (w : World) (x y : Value) (A : Option Addr) (n c : Nat) : (Instr.field 36 (.agg #[x, y, .slice A n c]) 2).run Try.prog w = .ok (.slice A n c) w := by
  unfold Instr.field
  simp [go_sem, asAgg]
theorem l29Normal_agg (m : Mt) (v : Value) (w : World) (h : MethAt w m v) (hn : NilOk v) (hs : MtSmall m) (hg : methB m = true) : Calls Try.prog 54 #[.agg #[.string m.name, .int .i64 m.stage, v]] w fun e w' =>
    ∃ A c, e = .returned (.agg #[.string m.name, .int .i64 m.stage, .slice A m.l.length c]) ∧ w'.ownsRow w.heap.size 9 1 (.slice A m.l.length c) m.l.length ((foldN m.l m.l.length).map Value.string) ∧ Below w.heap.size w w' :=
  (l29Normal_any m v w h hn hs hg).mono fun e w' ⟨r, e1, h2, h3⟩ => by
    obtain ⟨A, c, hr, _⟩ := sl_of_own h2
    subst hr
    exact ⟨A, c, e1, h2, h3⟩
set_option maxRecDepth 100000 in
set_option maxHeartbeats 2000000 in
theorem l29Alike_any (a b : Mt) (u v : Value) (w : World) (ha : MethAt w a u) (hb : MethAt w b v) (na : NilOk u) (nb : NilOk v) (sa : MtSmall a) (sb : MtSmall b) (ga : methB a = true) (gb : methB b = true) : Calls Try.prog 61 #[a.v u, b.v v] w fun e w' => e = .returned (.bool (alikeB a b)) ∧ Below w.heap.size w w' := by
  have Ha := Lib.hid ha
  have Hb := Lib.hid hb
  have Na := Lib.hid na
  have Nb := Lib.hid nb
  have Sa := Lib.hid sa
  have Sb := Lib.hid sb
  have Ga := Lib.hid ga
  have Gb := Lib.hid gb
  obtain ⟨q, hq⟩ : ∃ q, q = alikeB a b := ⟨_, rfl⟩
  rw [← hq]
  have Hq := Lib.hid hq
  clear ha hb na nb sa sb ga gb hq
  unfold Mt.v
  go_enter Try.func61, Try.ntmps61
  go_wp2_with fail
  refine box2 (C := fun W => Code.wp _ _ _ _ W) ?_
  intro wb hw k1 k2 hB0
  have R1 := boxRule k1
  have R2 := boxRule k2
  clear k1 k2
  have hfld := fun (W : World) x y A n c => field2 W x y A n c
  by_cases hst : a.stage = b.stage
  · have hd : decide (a.stage = b.stage) = true := decide_eq_true hst
    have hd' : (a.stage == b.stage) = true := beq_iff_eq.2 hst
    have HQ := Lib.hid (Hq.out.trans (alike_yes hst))
    have Hst := Lib.hid hst
    clear hst
    go_region_held3 (fun w' => Below wb.heap.size wb w') (first | exact Below.drew (by assumption) | exact bw_to (by assumption) hb')
      (first | ((have ob' := ob); go_at_call 77; refine (l1SameS_any _ _ _ _ _ (strs_own' (own_to oa hb2)) (strs_own' ob)).mono ?_; rintro e wd ⟨rfl, hb'⟩; rw [← HQ.out]) | ((have oa' := oa); go_at_call 54; refine (l29Normal_agg b _ _ (Hb.out.to (bw_to hw (by assumption))) Nb.out Sb.out Gb.out).mono ?_; rintro e wc ⟨Ab, cb, rfl, ob, hb'⟩; (have hb2 := hb')) | (go_at_call 54; refine (l29Normal_agg a _ _ (Ha.out.to (bw_to hw (by assumption))) Na.out Sa.out Ga.out).mono ?_; rintro e wa ⟨Aa, ca, rfl, oa, hb'⟩))
    go_wp2_with fail
    go_ret
    exact ⟨rfl, bw_to hw (by assumption)⟩
  · have hd : decide (a.stage = b.stage) = false := decide_eq_false hst
    have hd' : (a.stage == b.stage) = false := beq_eq_false_iff_ne.2 hst
    have HQ := Lib.hid (Hq.out.trans (alike_no hst))
    clear hst
    go_region
    all_goals go_wp2_with fail
    all_goals go_ret
    all_goals exact ⟨by rw [HQ.out]; rfl, bw_to hw (Below.drew hB0)⟩
set_option maxRecDepth 100000 in
set_option maxHeartbeats 2000000 in
theorem alikeMethods_any (a b : Mt) (u v : Value) (w : World) (ha : Strs w u a.l) (hb : Strs w v b.l) (na : NilOk u) (nb : NilOk v) (ga : methB a = true) (gb : methB b = true) : Calls Try.prog 62 #[a.v u, b.v v] w fun e w' => e = .returned (.bool (alikeB a b)) ∧ Below w.heap.size w w' := by
  have Ha := Lib.hid ha
  have Hb := Lib.hid hb
  have Na := Lib.hid na
  have Nb := Lib.hid nb
  have Ga := Lib.hid (methB_len ga)
  have Gb := Lib.hid (methB_len gb)
  obtain ⟨q, hq⟩ : ∃ q, q = alikeB a b := ⟨_, rfl⟩
  rw [← hq]
  have Hq := Lib.hid hq
  clear ha hb na nb ga gb hq
  unfold Mt.v
  go_enter Try.func62, Try.ntmps62
  go_wp2_with fail
  refine box2 (C := fun W => Code.wp _ _ _ _ W) ?_
  intro wb hw k1 k2 hB0
  have R1 := boxRule k1
  have R2 := boxRule k2
  clear k1 k2
  by_cases hst : a.stage = b.stage
  · have hd : decide (a.stage = b.stage) = true := decide_eq_true hst
    have hd' : (a.stage == b.stage) = true := beq_iff_eq.2 hst
    have HQ := Lib.hid (Hq.out.trans (alike_yes hst))
    have Hst := Lib.hid hst
    clear hst
    go_region_held3 (fun w' => Below wb.heap.size wb w') (first | exact Below.drew (by assumption) | exact bw_to (by assumption) hb')
      (first | ((have ob' := ob); go_at_call 91; refine (slicesEqualStr_any _ _ _ _ _ (strs_own' (own_to oa hb2)) (strs_own' ob)).mono ?_; rintro e wd ⟨rfl, hb'⟩; rw [← HQ.out]) | ((have oa' := oa); go_at_call 57; refine (normal_agg b _ _ (Hb.out.to (bw_to hw (by assumption))) Nb.out Gb.out).mono ?_; rintro e wc ⟨Ab, cb, rfl, ob, hb'⟩; (have hb2 := hb')) | (go_at_call 57; refine (normal_agg a _ _ (Ha.out.to (bw_to hw (by assumption))) Na.out Ga.out).mono ?_; rintro e wa ⟨Aa, ca, rfl, oa, hb'⟩))
    go_wp2_with fail
    go_ret
    exact ⟨rfl, bw_to hw (by assumption)⟩
  · have hd : decide (a.stage = b.stage) = false := decide_eq_false hst
    have hd' : (a.stage == b.stage) = false := beq_eq_false_iff_ne.2 hst
    have HQ := Lib.hid (Hq.out.trans (alike_no hst))
    clear hst
    go_region
    all_goals go_wp2_with fail
    all_goals go_ret
    all_goals exact ⟨by rw [HQ.out]; rfl, bw_to hw (Below.drew hB0)⟩
set_option maxRecDepth 100000 in
set_option maxHeartbeats 2000000 in
theorem implAlikeMethods_any (a b : Mt) (u v : Value) (w : World) (ha : MethAt w a u) (hb : MethAt w b v) (na : NilOk u) (nb : NilOk v) (sa : MtSmall a) (sb : MtSmall b) : Calls Try.prog 25 #[a.v u, b.v v] w fun e w' => e = .returned (.tuple #[.bool (methB a && methB b && alikeB a b), .bool (methB a && methB b)]) ∧ Below w.heap.size w w' := by
  have Ha := Lib.hid ha
  have Hb := Lib.hid hb
  have Na := Lib.hid na
  have Nb := Lib.hid nb
  have Sa := Lib.hid sa
  have Sb := Lib.hid sb
  obtain ⟨p, hp⟩ : ∃ p, p = methB a := ⟨_, rfl⟩
  obtain ⟨q, hq⟩ : ∃ q, q = methB b := ⟨_, rfl⟩
  obtain ⟨s, hs⟩ : ∃ s, s = alikeB a b := ⟨_, rfl⟩
  rw [← hp, ← hq, ← hs]
  have Hp := Lib.hid hp
  have Hq := Lib.hid hq
  have Hs := Lib.hid hs
  clear ha hb na nb sa sb hp hq hs
  unfold Mt.v
  go_enter Try.func25, Try.ntmps25
  go_wp2_with fail
  refine box2 (C := fun W => Calls _ _ _ W _) ?_
  intro wb hw k1 k2 hB0
  have R1 := boxRule k1
  have R2 := boxRule k2
  clear k1 k2
  refine (implGoodMethod_any a u wb (Ha.out.to hw) Sa.out).mono ?_; rintro e w1 ⟨rfl, hb1⟩
  rw [← Hp.out]
  cases p
  · go_wp2_with fail
    go_ret2
    exact ⟨rfl, bw_to hw hb1⟩
  · go_wp2_with fail
    refine (implGoodMethod_any b v w1 (Hb.out.to (bw_to hw hb1)) Sb.out).mono ?_; rintro e w2 ⟨rfl, hb2⟩
    have hB2 := bw_to hb1 hb2
    rw [← Hq.out]
    cases q
    · go_wp2_with fail
      go_ret2
      exact ⟨rfl, bw_to hw hB2⟩
    · go_wp2_with fail
      refine (alikeMethods_any a b u v w2 (Ha.out.to (bw_to hw hB2)).1 (Hb.out.to (bw_to hw hB2)).1 Na.out Nb.out Hp.out.symm Hq.out.symm).mono ?_; rintro e w3 ⟨rfl, hb3⟩
      rw [← Hs.out]
      go_wp2_with fail
      go_ret2
      exact ⟨rfl, bw_to hw (bw_to hB2 hb3)⟩
set_option maxRecDepth 100000 in
set_option maxHeartbeats 2000000 in
theorem specAlikeMethods_any (a b : Mt) (u v : Value) (w : World) (ha : MethAt w a u) (hb : MethAt w b v) (na : NilOk u) (nb : NilOk v) (sa : MtSmall a) (sb : MtSmall b) : Calls Try.prog 24 #[a.v u, b.v v] w fun e w' => e = .returned (.tuple #[.bool (methB a && methB b && alikeB a b), .bool (methB a && methB b)]) ∧ Below w.heap.size w w' := by
  have Ha := Lib.hid ha
  have Hb := Lib.hid hb
  have Na := Lib.hid na
  have Nb := Lib.hid nb
  have Sa := Lib.hid sa
  have Sb := Lib.hid sb
  obtain ⟨p, hp⟩ : ∃ p, p = methB a := ⟨_, rfl⟩
  obtain ⟨q, hq⟩ : ∃ q, q = methB b := ⟨_, rfl⟩
  obtain ⟨s, hs⟩ : ∃ s, s = alikeB a b := ⟨_, rfl⟩
  rw [← hp, ← hq, ← hs]
  have Hp := Lib.hid hp
  have Hq := Lib.hid hq
  have Hs := Lib.hid hs
  clear ha hb na nb sa sb hp hq hs
  unfold Mt.v
  go_enter Try.func24, Try.ntmps24
  go_wp2_with fail
  refine box2 (C := fun W => Calls _ _ _ W _) ?_
  intro wb hw k1 k2 hB0
  have R1 := boxRule k1
  have R2 := boxRule k2
  clear k1 k2
  refine (l4Good_any a u wb (Ha.out.to hw) Sa.out).mono ?_; rintro e w1 ⟨rfl, hb1⟩
  rw [← Hp.out]
  cases p
  · go_wp2_with fail
    go_ret2
    exact ⟨rfl, bw_to hw hb1⟩
  · go_wp2_with fail
    refine (l4Good_any b v w1 (Hb.out.to (bw_to hw hb1)) Sb.out).mono ?_; rintro e w2 ⟨rfl, hb2⟩
    have hB2 := bw_to hb1 hb2
    rw [← Hq.out]
    cases q
    · go_wp2_with fail
      go_ret2
      exact ⟨rfl, bw_to hw hB2⟩
    · go_wp2_with fail
      refine (l29Alike_any a b u v w2 (Ha.out.to (bw_to hw hB2)) (Hb.out.to (bw_to hw hB2)) Na.out Nb.out Sa.out Sb.out Hp.out.symm Hq.out.symm).mono ?_; rintro e w3 ⟨rfl, hb3⟩
      rw [← Hs.out]
      go_wp2_with fail
      go_ret2
      exact ⟨rfl, bw_to hw (bw_to hB2 hb3)⟩
end Go.Proofs.Ytnbehldacehiiaa

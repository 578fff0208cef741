/- Truth by lead heads: the reference's, whole. -/
import Derived.Test.YthgadnhkbmimiaaGreatPk31
import Derived.Test.YthgadnhkbmimiaaGreatPk27
import Derived.Test.YthgadnhkbmimiaaGreatPk28
namespace Go.Proofs.YthgadnhkbmimiaaGreat
open Go Go.RowKit
set_option linter.unusedVariables false
set_option linter.unusedSimpArgs false

theorem wpOp_inQ {P : Program} {ops : Array Oper} {Q : Exit → Act → World → Prop} {i : Nat} {o : Oper} {K : Act → World → Prop} {a : Act} {w : World} (ho : ops[i]? = some o) (hw : Region.wanted o (yielded ops a.tmps) = true) (h : o.wp P a w K Q) : wpOp P ops Q i K a w := by
  unfold wpOp
  simp only [ho, hw, if_true]
  exact .inl h
set_option maxRecDepth 10000 in
set_option maxHeartbeats 1000000 in
theorem l11True_any (m : Mt) (v : Value) (k : Cl) (t : ByteArray) (n : Nat) (w : World) (hg : CGood m k n) (hv : Strs w v m.l) (ht : touchB t.data.toList = true) : Calls Tryz.prog 83 #[m.v v, k.v, .string t] w fun e w' => e = .returned (.bool (thB n m k t)) ∧ Below w.heap.size w w' := by
  have hts := touch_size ht
  have hn := hg.m.hi
  have hst := hg.m.st
  have Hh := Lib.hid (fun W hW => l9Heads_any m v k t n W hg (hv.to hW) ht)
  have Hlf := Lib.hid (fun W V (hW : Below w.heap.size w W) (hV : Strs W V ((headsT m k t).take t.size)) => l11Clashes_any m v V ((headsT m k t).take t.size) n W hg.m (hv.to hW) hV (fun x hx => headsT_inv hg.m t x (List.mem_of_mem_take hx)) (by simp; omega))
  rw [← headsT_n hg.m.st] at Hh
  have Hhl := Lib.hid (headsT_len m k t)
  have Hl := Lib.hid (fun W (hW : Below w.heap.size w W) => l11Lead_any m v n W hg.m (hv.to hW))
  have Hlen : Hid ((leadR n m).length = m.l.length) := Lib.hid (lead_len _ _)
  have hml := hg.m.len
  have Hit := Lib.hid (fun W V (hV : Strs W V (leadR n m)) hn => l7True_any V (leadR n m) W hV hn (by rw [Hlen.out]; omega))
  have Hdef : Hid (thB n m k t = (decide (leadR n m).Nodup && @decide (Clear n (prodL n (leadR n m) (leadR n m)) ((headsT m k t).take t.size)) (Classical.propDecidable _))) := Lib.hid rfl
  obtain ⟨A, c, hv', _⟩ := hv
  subst hv'
  obtain ⟨b, hb⟩ : ∃ b, b = decide (leadR n m).Nodup := ⟨_, rfl⟩
  rw [← hb] at Hit Hdef
  unfold Mt.v Cl.v at *
  rw [hst] at Hh Hlf Hl ⊢
  clear hg ht hb hst
  go_enter Tryz.func83, Tryz.ntmps83
  go_wp2_with fail
  refine box2 (C := fun W => Code.wp _ _ _ _ W) ?_
  intro wb hw k1 k2 hB0
  have R1 := boxRule k1
  have R2 := boxRule k2
  clear k1 k2
  have hdr : Below wb.heap.size wb wb.drew := Below.drew (Below.refl _ _)
  have Hcut : Hid (∀ W A1 q1, W.ownsRow wb.heap.size 9 1 (.slice A1 (t.size + 1) q1) (t.size + 1) ((headsT m k t).map Value.string) → Strs W (.slice A1 t.size q1) ((headsT m k t).take t.size)) := Lib.hid fun W A1 q1 h => by
    have h2 := own_upto h (Nat.le_succ t.size)
    rw [← List.map_take] at h2
    have hl : ((headsT m k t).take t.size).length = t.size := by rw [List.length_take, Hhl.out]; omega
    have h3 := sl_of_own h2
    unfold Strs
    rw [hl]; exact h3
  cases b
  · clear Hh Hlf Hcut R2
    refine wp_region_held_drew (S := fun W => Below wb.heap.size wb W) (by kernel_rfl) hdr (fun hHeld => ?_)
    refine wpAnyH_take (i := 0) (v := (.agg #[.string m.name, .int .i64 (n : Int), .slice A m.l.length c])) rfl (by kernel_rfl) (by kernel_rfl) (by kernel_rfl) (fun _ _ _ h => h) (Or.inl ⟨by kernel_rfl, ?_⟩) hHeld ?_
    · intro W hS
      have r0 := R1 W 0 hS
      have r1 := R1 W 1 hS
      have r2 := R1 W 2 hS
      clear R1
      go_simp
    try simp only [Act.put, List.setIfInBounds_toArray, List.set_cons_zero, List.set_cons_succ]
    refine wpAnyH_take (i := 1) (v := .pointer (some ⟨w.heap.size, 1, none⟩)) rfl (by kernel_rfl) (by kernel_rfl) (by kernel_rfl) (fun _ _ _ h => h) (Or.inl ⟨by kernel_rfl, ?_⟩) hHeld ?_
    · intro W hS; go_simp
    try simp only [Act.put, List.setIfInBounds_toArray, List.set_cons_zero, List.set_cons_succ]
    refine wpAnyH_take (i := 2) (v := (.int .i64 (n : Int))) rfl (by kernel_rfl) (by kernel_rfl) (by kernel_rfl) (fun _ _ _ h => h) (Or.inl ⟨by kernel_rfl, ?_⟩) hHeld ?_
    · intro W hS
      have r0 := R1 W 0 hS
      have r1 := R1 W 1 hS
      have r2 := R1 W 2 hS
      clear R1
      go_simp
    try simp only [Act.put, List.setIfInBounds_toArray, List.set_cons_zero, List.set_cons_succ]
    refine wpAnyH_all (rs := [3]) (by kernel_rfl) (by simp) (List.forall_mem_singleton.2 ?_)
    refine wpOp_inQ rfl (by rfl) ?_
    unfold Oper.wp
    go_simp
    go_at_call 89
    refine (l1Rounds_any n _ hn).mono ?_; rintro e' w1 ⟨rfl, rfl⟩
    refine ⟨hHeld, ?_⟩
    try simp only [Act.put, List.setIfInBounds_toArray, List.set_cons_zero, List.set_cons_succ]
    refine wpAnyH_all (rs := [4]) (by kernel_rfl) (by simp) (List.forall_mem_singleton.2 ?_)
    refine wpOp_inQ rfl (by rfl) ?_
    unfold Oper.wp
    go_simp
    go_at_call 133
    refine (Hl.out _ (bw_to hw hHeld)).mono ?_; rintro e' w2 ⟨A1, q1, rfl, hown, hb2⟩
    have hS2 := strs_of_own (by rw [Hlen.out]; exact hown)
    have hn2 := nilok_own hown
    have hH2 := bw_to hHeld hb2
    clear hown
    refine ⟨hH2, ?_⟩
    try simp only [Act.put, List.setIfInBounds_toArray, List.set_cons_zero, List.set_cons_succ]
    refine wpAnyH_all (rs := [5]) (by kernel_rfl) (by simp) (List.forall_mem_singleton.2 ?_)
    refine wpOp_inQ rfl (by rfl) ?_
    unfold Oper.wp
    go_simp
    go_at_call 48
    refine (Hit.out _ _ hS2 hn2).mono ?_; rintro e' w3 ⟨rfl, hb3⟩
    have hH3 := bw_to hH2 hb3
    refine ⟨hH3, ?_⟩
    try simp only [Act.put, List.setIfInBounds_toArray, List.set_cons_zero, List.set_cons_succ]
    refine wpAnyH_take (i := 6) (v := .bool false) rfl (by kernel_rfl) (by kernel_rfl) (by kernel_rfl) (fun _ _ _ h => h) (Or.inl ⟨by kernel_rfl, ?_⟩) hH3 ?_
    · intro W hS; go_simp
    try simp only [Act.put, List.setIfInBounds_toArray, List.set_cons_zero, List.set_cons_succ]
    refine wpAnyH_take (i := 7) (v := undef) rfl (by kernel_rfl) (by kernel_rfl) (by kernel_rfl) (fun _ _ _ h => h) (Or.inr ⟨by kernel_rfl, rfl⟩) hH3 ?_
    try simp only [Act.put, List.setIfInBounds_toArray, List.set_cons_zero, List.set_cons_succ]
    refine wpAnyH_take (i := 8) (v := undef) rfl (by kernel_rfl) (by kernel_rfl) (by kernel_rfl) (fun _ _ _ h => h) (Or.inr ⟨by kernel_rfl, rfl⟩) hH3 ?_
    try simp only [Act.put, List.setIfInBounds_toArray, List.set_cons_zero, List.set_cons_succ]
    refine wpAnyH_take (i := 9) (v := undef) rfl (by kernel_rfl) (by kernel_rfl) (by kernel_rfl) (fun _ _ _ h => h) (Or.inr ⟨by kernel_rfl, rfl⟩) hH3 ?_
    try simp only [Act.put, List.setIfInBounds_toArray, List.set_cons_zero, List.set_cons_succ]
    refine wpAnyH_take (i := 10) (v := undef) rfl (by kernel_rfl) (by kernel_rfl) (by kernel_rfl) (fun _ _ _ h => h) (Or.inr ⟨by kernel_rfl, rfl⟩) hH3 ?_
    try simp only [Act.put, List.setIfInBounds_toArray, List.set_cons_zero, List.set_cons_succ]
    refine wpAnyH_take (i := 11) (v := undef) rfl (by kernel_rfl) (by kernel_rfl) (by kernel_rfl) (fun _ _ _ h => h) (Or.inr ⟨by kernel_rfl, rfl⟩) hH3 ?_
    try simp only [Act.put, List.setIfInBounds_toArray, List.set_cons_zero, List.set_cons_succ]
    refine wpAnyH_take (i := 12) (v := undef) rfl (by kernel_rfl) (by kernel_rfl) (by kernel_rfl) (fun _ _ _ h => h) (Or.inr ⟨by kernel_rfl, rfl⟩) hH3 ?_
    try simp only [Act.put, List.setIfInBounds_toArray, List.set_cons_zero, List.set_cons_succ]
    refine wpAnyH_take (i := 13) (v := undef) rfl (by kernel_rfl) (by kernel_rfl) (by kernel_rfl) (fun _ _ _ h => h) (Or.inr ⟨by kernel_rfl, rfl⟩) hH3 ?_
    try simp only [Act.put, List.setIfInBounds_toArray, List.set_cons_zero, List.set_cons_succ]
    refine wpAnyH_take (i := 14) (v := undef) rfl (by kernel_rfl) (by kernel_rfl) (by kernel_rfl) (fun _ _ _ h => h) (Or.inr ⟨by kernel_rfl, rfl⟩) hH3 ?_
    try simp only [Act.put, List.setIfInBounds_toArray, List.set_cons_zero, List.set_cons_succ]
    refine wpAnyH_take (i := 15) (v := undef) rfl (by kernel_rfl) (by kernel_rfl) (by kernel_rfl) (fun _ _ _ h => h) (Or.inr ⟨by kernel_rfl, rfl⟩) hH3 ?_
    try simp only [Act.put, List.setIfInBounds_toArray, List.set_cons_zero, List.set_cons_succ]
    refine wpAnyH_take (i := 16) (v := undef) rfl (by kernel_rfl) (by kernel_rfl) (by kernel_rfl) (fun _ _ _ h => h) (Or.inr ⟨by kernel_rfl, rfl⟩) hH3 ?_
    try simp only [Act.put, List.setIfInBounds_toArray, List.set_cons_zero, List.set_cons_succ]
    refine wpAnyH_take (i := 17) (v := undef) rfl (by kernel_rfl) (by kernel_rfl) (by kernel_rfl) (fun _ _ _ h => h) (Or.inr ⟨by kernel_rfl, rfl⟩) hH3 ?_
    try simp only [Act.put, List.setIfInBounds_toArray, List.set_cons_zero, List.set_cons_succ]
    refine wpAnyH_take (i := 18) (v := .bool false) rfl (by kernel_rfl) (by kernel_rfl) (by kernel_rfl) (fun _ _ _ h => h) (Or.inl ⟨by kernel_rfl, ?_⟩) hH3 ?_
    · intro W hS; go_simp
    try simp only [Act.put, List.setIfInBounds_toArray, List.set_cons_zero, List.set_cons_succ]
    refine wpAnyH_take (i := 19) (v := .bool false) rfl (by kernel_rfl) (by kernel_rfl) (by kernel_rfl) (fun _ _ _ h => h) (Or.inl ⟨by kernel_rfl, ?_⟩) hH3 ?_
    · intro W hS; go_simp
    try simp only [Act.put, List.setIfInBounds_toArray, List.set_cons_zero, List.set_cons_succ]
    refine wpAnyH_done (by kernel_rfl) ?_ _
    try simp only [List.getElem_toArray, List.getElem_cons_succ, List.getElem_cons_zero, Act.put, List.setIfInBounds_toArray, List.set_cons_zero, List.set_cons_succ]
    go_wp2_with fail
    go_ret
    exact ⟨ret_bool (by rw [Hdef.out]; rfl), bw_to hw hH3⟩
  · go_region_held3 (fun W => Below wb.heap.size wb W) (first | with_reducible assumption | exact Below.drew (by assumption) | exact bw_to (by assumption) hb')
      (first | (go_at_call 89; refine (l1Rounds_any n _ hn).mono ?_; rintro e w' ⟨rfl, rfl⟩) | (go_at_call 133; refine (Hl.out _ (bw_to hw (by assumption))).mono ?_; rintro e w' ⟨A1, q1, rfl, hown, hb'⟩; (have hS2 := strs_of_own (by rw [Hlen.out]; exact hown)); (have hn2 := nilok_own hown); clear hown) | (go_at_call 48; refine (Hit.out _ _ hS2 hn2).mono ?_; rintro e w' ⟨rfl, hb'⟩) | (go_at_call 67; refine (Hh.out _ (bw_to hw (by assumption))).mono ?_; rintro e w' ⟨A3, q3, rfl, hown, hb'⟩; (have hz1 : wb.heap.size ≤ w'.heap.size := Nat.le_trans (Below.size (by assumption : Below wb.heap.size wb _)) hb'.size); (have hown := own_base (base' := wb.heap.size) hown (Below.size (by assumption))); (have hq1 : t.size + 1 ≤ q3 := (sl_cap hown)); (have hq2 : (t.size : Int) ≤ (q3 : Int) := by omega); (have hq3 : (0 : Int) ≤ (t.size : Int) := by omega)) | (go_at_call 134; refine (Hlf.out _ _ (bw_to hw (by assumption)) (Hcut.out _ _ _ hown)).mono ?_; rintro e w' ⟨A2, N2, q2, rfl, hN, hb'⟩))
    all_goals
      have hBB : Below wb.heap.size wb w' := by assumption
      have HN := Lib.hid hN
      clear hown hN
      go_wp2_with fail
      go_ret
      refine ⟨ret_bool ?_, bw_to hw hBB⟩
      rw [Hdef.out, Bool.true_and]
      have e1 : ((N2 : Int) == 0) = true ↔ N2 = 0 := by simp
      exact Bool.eq_iff_iff.2 (e1.trans (HN.out.trans (@decide_eq_true_iff _ (Classical.propDecidable _)).symm))
end Go.Proofs.YthgadnhkbmimiaaGreat

/- Contracts: the making of a proof, the reference's. -/
namespace Go.Proofs.YthgadnhkbmimiaaGreat
open Go Go.RowKit
set_option linter.unusedVariables false
set_option linter.unusedSimpArgs false

set_option maxHeartbeats 1000000 in
theorem specGoodCalls_any (m : Mt) (v : Value) (k : Cl) (w : World) (h : MethAt w m v) (hs : MtSmall m) (hk : ClSmall k) : Calls Tryz.prog 136 #[m.v v, k.v] w fun e w' => e = .returned (.bool (callsB m k)) ∧ Below w.heap.size w w' := by
  have HM := Lib.hid (fun W (hW : Below w.heap.size w W) => l8Good_any m v k W (h.to hW) hs hk)
  obtain ⟨A, q, hv⟩ := h.form
  subst hv
  obtain ⟨p, hp⟩ : ∃ p, p = callsB m k := ⟨_, rfl⟩
  rw [← hp] at HM ⊢
  clear h hp
  unfold Mt.v Cl.v at *
  go_enter Tryz.func136, Tryz.ntmps136
  go_wp2_with fail
  refine box2 (C := fun W => Calls _ _ _ W _) ?_
  intro wb hw k1 k2 hB0
  have R1 := boxRule k1
  have R2 := boxRule k2
  clear k1 k2
  refine (HM.out _ hw).mono ?_; rintro e w1 ⟨rfl, hb1⟩
  go_wp2_with fail
  go_ret
  exact ⟨rfl, bw_to hw hb1⟩
set_option maxHeartbeats 1000000 in
theorem specGoodTouch_any (s : ByteArray) (w : World) (hs : s.size ≤ maxLen) : Calls Tryz.prog 137 #[.string s] w fun e w' => e = .returned (.bool (touchB s.data.toList)) ∧ w = w' := by
  have H := Lib.hid (fun W => l9Good_any s W hs)
  obtain ⟨p, hp⟩ : ∃ p, p = touchB s.data.toList := ⟨_, rfl⟩
  simp only [← hp] at H ⊢
  clear hp
  go_enter Tryz.func137, Tryz.ntmps137
  go_wp2_with (go_at_call 119; refine (H.out _).mono ?_; rintro e w' ⟨rfl, rfl⟩)
  go_ret
  exact ⟨rfl, rfl⟩
theorem asked_and {m : Mt} {k : Cl} : (methB m && callsB m k) = callsB m k := by
  unfold callsB
  cases methB m <;> simp
set_option maxHeartbeats 2000000 in
theorem l20Asked_any (m : Mt) (v : Value) (k : Cl) (t : ByteArray) (w : World) (h : MethAt w m v) (hs : MtSmall m) (hk : ClSmall k) (ht : t.size ≤ maxLen) : Calls Tryz.prog 84 #[m.v v, k.v, .string t] w fun e w' => e = .returned (.bool (askT m k t)) ∧ Below w.heap.size w w' := by
  have HG := Lib.hid (fun W (hW : Below w.heap.size w W) => l4Good_any m v W (h.to hW) hs)
  have HM := Lib.hid (fun W (hW : Below w.heap.size w W) => specGoodCalls_any m v k W (h.to hW) hs hk)
  have HT := Lib.hid (fun W => specGoodTouch_any t W ht)
  have HD : Hid (askT m k t = ((methB m && callsB m k) && touchB t.data.toList)) := Lib.hid (by rw [asked_and]; rfl)
  obtain ⟨A, q, hv⟩ := h.form
  subst hv
  obtain ⟨p, hp⟩ : ∃ p, p = callsB m k := ⟨_, rfl⟩
  obtain ⟨o, ho⟩ : ∃ p, p = methB m := ⟨_, rfl⟩
  obtain ⟨u, hu⟩ : ∃ p, p = touchB t.data.toList := ⟨_, rfl⟩
  simp only [← hp, ← ho, ← hu] at HG HM HT HD
  rw [HD.out]
  clear h hp ho hu HD
  unfold Mt.v Cl.v at *
  go_enter Tryz.func84, Tryz.ntmps84
  go_wp2_with fail
  refine box2 (C := fun W => Calls _ _ _ W _) ?_
  intro wb hw k1 k2 hB0
  have R1 := boxRule k1
  have R2 := boxRule k2
  clear k1 k2
  refine (HG.out _ hw).mono ?_; rintro e w1 ⟨rfl, hb1⟩
  have hw1 := bw_to hw hb1
  cases o
  · go_wp2_with fail
    go_ret
    exact ⟨rfl, hw1⟩
  · go_wp2_with fail
    refine (HM.out _ hw1).mono ?_; rintro e w2 ⟨rfl, hb2⟩
    have hw2 := bw_to hw1 hb2
    cases p
    · go_wp2_with fail
      go_ret
      exact ⟨rfl, hw2⟩
    · go_wp2_with (go_at_call 137; refine (HT.out _).mono ?_; rintro e w' ⟨rfl, rfl⟩)
      go_ret
      exact ⟨by simp, hw2⟩
set_option maxHeartbeats 2000000 in
theorem specTrueByHeads_yes (m : Mt) (v : Value) (k : Cl) (t : ByteArray) (n : Nat) (w : World) (hg : CGood m k n) (ha : askT m k t = true) (h : MethAt w m v) (hs : MtSmall m) (hk : ClSmall k) (ht : t.size ≤ maxLen) : Calls Tryz.prog 46 #[m.v v, k.v, .string t] w fun e w' => e = .returned (.tuple #[.bool (thB n m k t), .bool true]) ∧ Below w.heap.size w w' := by
  have HA := Lib.hid (fun W (hW : Below w.heap.size w W) => l9Asked_any m v k t W (h.to hW) hs hk ht)
  have hat := ha
  unfold askT at hat
  have hat2 := hat
  rw [Bool.and_eq_true] at hat2
  have HT := Lib.hid (fun W (hW : Below w.heap.size w W) => l11True_any m v k t n W hg (h.1.to hW) hat2.2)
  rw [hat] at HA
  obtain ⟨A, q, hv⟩ := h.form
  subst hv
  obtain ⟨p, hp⟩ : ∃ p, p = thB n m k t := ⟨_, rfl⟩
  rw [← hp] at HT ⊢
  clear h hp hg ha hat hat2
  unfold Mt.v Cl.v at *
  go_enter Tryz.func46, Tryz.ntmps46
  go_wp2_with fail
  refine box2 (C := fun W => Calls _ _ _ W _) ?_
  intro wb hw k1 k2 hB0
  have R1 := boxRule k1
  have R2 := boxRule k2
  clear k1 k2
  refine (HA.out _ hw).mono ?_; rintro e w1 ⟨rfl, hb1⟩
  have hw1 := bw_to hw hb1
  go_wp2_with fail
  refine (HT.out _ hw1).mono ?_; rintro e w2 ⟨rfl, hb2⟩
  go_wp2_with fail
  go_ret2
  exact ⟨rfl, bw_to hw1 hb2⟩
end Go.Proofs.YthgadnhkbmimiaaGreat

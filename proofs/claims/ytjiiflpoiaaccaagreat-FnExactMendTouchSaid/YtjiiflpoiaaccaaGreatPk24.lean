/- Truth by lead heads: the reference's, whole. -/
import Derived.Test.YtjiiflpoiaaccaaGreatPk23
import Derived.Test.YtjiiflpoiaaccaaGreatPk20
import Derived.Test.YtjiiflpoiaaccaaGreatPk22
namespace Go.Proofs.YtjiiflpoiaaccaaGreat
open Go Go.RowKit
set_option linter.unusedVariables false
set_option linter.unusedSimpArgs false

theorem wpOp_inQ {P : Program} {ops : Array Oper} {Q : Exit → Act → World → Prop} {i : Nat} {o : Oper} {K : Act → World → Prop} {a : Act} {w : World} (ho : ops[i]? = some o) (hw : Region.wanted o (yielded ops a.tmps) = true) (h : o.wp P a w K Q) : wpOp P ops Q i K a w := by
  unfold wpOp
  simp only [ho, hw, if_true]
  exact .inl h
set_option maxRecDepth 10000 in
set_option maxHeartbeats 1000000 in
theorem l11True_any (m : Mt) (v : Value) (k : Cl) (t : ByteArray) (n : Nat) (w : World) (hg : CGood m k n) (hv : Strs w v m.l) (ht : touchB t.data.toList = true) : Calls Tryz.prog 204 #[m.v v, k.v, .string t] w fun e w' => e = .returned (.bool (thB n m k t)) ∧ Below w.heap.size w w' := by
  have hts := touch_size ht
  have hn := hg.m.hi
  have hst := hg.m.st
  have Hh := Lib.hid (fun W hW => l9Heads_any m v k t n W hg (hv.to hW) ht)
  have Hlf := Lib.hid (fun W V (hW : Below w.heap.size w W) (hV : Strs W V ((headsT m k t).take t.size)) => l11Clashes_any m v V ((headsT m k t).take t.size) n W hg.m (hv.to hW) hV (fun x hx => headsT_inv hg.m t x (List.mem_of_mem_take hx)) (by simp; omega))
  rw [← headsT_n hg.m.st] at Hh
  have Hhl := Lib.hid (headsT_len m k t)
  have Hl := Lib.hid (fun W (hW : Below w.heap.size w W) => l11Lead_any m v n W hg.m (hv.to hW))
  have Hlen : Hid ((leadR n m).length = m.l.length) := Lib.hid (lead_len _ _)
  have hml := hg.m.len
  have Hit := Lib.hid (fun W V (hV : Strs W V (leadR n m)) hn => l7True_any V (leadR n m) W hV hn (by rw [Hlen.out]; omega))
  have Hdef : Hid (thB n m k t = (decide (leadR n m).Nodup && @decide (Clear n (prodL n (leadR n m) (leadR n m)) ((headsT m k t).take t.size)) (Classical.propDecidable _))) := Lib.hid rfl
  obtain ⟨A, c, hv', _⟩ := hv
  subst hv'
  obtain ⟨b, hb⟩ : ∃ b, b = decide (leadR n m).Nodup := ⟨_, rfl⟩
  rw [← hb] at Hit Hdef
  unfold Mt.v Cl.v at *
  rw [hst] at Hh Hlf Hl ⊢
  clear hg ht hb hst
  go_enter Tryz.func204, Tryz.ntmps204
  go_wp2_with fail
  refine box2 (C := fun W => Code.wp _ _ _ _ W) ?_
  intro wb hw k1 k2 hB0
  have R1 := boxRule k1
  have R2 := boxRule k2
  clear k1 k2
  have hdr : Below wb.heap.size wb wb.drew := Below.drew (Below.refl _ _)
  have Hcut : Hid (∀ W A1 q1, W.ownsRow wb.heap.size 9 1 (.slice A1 (t.size + 1) q1) (t.size + 1) ((headsT m k t).map Value.string) → Strs W (.slice A1 t.size q1) ((headsT m k t).take t.size)) := Lib.hid fun W A1 q1 h => by
    have h2 := own_upto h (Nat.le_succ t.size)
    rw [← List.map_take] at h2
    have hl : ((headsT m k t).take t.size).length = t.size := by rw [List.length_take, Hhl.out]; omega
    have h3 := sl_of_own h2
    unfold Strs
    rw [hl]; exact h3
  cases b
  · clear Hh Hlf Hcut R2
    refine wp_region_held_drew (S := fun W => Below wb.heap.size wb W) (by kernel_rfl) hdr (fun hHeld => ?_)
    refine wpAnyH_take (i := 0) (v := (.agg #[.string m.name, .int .i64 (n : Int), .slice A m.l.length c])) rfl (by kernel_rfl) (by kernel_rfl) (by kernel_rfl) (fun _ _ _ h => h) (Or.inl ⟨by kernel_rfl, ?_⟩) hHeld ?_
    · intro W hS
      have r0 := R1 W 0 hS
      have r1 := R1 W 1 hS
      have r2 := R1 W 2 hS
      clear R1
      go_simp
    try simp only [Act.put, List.setIfInBounds_toArray, List.set_cons_zero, List.set_cons_succ]
    refine wpAnyH_take (i := 1) (v := .pointer (some ⟨w.heap.size, 1, none⟩)) rfl (by kernel_rfl) (by kernel_rfl) (by kernel_rfl) (fun _ _ _ h => h) (Or.inl ⟨by kernel_rfl, ?_⟩) hHeld ?_
    · intro W hS; go_simp
    try simp only [Act.put, List.setIfInBounds_toArray, List.set_cons_zero, List.set_cons_succ]
    refine wpAnyH_take (i := 2) (v := (.int .i64 (n : Int))) rfl (by kernel_rfl) (by kernel_rfl) (by kernel_rfl) (fun _ _ _ h => h) (Or.inl ⟨by kernel_rfl, ?_⟩) hHeld ?_
    · intro W hS
      have r0 := R1 W 0 hS
      have r1 := R1 W 1 hS
      have r2 := R1 W 2 hS
      clear R1
      go_simp
    try simp only [Act.put, List.setIfInBounds_toArray, List.set_cons_zero, List.set_cons_succ]
    refine wpAnyH_all (rs := [3]) (by kernel_rfl) (by simp) (List.forall_mem_singleton.2 ?_)
    refine wpOp_inQ rfl (by rfl) ?_
    unfold Oper.wp
    go_simp
    go_at_call 139
    refine (l1Rounds_any n _ hn).mono ?_; rintro e' w1 ⟨rfl, rfl⟩
    refine ⟨hHeld, ?_⟩
    try simp only [Act.put, List.setIfInBounds_toArray, List.set_cons_zero, List.set_cons_succ]
    refine wpAnyH_all (rs := [4]) (by kernel_rfl) (by simp) (List.forall_mem_singleton.2 ?_)
    refine wpOp_inQ rfl (by rfl) ?_
    unfold Oper.wp
    go_simp
    go_at_call 270
    refine (Hl.out _ (bw_to hw hHeld)).mono ?_; rintro e' w2 ⟨A1, q1, rfl, hown, hb2⟩
    have hS2 := strs_of_own (by rw [Hlen.out]; exact hown)
    have hn2 := nilok_own hown
    have hH2 := bw_to hHeld hb2
    clear hown
    refine ⟨hH2, ?_⟩
    try simp only [Act.put, List.setIfInBounds_toArray, List.set_cons_zero, List.set_cons_succ]
    refine wpAnyH_all (rs := [5]) (by kernel_rfl) (by simp) (List.forall_mem_singleton.2 ?_)
    refine wpOp_inQ rfl (by rfl) ?_
    unfold Oper.wp
    go_simp
    go_at_call 112
    refine (Hit.out _ _ hS2 hn2).mono ?_; rintro e' w3 ⟨rfl, hb3⟩
    have hH3 := bw_to hH2 hb3
    refine ⟨hH3, ?_⟩
    try simp only [Act.put, List.setIfInBounds_toArray, List.set_cons_zero, List.set_cons_succ]
    refine wpAnyH_take (i := 6) (v := .bool false) rfl (by kernel_rfl) (by kernel_rfl) (by kernel_rfl) (fun _ _ _ h => h) (Or.inl ⟨by kernel_rfl, ?_⟩) hH3 ?_
    · intro W hS; go_simp
    try simp only [Act.put, List.setIfInBounds_toArray, List.set_cons_zero, List.set_cons_succ]
    refine wpAnyH_take (i := 7) (v := undef) rfl (by kernel_rfl) (by kernel_rfl) (by kernel_rfl) (fun _ _ _ h => h) (Or.inr ⟨by kernel_rfl, rfl⟩) hH3 ?_
    try simp only [Act.put, List.setIfInBounds_toArray, List.set_cons_zero, List.set_cons_succ]
    refine wpAnyH_take (i := 8) (v := undef) rfl (by kernel_rfl) (by kernel_rfl) (by kernel_rfl) (fun _ _ _ h => h) (Or.inr ⟨by kernel_rfl, rfl⟩) hH3 ?_
    try simp only [Act.put, List.setIfInBounds_toArray, List.set_cons_zero, List.set_cons_succ]
    refine wpAnyH_take (i := 9) (v := undef) rfl (by kernel_rfl) (by kernel_rfl) (by kernel_rfl) (fun _ _ _ h => h) (Or.inr ⟨by kernel_rfl, rfl⟩) hH3 ?_
    try simp only [Act.put, List.setIfInBounds_toArray, List.set_cons_zero, List.set_cons_succ]
    refine wpAnyH_take (i := 10) (v := undef) rfl (by kernel_rfl) (by kernel_rfl) (by kernel_rfl) (fun _ _ _ h => h) (Or.inr ⟨by kernel_rfl, rfl⟩) hH3 ?_
    try simp only [Act.put, List.setIfInBounds_toArray, List.set_cons_zero, List.set_cons_succ]
    refine wpAnyH_take (i := 11) (v := undef) rfl (by kernel_rfl) (by kernel_rfl) (by kernel_rfl) (fun _ _ _ h => h) (Or.inr ⟨by kernel_rfl, rfl⟩) hH3 ?_
    try simp only [Act.put, List.setIfInBounds_toArray, List.set_cons_zero, List.set_cons_succ]
    refine wpAnyH_take (i := 12) (v := undef) rfl (by kernel_rfl) (by kernel_rfl) (by kernel_rfl) (fun _ _ _ h => h) (Or.inr ⟨by kernel_rfl, rfl⟩) hH3 ?_
    try simp only [Act.put, List.setIfInBounds_toArray, List.set_cons_zero, List.set_cons_succ]
    refine wpAnyH_take (i := 13) (v := undef) rfl (by kernel_rfl) (by kernel_rfl) (by kernel_rfl) (fun _ _ _ h => h) (Or.inr ⟨by kernel_rfl, rfl⟩) hH3 ?_
    try simp only [Act.put, List.setIfInBounds_toArray, List.set_cons_zero, List.set_cons_succ]
    refine wpAnyH_take (i := 14) (v := undef) rfl (by kernel_rfl) (by kernel_rfl) (by kernel_rfl) (fun _ _ _ h => h) (Or.inr ⟨by kernel_rfl, rfl⟩) hH3 ?_
    try simp only [Act.put, List.setIfInBounds_toArray, List.set_cons_zero, List.set_cons_succ]
    refine wpAnyH_take (i := 15) (v := undef) rfl (by kernel_rfl) (by kernel_rfl) (by kernel_rfl) (fun _ _ _ h => h) (Or.inr ⟨by kernel_rfl, rfl⟩) hH3 ?_
    try simp only [Act.put, List.setIfInBounds_toArray, List.set_cons_zero, List.set_cons_succ]
    refine wpAnyH_take (i := 16) (v := undef) rfl (by kernel_rfl) (by kernel_rfl) (by kernel_rfl) (fun _ _ _ h => h) (Or.inr ⟨by kernel_rfl, rfl⟩) hH3 ?_
    try simp only [Act.put, List.setIfInBounds_toArray, List.set_cons_zero, List.set_cons_succ]
    refine wpAnyH_take (i := 17) (v := undef) rfl (by kernel_rfl) (by kernel_rfl) (by kernel_rfl) (fun _ _ _ h => h) (Or.inr ⟨by kernel_rfl, rfl⟩) hH3 ?_
    try simp only [Act.put, List.setIfInBounds_toArray, List.set_cons_zero, List.set_cons_succ]
    refine wpAnyH_take (i := 18) (v := .bool false) rfl (by kernel_rfl) (by kernel_rfl) (by kernel_rfl) (fun _ _ _ h => h) (Or.inl ⟨by kernel_rfl, ?_⟩) hH3 ?_
    · intro W hS; go_simp
    try simp only [Act.put, List.setIfInBounds_toArray, List.set_cons_zero, List.set_cons_succ]
    refine wpAnyH_take (i := 19) (v := .bool false) rfl (by kernel_rfl) (by kernel_rfl) (by kernel_rfl) (fun _ _ _ h => h) (Or.inl ⟨by kernel_rfl, ?_⟩) hH3 ?_
    · intro W hS; go_simp
    try simp only [Act.put, List.setIfInBounds_toArray, List.set_cons_zero, List.set_cons_succ]
    refine wpAnyH_done (by kernel_rfl) ?_ _
    try simp only [List.getElem_toArray, List.getElem_cons_succ, List.getElem_cons_zero, Act.put, List.setIfInBounds_toArray, List.set_cons_zero, List.set_cons_succ]
    go_wp2_with fail
    go_ret
    exact ⟨ret_bool (by rw [Hdef.out]; rfl), bw_to hw hH3⟩
  · go_region_held3 (fun W => Below wb.heap.size wb W) (first | with_reducible assumption | exact Below.drew (by assumption) | exact bw_to (by assumption) hb')
      (first | (go_at_call 139; refine (l1Rounds_any n _ hn).mono ?_; rintro e w' ⟨rfl, rfl⟩) | (go_at_call 270; refine (Hl.out _ (bw_to hw (by assumption))).mono ?_; rintro e w' ⟨A1, q1, rfl, hown, hb'⟩; (have hS2 := strs_of_own (by rw [Hlen.out]; exact hown)); (have hn2 := nilok_own hown); clear hown) | (go_at_call 112; refine (Hit.out _ _ hS2 hn2).mono ?_; rintro e w' ⟨rfl, hb'⟩) | (go_at_call 187; refine (Hh.out _ (bw_to hw (by assumption))).mono ?_; rintro e w' ⟨A3, q3, rfl, hown, hb'⟩; (have hz1 : wb.heap.size ≤ w'.heap.size := Nat.le_trans (Below.size (by assumption : Below wb.heap.size wb _)) hb'.size); (have hown := own_base (base' := wb.heap.size) hown (Below.size (by assumption))); (have hq1 : t.size + 1 ≤ q3 := (sl_cap hown)); (have hq2 : (t.size : Int) ≤ (q3 : Int) := by omega); (have hq3 : (0 : Int) ≤ (t.size : Int) := by omega)) | (go_at_call 271; refine (Hlf.out _ _ (bw_to hw (by assumption)) (Hcut.out _ _ _ hown)).mono ?_; rintro e w' ⟨A2, N2, q2, rfl, hN, hb'⟩))
    all_goals
      have hBB : Below wb.heap.size wb w' := by assumption
      have HN := Lib.hid hN
      clear hown hN
      go_wp2_with fail
      go_ret
      refine ⟨ret_bool ?_, bw_to hw hBB⟩
      rw [Hdef.out, Bool.true_and]
      have e1 : ((N2 : Int) == 0) = true ↔ N2 = 0 := by simp
      exact Bool.eq_iff_iff.2 (e1.trans (HN.out.trans (@decide_eq_true_iff _ (Classical.propDecidable _)).symm))
end Go.Proofs.YtjiiflpoiaaccaaGreat

/- Contracts: the making of a proof, the reference's. -/
namespace Go.Proofs.YtjiiflpoiaaccaaGreat
open Go Go.RowKit
set_option linter.unusedVariables false
set_option linter.unusedSimpArgs false

set_option maxHeartbeats 1000000 in
theorem specGoodCalls_any (m : Mt) (v : Value) (k : Cl) (w : World) (h : MethAt w m v) (hs : MtSmall m) (hk : ClSmall k) : Calls Tryz.prog 227 #[m.v v, k.v] w fun e w' => e = .returned (.bool (callsB m k)) ∧ Below w.heap.size w w' := by
  have HM := Lib.hid (fun W (hW : Below w.heap.size w W) => l8Good_any m v k W (h.to hW) hs hk)
  obtain ⟨A, q, hv⟩ := h.form
  subst hv
  obtain ⟨p, hp⟩ : ∃ p, p = callsB m k := ⟨_, rfl⟩
  rw [← hp] at HM ⊢
  clear h hp
  unfold Mt.v Cl.v at *
  go_enter Tryz.func227, Tryz.ntmps227
  go_wp2_with fail
  refine box2 (C := fun W => Calls _ _ _ W _) ?_
  intro wb hw k1 k2 hB0
  have R1 := boxRule k1
  have R2 := boxRule k2
  clear k1 k2
  refine (HM.out _ hw).mono ?_; rintro e w1 ⟨rfl, hb1⟩
  go_wp2_with fail
  go_ret
  exact ⟨rfl, bw_to hw hb1⟩
set_option maxHeartbeats 1000000 in
theorem specGoodTouch_any (s : ByteArray) (w : World) (hs : s.size ≤ maxLen) : Calls Tryz.prog 218 #[.string s] w fun e w' => e = .returned (.bool (touchB s.data.toList)) ∧ w = w' := by
  have H := Lib.hid (fun W => l9Good_any s W hs)
  obtain ⟨p, hp⟩ : ∃ p, p = touchB s.data.toList := ⟨_, rfl⟩
  simp only [← hp] at H ⊢
  clear hp
  go_enter Tryz.func218, Tryz.ntmps218
  go_wp2_with (go_at_call 212; refine (H.out _).mono ?_; rintro e w' ⟨rfl, rfl⟩)
  go_ret
  exact ⟨rfl, rfl⟩
theorem asked_and {m : Mt} {k : Cl} : (methB m && callsB m k) = callsB m k := by
  unfold callsB
  cases methB m <;> simp
set_option maxHeartbeats 2000000 in
theorem l20Asked_any (m : Mt) (v : Value) (k : Cl) (t : ByteArray) (w : World) (h : MethAt w m v) (hs : MtSmall m) (hk : ClSmall k) (ht : t.size ≤ maxLen) : Calls Tryz.prog 134 #[m.v v, k.v, .string t] w fun e w' => e = .returned (.bool (askT m k t)) ∧ Below w.heap.size w w' := by
  have HG := Lib.hid (fun W (hW : Below w.heap.size w W) => l4Good_any m v W (h.to hW) hs)
  have HM := Lib.hid (fun W (hW : Below w.heap.size w W) => specGoodCalls_any m v k W (h.to hW) hs hk)
  have HT := Lib.hid (fun W => specGoodTouch_any t W ht)
  have HD : Hid (askT m k t = ((methB m && callsB m k) && touchB t.data.toList)) := Lib.hid (by rw [asked_and]; rfl)
  obtain ⟨A, q, hv⟩ := h.form
  subst hv
  obtain ⟨p, hp⟩ : ∃ p, p = callsB m k := ⟨_, rfl⟩
  obtain ⟨o, ho⟩ : ∃ p, p = methB m := ⟨_, rfl⟩
  obtain ⟨u, hu⟩ : ∃ p, p = touchB t.data.toList := ⟨_, rfl⟩
  simp only [← hp, ← ho, ← hu] at HG HM HT HD
  rw [HD.out]
  clear h hp ho hu HD
  unfold Mt.v Cl.v at *
  go_enter Tryz.func134, Tryz.ntmps134
  go_wp2_with fail
  refine box2 (C := fun W => Calls _ _ _ W _) ?_
  intro wb hw k1 k2 hB0
  have R1 := boxRule k1
  have R2 := boxRule k2
  clear k1 k2
  refine (HG.out _ hw).mono ?_; rintro e w1 ⟨rfl, hb1⟩
  have hw1 := bw_to hw hb1
  cases o
  · go_wp2_with fail
    go_ret
    exact ⟨rfl, hw1⟩
  · go_wp2_with fail
    refine (HM.out _ hw1).mono ?_; rintro e w2 ⟨rfl, hb2⟩
    have hw2 := bw_to hw1 hb2
    cases p
    · go_wp2_with fail
      go_ret
      exact ⟨rfl, hw2⟩
    · go_wp2_with (go_at_call 218; refine (HT.out _).mono ?_; rintro e w' ⟨rfl, rfl⟩)
      go_ret
      exact ⟨by simp, hw2⟩
set_option maxHeartbeats 2000000 in
theorem specTrueByHeads_yes (m : Mt) (v : Value) (k : Cl) (t : ByteArray) (n : Nat) (w : World) (hg : CGood m k n) (ha : askT m k t = true) (h : MethAt w m v) (hs : MtSmall m) (hk : ClSmall k) (ht : t.size ≤ maxLen) : Calls Tryz.prog 111 #[m.v v, k.v, .string t] w fun e w' => e = .returned (.tuple #[.bool (thB n m k t), .bool true]) ∧ Below w.heap.size w w' := by
  have HA := Lib.hid (fun W (hW : Below w.heap.size w W) => l9Asked_any m v k t W (h.to hW) hs hk ht)
  have hat := ha
  unfold askT at hat
  have hat2 := hat
  rw [Bool.and_eq_true] at hat2
  have HT := Lib.hid (fun W (hW : Below w.heap.size w W) => l11True_any m v k t n W hg (h.1.to hW) hat2.2)
  rw [hat] at HA
  obtain ⟨A, q, hv⟩ := h.form
  subst hv
  obtain ⟨p, hp⟩ : ∃ p, p = thB n m k t := ⟨_, rfl⟩
  rw [← hp] at HT ⊢
  clear h hp hg ha hat hat2
  unfold Mt.v Cl.v at *
  go_enter Tryz.func111, Tryz.ntmps111
  go_wp2_with fail
  refine box2 (C := fun W => Calls _ _ _ W _) ?_
  intro wb hw k1 k2 hB0
  have R1 := boxRule k1
  have R2 := boxRule k2
  clear k1 k2
  refine (HA.out _ hw).mono ?_; rintro e w1 ⟨rfl, hb1⟩
  have hw1 := bw_to hw hb1
  go_wp2_with fail
  refine (HT.out _ hw1).mono ?_; rintro e w2 ⟨rfl, hb2⟩
  go_wp2_with fail
  go_ret2
  exact ⟨rfl, bw_to hw1 hb2⟩
end Go.Proofs.YtjiiflpoiaaccaaGreat

/- The group that rows generate: the reference's. -/
namespace Go.Proofs.YtjiiflpoiaaccaaGreat
open Go Go.RowKit
set_option linter.unusedVariables false
set_option linter.unusedSimpArgs false

def grp8 (F : List ByteArray) : List ByteArray := if F.length ≤ 800 then sortB F else []
theorem grp8_yes {F : List ByteArray} (h : F.length ≤ 800) : grp8 F = sortB F := by unfold grp8; rw [if_pos h]
theorem grp8_no {F : List ByteArray} (h : ¬ F.length ≤ 800) : grp8 F = [] := by unfold grp8; rw [if_neg h]
theorem part_get8 {n : Nat} {gens : List ByteArray} {t : Nat} (h : t < (cloB n gens t).length) (j : Nat) (y : ByteArray) : (partB n gens t j y)[t]? = some (cloB n gens t)[t] := by
  obtain ⟨r, hr⟩ := exp_pre y (gens.take j) (cloB n gens t)
  unfold partB
  rw [← hr, List.getElem?_append_left h, List.getElem?_eq_getElem h]
/-- What the row of truths says of some rows. -/
def SeenOf (n : Nat) (f : Nat → Bool) (L : List ByteArray) : Prop := ∀ x, PermR n x → (f (placeB x) = true ↔ x ∈ L)
theorem SeenOf.put {n : Nat} {f : Nat → Bool} {L : List ByteArray} (h : SeenOf n f L) {x : ByteArray} (hx : PermR n x) : SeenOf n (fun j => if j = placeB x then true else f j) (L ++ [x]) := by
  intro z hz
  show (if placeB z = placeB x then true else f (placeB z)) = true ↔ _
  rw [List.mem_append, List.mem_singleton, ← h z hz]
  by_cases e : placeB z = placeB x
  · rw [if_pos e]; simp [place_inj hz hx e]
  · rw [if_neg e]
    constructor
    · exact .inl
    · rintro (h | rfl)
      · exact h
      · exact absurd rfl e
theorem SeenOf.none (n : Nat) : SeenOf n (fun _ => false) [] := fun x _ => by simp
set_option maxRecDepth 100000 in
set_option maxHeartbeats 8000000 in
theorem l6Close_any (n T : Nat) (gens : List ByteArray) (V : Value) (w : World) (hn : n ≤ 8) (hg : ∀ g ∈ gens, RowIn n g) (hgp : ∀ g ∈ gens, PermR n g) (hV : Strs w V gens) (hg0 : 1 ≤ gens.length) (hgl : gens.length ≤ 100) (hT : IsClo n gens T) (hTb : T ≤ 16777216) :
    Calls Tryz.prog 251 #[V] w fun e w' => ∃ A q, e = .returned (.tuple #[.slice A (grp8 (cloB n gens T)).length q, .bool (decide ((cloB n gens T).length ≤ 800))]) ∧ w'.ownsRow w.heap.size 9 1 (.slice A (grp8 (cloB n gens T)).length q) (grp8 (cloB n gens T)).length ((grp8 (cloB n gens T)).map Value.string) ∧ Below w.heap.size w w' := by
  have Hall := Lib.hid (clo_all (P := RowIn n) (n := n) (gens := gens) (rounds_in hn) (fun x g hx hg' => times_in hx (hg g hg')))
  have HallP := Lib.hid (clo_all (P := PermR n) (n := n) (gens := gens) (PermR.rounds hn) (fun x g hx hg' => hx.times hn (hgp g hg')))
  have HT := Lib.hid hT
  have Hg := Lib.hid hg
  have Hgp := Lib.hid hgp
  have Hyes := Lib.hid (fun h => grp8_yes (F := cloB n gens T) h)
  have Hno := Lib.hid (fun h => grp8_no (F := cloB n gens T) h)
  have hfl := fact_le hn
  have hfp := fact_pos n
  obtain ⟨A0, c0, rfl, hgc, hgm, hrd⟩ := hV
  unfold maxLen at hgm
  have hrs : (roundsB n).size = n := rounds_size hn
  have Hpr := Lib.hid (PermR.rounds hn)
  obtain ⟨ad0, hA0, hC0'⟩ := strs_el (k := 0) hrd (by omega)
  subst hA0
  have hg00 := hg _ (List.getElem_mem (show 0 < gens.length by omega))
  have h0 := hC0' w (Below.refl _ _)
  obtain ⟨g0, eg0⟩ : ∃ g, g = gens[0] := ⟨_, rfl⟩
  rw [← eg0] at h0 hg00
  have h0' := h0
  rw [add_zero'] at h0'
  have hg0s : g0.size = n := hg00.1
  clear hT hg hgp hC0' eg0 hg00
  go_enter Tryz.func251, Tryz.ntmps251
  go_wp2_with (go_at_call 139; refine (l1Rounds_any n _ hn).mono ?_; rintro e w' ⟨rfl, rfl⟩)
  refine (l6Seen_any n w hn).mono ?_; rintro e w1 ⟨rfl, hs1, hb1⟩
  obtain ⟨N, hN⟩ : ∃ N, N = factB n := ⟨_, rfl⟩
  have hplr : placeB (roundsB n) < N := by rw [hN]; exact place_lt Hpr.out
  have HplN : Hid (∀ x, PermR n x → placeB x < N) := Lib.hid (fun x hx => by rw [hN]; exact place_lt hx)
  have HpL := Lib.hid (fun W => l1Place_any n (roundsB n) W hn Hpr.out)
  rw [← hN] at hs1 hfl hfp ⊢
  have hNm : (N : Int) ≤ 9223372036854775807 := by omega
  obtain ⟨p0, hp0⟩ : ∃ p, p = placeB (roundsB n) := ⟨_, rfl⟩
  rw [← hp0] at hplr HpL
  have hs1c := Lib.hid hs1
  clear hN
  go_wp2_with fail
  refine (HpL.out _).mono ?_; rintro e w2 ⟨rfl, hb2⟩
  have hs2 := hs1c.out.to hb2
  have hc2 := hs2.cell hplr
  have hf2 := hs2.free p0
  have hs3 := hs2.set hplr
  have hseen0 : SeenOf n (fun j => if j = p0 then true else false) [roundsB n] := by
    have := (SeenOf.none n).put Hpr.out
    rw [← hp0] at this
    simpa using this
  have Hseen0 := Lib.hid hseen0
  have Hs3 := Lib.hid hs3
  have hB3 : Below w.heap.size w (w2.setCell ⟨w.heap.size, p0, none⟩ (.bool true)) := grow_set (bw_to hb1 hb2) (Nat.le_refl _) _
  have hwl : w.heap.size < w2.heap.size := hs2.lt.2
  clear hs1 hs2 hs3 hp0 hseen0
  go_wp2_with fail
  refine box1 (C := fun W => Code.wp _ _ _ _ W) ?_
  intro w4 hw4 k4 hB04
  have hsz24 : (w2.setCell ⟨w.heap.size, p0, none⟩ (.bool true)).heap.size = w2.heap.size := by simp [World.setCell]
  have hown0 : w4.ownsRow w2.heap.size 9 1 (.slice (some ⟨w2.heap.size, 0, none⟩) 1 1) 1 ([roundsB n].map Value.string) := by
    rw [hsz24] at k4
    exact own_of_heap k4 (Nat.le_refl _) (by unfold maxLen; omega) rfl
  have hs4 := Lib.hid (Hs3.out.to hw4)
  have hB4 := bw_to hB3 hw4
  have hs24 : w2.heap.size ≤ w4.heap.size := by have := hw4.size; omega
  obtain ⟨f0, hf0⟩ : ∃ f, f = (fun j => if j = p0 then true else false) := ⟨_, rfl⟩
  have hs4' : SB w4 w.heap.size w.heap.size N f0 := by rw [hf0]; exact hs4.out
  rw [← hf0] at Hseen0
  clear k4 hc2 hf2 hs4 Hs3 hf0 hw4 hB3 hsz24 hB04
  go_wp2_with fail
  go_loopw [6, 7] (fun o i wr => ∃ (t : Nat) (L : List ByteArray) (A : Option Addr) (q : Nat) (f : Nat → Bool), t ≤ T ∧ i = .int .i64 t ∧ L = cloB n gens t ∧ o = .slice A L.length q ∧ wr.ownsRow w2.heap.size 9 1 (.slice A L.length q) L.length (L.map Value.string) ∧ SB wr w.heap.size w.heap.size N f ∧ SeenOf n f L ∧ L.length ≤ 800 ∧ Below w.heap.size w wr ∧ w2.heap.size ≤ wr.heap.size) (fun _ i _ => T + 1 - (intOf i).toNat)
  case atStart => exact ⟨0, [roundsB n], _, 1, f0, by omega, rfl, rfl, rfl, hown0, hs4', Hseen0.out, by simp, hB4, hs24⟩
  case round =>
    obtain ⟨t, L, A, q, f, ht, rfl, hL, rfl, hown, hm, hf, hl, hB, hsz⟩ := hrel
    have hlq := sl_cap hown
    have HL := Lib.hid hL
    have Hf := Lib.hid hf
    have Hm := Lib.hid hm
    clear hL hf hm hs4' hown0
    by_cases hlt : t < L.length
    · have htT : t < T := by
        rcases Nat.lt_or_ge t T with h | h
        · exact h
        · have e : t = T := by omega
          have := HT.out.1
          rw [← e, ← HL.out] at this; omega
      have hlt' : t < (cloB n gens t).length := by rw [← HL.out]; exact hlt
      obtain ⟨y, hy⟩ : ∃ y, y = (cloB n gens t)[t] := ⟨_, rfl⟩
      have Hy : Hid (RowIn n y) := Lib.hid (by rw [hy]; exact Hall.out t _ (List.getElem_mem hlt'))
      have HyP : Hid (PermR n y) := Lib.hid (by rw [hy]; exact HallP.out t _ (List.getElem_mem hlt'))
      have Hpl : Hid (∀ j, (partB n gens t j y).length ≤ (cloB n gens T).length) := Lib.hid (fun j => by rw [hy]; exact part_len HT.out htT)
      have Hpg : Hid (∀ j, (partB n gens t j y)[t]? = some y) := Lib.hid (fun j => by rw [part_get8 hlt' j y, hy])
      have Hpa : Hid (partB n gens t gens.length y = cloB n gens (t + 1)) := Lib.hid (by rw [hy]; exact part_all hlt')
      have Hp0 : Hid (L = partB n gens t 0 y) := Lib.hid HL.out
      clear hy hlt'
      go_wp2_with fail
      obtain ⟨wo, rfl⟩ : ∃ wo : World, wo = wr := ⟨_, rfl⟩
      go_loopw [6, 33] (fun o i wr => ∃ (j : Nat) (L : List ByteArray) (A : Option Addr) (q : Nat) (f : Nat → Bool), j ≤ gens.length ∧ i = .int .i64 j ∧ L = partB n gens t j y ∧ o = .slice A L.length q ∧ wr.ownsRow w2.heap.size 9 1 (.slice A L.length q) L.length (L.map Value.string) ∧ SB wr w.heap.size w.heap.size N f ∧ SeenOf n f L ∧ L.length ≤ 800 + j ∧ Below w.heap.size w wr ∧ w2.heap.size ≤ wr.heap.size) (fun _ i _ => gens.length - (intOf i).toNat)
      case atStart => exact ⟨0, L, A, q, f, by omega, rfl, Hp0.out, rfl, hown, Hm.out, Hf.out, by omega, hB, hsz⟩
      case round =>
        clear hown hlq hl hlt HL Hf Hm Hp0
        obtain ⟨j, L, A, q, f, hj, rfl, hL, rfl, hown, hm, hf, hl, hB, hsz⟩ := hrel
        have hlq := sl_cap hown
        have HL := Lib.hid hL
        clear hL
        by_cases hlt : j < gens.length
        · obtain ⟨ad, eA, hC⟩ := strs_el hrd hlt
          cases eA
          have hC0 := hC _ hB
          have hgin := Hg.out _ (List.getElem_mem hlt)
          have hgpe := Hgp.out _ (List.getElem_mem hlt)
          obtain ⟨A', c', e', hx1, hx2, hrdL⟩ := sl_of_own hown
          injection e' with ea _ ec
          subst ea ec
          have htL : t < L.length := by
            have h := Hpg.out j
            rw [← HL.out] at h
            exact (List.getElem?_eq_some_iff.1 h).1
          obtain ⟨ad2, rfl, hC2⟩ := strs_el hrdL htL
          have hC20 := hC2 _ (Below.refl _ _)
          have ey : L[t] = y := by
            have h := Hpg.out j
            rw [← HL.out] at h
            exact (List.getElem?_eq_some_iff.1 h).2
          rw [ey] at hC20
          obtain ⟨g, eg⟩ : ∃ g, g = gens[j] := ⟨_, rfl⟩
          have Hps : Hid (partB n gens t (j + 1) y = visitB L (timesB y g)) := Lib.hid (by rw [part_succ hlt, ← HL.out, eg])
          rw [← eg] at hC0 hgin hgpe
          have Hti := Lib.hid (HyP.out.times hn hgpe)
          have Htm := Lib.hid (fun W => l1Times_any y g W (by rw [Hy.out.1]; omega) (by rw [hgin.1]; omega) (row_hin Hy.out.1 hgin))
          have hownH := Lib.hid hown
          have Hm := Lib.hid hm
          have Hf := Lib.hid hf
          clear hC hC2 ey eg hgin hgpe hrdL hx2 hown hm hf
          go_wp2_with (go_at_call 229; refine (Htm.out _).mono ?_; rintro e w' ⟨rfl, rfl⟩)
          obtain ⟨x, hx⟩ : ∃ x, x = timesB y g := ⟨_, rfl⟩
          rw [← hx] at Hps Hti ⊢
          have Hpx := Lib.hid (fun W => l1Place_any n x W hn Hti.out)
          have hpxN := HplN.out x Hti.out
          have Hfx := Lib.hid (Hf.out x Hti.out)
          obtain ⟨p, hp⟩ : ∃ p, p = placeB x := ⟨_, rfl⟩
          rw [← hp] at Hpx hpxN Hfx
          have Hput : Hid (SeenOf n (fun j => if j = p then true else f j) (L ++ [x])) := Lib.hid (by rw [hp]; exact Hf.out.put Hti.out)
          clear hx hp
          refine (Hpx.out _).mono ?_; rintro e w5 ⟨rfl, hb5⟩
          have hm5 := Hm.out.to hb5
          have hown5 := own_to hownH.out hb5
          have hB5 := bw_to hB hb5
          have hsz5 : w2.heap.size ≤ w5.heap.size := Nat.le_trans hsz hb5.size
          have hc5 := hm5.cell hpxN
          have Hm5 := Lib.hid hm5
          clear hm5
          cases hb : f p
          · rw [hb] at hc5
            have hnm : x ∉ L := fun h => by rw [Hfx.out.2 h] at hb; cases hb
            have Hv : Hid (partB n gens t (j + 1) y = L ++ [x]) := Lib.hid (by rw [Hps.out]; unfold visitB; rw [if_neg hnm])
            have Hown5 := Lib.hid hown5
            clear hnm hown5
            go_wp2_with fail
            refine (Hpx.out _).mono ?_; rintro e w6 ⟨rfl, hb6⟩
            have hm6 := Hm5.out.to hb6
            have hc6 := hm6.cell hpxN
            have hf6 := hm6.free p
            have hs6 := hm6.set hpxN
            have hown6 := own_past (own_to Hown5.out hb6) hwl p (.bool true)
            have hB6 : Below w.heap.size w (w6.setCell ⟨w.heap.size, p, none⟩ (.bool true)) := grow_set (bw_to hB5 hb6) (Nat.le_refl _) _
            have hsz6 : w2.heap.size ≤ (w6.setCell ⟨w.heap.size, p, none⟩ (.bool true)).heap.size := by simp [World.setCell]; exact Nat.le_trans hsz5 hb6.size
            have Hs6 := Lib.hid hs6
            clear hm6 hs6
            go_wp2_with (at_builtin; go_must (refine wpList_app_at _ rfl _ _ _ rfl w2.heap.size 9 _ 1 16 Tryz.underlying22 info_str rfl (by omega) hown6 [.string x] rfl rfl rfl (by simp [World.setCell]) (one_mem rfl) (by omega) (by omega) hsz6 ?_); intro v7 w7 hown7 hb7 hg7 _)
            obtain ⟨A7, q7, e7, _⟩ := sl_of_own hown7
            subst e7
            have hm7 : SB w7 w.heap.size w.heap.size N (fun j => if j = p then true else f j) := World.ownsRow.kept Hs6.out hg7 (.inr (fun e => by have := (hown6.lt w.heap.size e.symm).1; omega))
            rw [str_snoc (rfl : L ++ [x] = L ++ [x])] at hown7
            have e8 : (L ++ [x]).length = L.length + 1 := by simp
            exact ⟨⟨j + 1, L ++ [x], A7, q7, _, by omega, by go_num, Hv.out.symm, by rw [e8], by rw [e8]; exact hown7, hm7, Hput.out, by rw [e8]; omega, hB6.trans (hb7.mono (by omega)), by have := hg7.size; omega⟩, by simp [intOf]; omega⟩
          · rw [hb] at hc5
            have hmem := Hfx.out.1 hb
            have Hv : Hid (partB n gens t (j + 1) y = L) := Lib.hid (by rw [Hps.out]; unfold visitB; rw [if_pos hmem])
            clear hmem
            go_wp2_with fail
            exact ⟨⟨j + 1, L, _, q, f, by omega, by go_num, Hv.out.symm, rfl, hown5, Hm5.out, Hf.out, by omega, hB5, hsz5⟩, by simp [intOf]; omega⟩
        · obtain rfl : j = gens.length := by omega
          have Hm := Lib.hid hm
          have Hf := Lib.hid hf
          have HL2 : Hid (L = cloB n gens (t + 1)) := Lib.hid (by rw [HL.out, Hpa.out])
          clear hm hf
          by_cases h800 : L.length ≤ 800
          · have hd : decide ((800 : Int) < (L.length : Int)) = false := decide_eq_false (by omega)
            go_wp2_with fail
            exact ⟨⟨t + 1, L, A, q, f, by omega, by go_num, HL2.out, rfl, hown, Hm.out, Hf.out, by omega, hB, hsz⟩, by simp [intOf]; omega⟩
          · have hd : decide ((800 : Int) < (L.length : Int)) = true := decide_eq_true (by omega)
            have HF : Hid (¬ (cloB n gens T).length ≤ 800) := Lib.hid (by
              have h := clo_len_mono (n := n) (gens := gens) (show t + 1 ≤ T by omega)
              rw [← HL2.out] at h
              omega)
            have hdd := Lib.hid (decide_eq_false HF.out)
            have HE := Lib.hid (Hno.out HF.out)
            clear hown
            go_wp2_with fail
            go_ret2
            refine ⟨none, 0, by rw [hdd.out, HE.out]; rfl, by rw [HE.out]; exact World.ownsRow_nil _ _ _ _, hB⟩
    · have htT : t = T := by
        rcases Nat.lt_or_ge t T with h | h
        · have := HT.out.2 t h; rw [← HL.out] at this; omega
        · omega
      subst htT
      have hF : (cloB n gens t).length ≤ 800 := by rw [← HL.out]; exact hl
      have hdd := Lib.hid (decide_eq_true hF)
      have HE := Lib.hid (Hyes.out hF)
      have Hso := Lib.hid (l6Sort_any (.slice A L.length q) L wr (by omega) (strs_of_own hown) (nilok_own hown))
      clear hown hF
      go_wp2_with fail
      refine Hso.out.mono ?_; rintro e w8 ⟨A8, q8, rfl, hown8, hb8⟩
      have Hown8 := Lib.hid hown8
      clear hown8
      go_wp2_with fail
      go_ret2
      have e9 : (grp8 (cloB n gens t)).length = L.length := by rw [HE.out, sortB_len, ← HL.out]
      refine ⟨A8, q8, by rw [hdd.out, e9]; rfl, ?_, bw_to hB hb8⟩
      rw [e9, HE.out, ← HL.out]
      exact own_base Hown8.out (by omega)
end Go.Proofs.YtjiiflpoiaaccaaGreat

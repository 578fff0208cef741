/- Contracts: the reference's heads of a proof. -/
import Derived.Test.YtajffjkmmenaoaaGreatPk33
import Derived.Test.YtajffjkmmenaoaaGreatPk21
import Derived.Test.YtajffjkmmenaoaaGreatPk20
import Derived.Test.YtajffjkmmenaoaaGreatPk34
namespace Go.Proofs.YtajffjkmmenaoaaGreat
open Go Go.RowKit
set_option linter.unusedVariables false
set_option linter.unusedSimpArgs false

theorem callC_three {c : UInt8} (h : callC c = true) : c = 112 ∨ c = 98 ∨ c = 115 := by
  unfold callC at h
  simp only [Bool.or_eq_true, decide_eq_true_eq] at h
  rcases h with (h | h) | h
  · exact .inl (UInt8.toNat_inj.1 (by show c.toNat = 112; omega))
  · exact .inr (.inl (UInt8.toNat_inj.1 (by show c.toNat = 98; omega)))
  · exact .inr (.inr (UInt8.toNat_inj.1 (by show c.toNat = 115; omega)))
theorem l8CallQ_any (c : UInt8) (hc : callC c = true) (w : World) : Calls Tryz.prog 130 #[.string (callT c)] w fun e w' => e = .returned (.bool true) ∧ w = w' := by
  rcases callC_three hc with rfl | rfl | rfl
  · unfold callT
    go_enter Tryz.func130, Tryz.ntmps130
    go_wp2_with fail
    go_ret
    exact ⟨rfl, rfl⟩
  · unfold callT
    go_enter Tryz.func130, Tryz.ntmps130
    go_wp2_with fail
    go_ret
    exact ⟨rfl, rfl⟩
  · unfold callT
    go_enter Tryz.func130, Tryz.ntmps130
    go_wp2_with fail
    go_ret
    exact ⟨rfl, rfl⟩
set_option maxHeartbeats 2000000 in
theorem l8AskedQ_any (m : Mt) (v : Value) (k : Cl) (c : UInt8) (hc : callC c = true) (w : World) (h : MethAt w m v) (hs : MtSmall m) (hk : ClSmall k) : Calls Tryz.prog 102 #[m.v v, k.v, .string (callT c)] w fun e w' => e = .returned (.bool (callsB m k)) ∧ Below w.heap.size w w' := by
  have HM := Lib.hid (fun W (hW : Below w.heap.size w W) => l8Good_any m v k W (h.to hW) hs hk)
  have HC := Lib.hid (fun W => l8CallQ_any c hc W)
  obtain ⟨A, q, hv⟩ := h.form
  subst hv
  obtain ⟨p, hp⟩ : ∃ p, p = callsB m k := ⟨_, rfl⟩
  rw [← hp] at HM ⊢
  clear h hp hc
  unfold Mt.v Cl.v at *
  go_enter Tryz.func102, Tryz.ntmps102
  go_wp2_with fail
  refine box2 (C := fun W => Calls _ _ _ W _) ?_
  intro wb hw k1 k2 hB0
  have R1 := boxRule k1
  have R2 := boxRule k2
  clear k1 k2
  refine (HM.out _ hw).mono ?_; rintro e w1 ⟨rfl, hb1⟩
  cases p
  · go_wp2_with fail
    go_ret
    exact ⟨rfl, bw_to hw hb1⟩
  · go_wp2_with (go_at_call 130; refine (HC.out _).mono ?_; rintro e w' ⟨rfl, rfl⟩)
    go_ret
    exact ⟨rfl, bw_to hw hb1⟩
set_option maxHeartbeats 2000000 in
theorem specCallHeadQ_yes (m : Mt) (v : Value) (k : Cl) (n : Nat) (c : UInt8) (hc : callC c = true) (w : World) (hg : CGood m k n) (hok : callsB m k = true) (h : MethAt w m v) (hs : MtSmall m) (hk : ClSmall k) : Calls Tryz.prog 59 #[m.v v, k.v, .string (callT c)] w fun e w' => e = .returned (.tuple #[.string (headB n m.l k.bob k.single c), .bool true]) ∧ Below w.heap.size w w' := by
  have HM := Lib.hid (fun W (hW : Below w.heap.size w W) => l8AskedQ_any m v k c hc W (h.to hW) hs hk)
  have HH := Lib.hid (fun W (hW : Below w.heap.size w W) => l8Head_any m v k n c W hg (h.1.to hW))
  rw [hok] at HM
  obtain ⟨A, q, hv⟩ := h.form
  subst hv
  clear h hc
  unfold Mt.v Cl.v at *
  go_enter Tryz.func59, Tryz.ntmps59
  go_wp2_with fail
  refine box2 (C := fun W => Calls _ _ _ W _) ?_
  intro wb hw k1 k2 hB0
  have R1 := boxRule k1
  have R2 := boxRule k2
  clear k1 k2
  refine (HM.out _ hw).mono ?_; rintro e w1 ⟨rfl, hb1⟩
  have hB1 := bw_to hw hb1
  go_wp2_with fail
  refine (HH.out _ hB1).mono ?_; rintro e w2 ⟨rfl, hb2⟩
  go_wp2_with fail
  go_ret2
  exact ⟨rfl, bw_to hB1 hb2⟩
set_option maxRecDepth 10000 in
set_option maxHeartbeats 4000000 in
theorem l20Heads_any (m : Mt) (v : Value) (k : Cl) (t : ByteArray) (n : Nat) (w : World) (hg : CGood m k n) (hok : callsB m k = true) (hM : MethAt w m v) (hsm : MtSmall m) (hk : ClSmall k) (ht : touchB t.data.toList = true) : Calls Tryz.prog 26 #[m.v v, k.v, .string t] w fun e w' =>
    ∃ A q, e = .returned (.slice A (t.size + 1) q) ∧ w'.ownsRow w.heap.size 9 1 (.slice A (t.size + 1) q) (t.size + 1) ((headsB (headB n m.l k.bob k.single) (roundsB n) t.data.toList).map Value.string) ∧ Below w.heap.size w w' := by
  have hfin : ∀ c, RowIn n (headB n m.l k.bob k.single c) := fun c => head_in hg.m.hi _ _ _ _
  have hHH := fun W (hW : Below w.heap.size w W) c hc => specCallHeadQ_yes m v k n c hc W hg hok (hM.to hW) hsm hk
  have hv := hM.1
  have hall : t.data.toList.all callC = true := by unfold touchB at ht; rw [Bool.and_eq_true] at ht; exact ht.1
  have Hall := Lib.hid hall
  obtain ⟨F, hF⟩ : ∃ F, F = headB n m.l k.bob k.single := ⟨_, rfl⟩
  rw [← hF] at hfin ⊢
  have Hfin := Lib.hid hfin
  have hHH2 : ∀ W, Below w.heap.size w W → ∀ c, callC c = true → Calls Tryz.prog 59 #[m.v v, k.v, .string (callT c)] W fun e w' => e = .returned (.tuple #[.string (F c), .bool true]) ∧ Below W.heap.size W w' := by rw [hF]; exact hHH
  have hn := hg.m.hi
  have hst := hg.m.st
  obtain ⟨A, q, hv', _⟩ := hv
  subst hv'
  unfold Mt.v Cl.v at *
  rw [hst] at hHH2 ⊢
  have HH := Lib.hid hHH2
  have htl := (touch_size ht).2
  clear hg hfin hF hHH hHH2 hst ht hok hM hsm hk hall
  go_enter Tryz.func26, Tryz.ntmps26
  go_wp2_with (go_at_call 30; refine (l1Rounds_any n _ hn).mono ?_; rintro e w' ⟨rfl, rfl⟩)
  refine box3 (C := fun W => Code.wp _ _ _ _ W) ?_
  intro wb hw k1 k2 k3 hB0
  have hown0 : wb.ownsRow (w.heap.size + 2) 9 1 (.slice (some ⟨w.heap.size + 2, 0, none⟩) 1 1) 1 [.string (roundsB n)] := own_of_heap k3 (Nat.le_refl _) (by unfold maxLen; omega) rfl
  have hsz : w.heap.size + 2 ≤ wb.heap.size := Nat.le_of_lt (blk_lt k3)
  have R1 := fun W i hb => boxRuleB (B := w.heap.size + 2) k1 (by omega) W i hb
  have R2 := fun W i hb => boxRuleB (B := w.heap.size + 2) k2 (by omega) W i hb
  have hrin := Lib.hid (rounds_in hn)
  clear k1 k2 k3
  go_loopw [7, 8, 9] (fun h o i wr => ∃ (j : Nat) (x : ByteArray) (A' : Option Addr) (q' : Nat), j ≤ t.size ∧ i = .int .i64 j ∧ h = .string x ∧ x = endB F (roundsB n) (t.data.toList.take j) ∧ o = .slice A' (j + 1) q' ∧ wr.ownsRow (w.heap.size + 2) 9 1 (.slice A' (j + 1) q') (j + 1) ((headsB F (roundsB n) (t.data.toList.take j)).map Value.string) ∧ Below (w.heap.size + 2) wb wr) (fun _ _ i _ => t.size - (intOf i).toNat)
  case atStart => exact ⟨0, _, _, 1, by omega, rfl, rfl, rfl, rfl, hown0, Below.refl _ _⟩
  case round =>
    obtain ⟨j, x, A', q', hj, rfl, rfl, hx, rfl, hown, hB⟩ := hrel
    obtain ⟨wo, rfl⟩ : ∃ wo : World, wo = wr := ⟨_, rfl⟩
    have hBw : Below w.heap.size w wo := hw.trans (hB.mono (by omega))
    by_cases hlt : j < t.size
    · have hlt' : j < t.data.toList.length := by rw [bytes_len]; exact hlt
      have hxin : RowIn n x := by rw [hx]; exact end_in Hfin.out _ hrin.out
      have Hx : Hid (timesB x (F t[j]) = endB F (roundsB n) (t.data.toList.take (j + 1))) := Lib.hid (by rw [end_take hlt', hx, bytes_get t j hlt])
      have Hs : Hid (headsB F (roundsB n) (t.data.toList.take (j + 1)) = headsB F (roundsB n) (t.data.toList.take j) ++ [timesB x (F t[j])]) := Lib.hid (by rw [heads_take hlt', Hx.out])
      have Htm := Lib.hid (fun W => l1Times_any x (F t[j]) W (by rw [hxin.1]; omega) (by rw [(Hfin.out t[j]).1]; omega) (row_hin hxin.1 (Hfin.out t[j])))
      have hex : t.extract j (j + 1) = callT t[j] := bytes_ext (by rw [← bytes_toList, ext_one hlt]; rfl)
      have hcc : callC t[j] = true := by have h := List.all_eq_true.1 Hall.out _ (List.getElem_mem hlt'); rw [bytes_get t j hlt] at h; exact h
      have Hc : Hid (∀ W, Below w.heap.size w W → Calls Tryz.prog 59 #[.agg #[.string m.name, .int .i64 (n : Int), .slice A m.l.length q], .agg #[.string k.bob, .string k.single], .string (t.extract j (j + 1))] W fun e w' => e = .returned (.tuple #[.string (F t[j]), .bool true]) ∧ Below W.heap.size W w') := Lib.hid (fun W hW => by rw [hex]; exact HH.out W hW t[j] hcc)
      obtain ⟨z, hz⟩ : ∃ z, z = F t[j] := ⟨_, rfl⟩
      rw [← hz] at Hx Hs Htm Hc
      have R1' := fun W i hb => R1 W i (hB.trans (hb : Below (w.heap.size + 2) wo W))
      have R2' := fun W i hb => R2 W i (hB.trans (hb : Below (w.heap.size + 2) wo W))
      have hdr : Below wo.heap.size wo wo.drew := Below.drew (Below.refl _ _)
      have hsz2 : w.heap.size + 2 ≤ wo.heap.size := by have := hB.size; omega
      have R3 := fun W i hb => R1' W i ((hb : Below wo.heap.size wo W).mono hsz2)
      have R4 := fun W i hb => R2' W i ((hb : Below wo.heap.size wo W).mono hsz2)
      have hj0 : (0 : Int) ≤ (j : Int) := by omega
      have hj1 : IntKind.i64.wrap ((j : Int) + 1) = (j : Int) + 1 := IntWalk.i64_in _ ⟨by omega, by omega⟩
      have hj2 : ((j : Int) + 1).toNat = j + 1 := by omega
      have hj3 : (j : Int) + 1 ≤ (t.size : Int) := by omega
      have hj4 : (j : Int) ≤ (j : Int) + 1 := by omega
      have hj5 : (0 : Int) ≤ (j : Int) + 1 := by omega
      clear hz hxin hx hex R1' R2' hcc
      obtain ⟨y, hy⟩ : ∃ y, y = timesB x z := ⟨_, rfl⟩
      simp only [← hy] at Hx Hs Htm
      clear hy
      have R1s := Lib.hid R1
      have R2s := Lib.hid R2
      clear R1 R2
      go_wp2_with fail
      go_region_held3 (fun W => Below wo.heap.size wo W) (first | with_reducible assumption | exact Below.drew (by assumption) | exact bw_to (by assumption) hb')
        (first | (go_at_call 59; refine (Hc.out _ (bw_to hBw (by assumption))).mono ?_; rintro e w' ⟨rfl, hb'⟩))
      all_goals
        have hBB : Below wo.heap.size wo w' := by assumption
        have hown2 := own_to hown hBB
        have hB2 := hB.trans (hBB.mono hsz2)
        clear R3 R4 hj1 hj2 hj3 hj4 hj5 hdr
        go_wp2_with (first | (go_at_call 60; refine (Htm.out _).mono ?_; rintro e w7 ⟨rfl, rfl⟩) | (at_builtin; go_must (refine wpList_app _ rfl _ _ _ rfl (w.heap.size + 2) 9 _ 1 16 Tryz.underlying24 info_str rfl (by omega) hown2 [.string y] rfl rfl rfl (one_mem rfl) (by omega) (by omega) (by have := hB2.size; omega) ?_); intro v2 w3 hown3 hb3 hg3 _))
        obtain ⟨A2, q2, e2, _⟩ := sl_of_own hown3
        subst e2
        refine ⟨⟨j + 1, y, A2, q2, by omega, by go_num, rfl, Hx.out, rfl, ?_, hB2.trans hb3⟩, by simp [intOf]; omega⟩
        rw [← str_snoc Hs.out]
        exact hown3
    · obtain rfl : j = t.size := by omega
      rw [List.take_of_length_le (by rw [bytes_len]; exact Nat.le_refl _)] at hown
      clear hx
      go_wp2_with fail
      go_ret
      exact ⟨_, _, rfl, own_base hown (by omega), hBw⟩
end Go.Proofs.YtajffjkmmenaoaaGreat

/- Truth by lead heads: the reference's. -/
namespace Go.Proofs.YtajffjkmmenaoaaGreat
open Go Go.RowKit
set_option linter.unusedVariables false
set_option linter.unusedSimpArgs false

set_option maxHeartbeats 2000000 in
theorem l1HasQ_any (V : Value) (l : List ByteArray) (r : ByteArray) (w : World) (hV : Strs w V l) : Calls Tryz.prog 118 #[V, .string r] w fun e w' => e = .returned (.bool (decide (r ∈ l))) ∧ w = w' := by
  obtain ⟨A, c, rfl, h1, h2, hrd⟩ := hV
  unfold maxLen at h2
  go_enter Tryz.func118, Tryz.ntmps118
  go_wp2_with fail
  go_loop [9] (fun i => ∃ k : Nat, k ≤ l.length ∧ i = .int .i64 k ∧ r ∉ l.take k) (fun i => l.length - (intOf i).toNat)
  case atStart => exact ⟨0, by omega, rfl, by simp⟩
  case round =>
    obtain ⟨k, hk, rfl, hn⟩ := hrel
    have Hn := Lib.hid hn
    clear hn
    by_cases hlt : k < l.length
    · obtain ⟨ad, rfl, hC⟩ := strs_el hrd hlt
      have hC0 := hC w (Below.refl _ _)
      have He := Lib.hid (str_beq l[k] r)
      have Hno : Hid (l[k] ≠ r → r ∉ l.take (k + 1)) := Lib.hid (fun h hm => by
        rw [List.take_succ_eq_append_getElem hlt, List.mem_append, List.mem_singleton] at hm
        rcases hm with hm | hm
        · exact Hn.out hm
        · exact h hm.symm)
      have Hyes : Hid (l[k] = r → r ∈ l) := Lib.hid (fun h => by rw [← h]; exact List.getElem_mem hlt)
      obtain ⟨x, hx⟩ : ∃ x, x = l[k] := ⟨_, rfl⟩
      rw [← hx] at hC0 He Hno Hyes
      clear hC hx
      cases hb : (x.toList == r.toList)
      · have Hne : Hid (x ≠ r) := Lib.hid (fun e => by rw [He.out, decide_eq_true e] at hb; cases hb)
        go_wp2_with fail
        exact ⟨⟨k + 1, by omega, by go_num, Hno.out Hne.out⟩, by simp [intOf]; omega⟩
      · have Hd := Lib.hid (decide_eq_true (Hyes.out (by rw [He.out] at hb; exact of_decide_eq_true hb)))
        go_wp2_with fail
        go_ret
        exact ⟨ret_bool Hd.out.symm, rfl⟩
    · have Hd := Lib.hid (decide_eq_false (fun h : r ∈ l => Hn.out (by rw [List.take_of_length_le (by omega)]; exact h)))
      go_wp2_with fail
      go_ret
      exact ⟨ret_bool Hd.out.symm, rfl⟩
end Go.Proofs.YtajffjkmmenaoaaGreat

/- Truth by lead heads: the reference's, whole. -/
namespace Go.Proofs.YtajffjkmmenaoaaGreat
open Go Go.RowKit
set_option linter.unusedVariables false
set_option linter.unusedSimpArgs false

theorem wpOp_inQ {P : Program} {ops : Array Oper} {Q : Exit → Act → World → Prop} {i : Nat} {o : Oper} {K : Act → World → Prop} {a : Act} {w : World} (ho : ops[i]? = some o) (hw : Region.wanted o (yielded ops a.tmps) = true) (h : o.wp P a w K Q) : wpOp P ops Q i K a w := by
  unfold wpOp
  simp only [ho, hw, if_true]
  exact .inl h
end Go.Proofs.YtajffjkmmenaoaaGreat

/- Contracts: the making of a proof, the reference's. -/
namespace Go.Proofs.YtajffjkmmenaoaaGreat
open Go Go.RowKit
set_option linter.unusedVariables false
set_option linter.unusedSimpArgs false

set_option maxHeartbeats 1000000 in
theorem specGoodCalls_any (m : Mt) (v : Value) (k : Cl) (w : World) (h : MethAt w m v) (hs : MtSmall m) (hk : ClSmall k) : Calls Tryz.prog 57 #[m.v v, k.v] w fun e w' => e = .returned (.bool (callsB m k)) ∧ Below w.heap.size w w' := by
  have HM := Lib.hid (fun W (hW : Below w.heap.size w W) => l8Good_any m v k W (h.to hW) hs hk)
  obtain ⟨A, q, hv⟩ := h.form
  subst hv
  obtain ⟨p, hp⟩ : ∃ p, p = callsB m k := ⟨_, rfl⟩
  rw [← hp] at HM ⊢
  clear h hp
  unfold Mt.v Cl.v at *
  go_enter Tryz.func57, Tryz.ntmps57
  go_wp2_with fail
  refine box2 (C := fun W => Calls _ _ _ W _) ?_
  intro wb hw k1 k2 hB0
  have R1 := boxRule k1
  have R2 := boxRule k2
  clear k1 k2
  refine (HM.out _ hw).mono ?_; rintro e w1 ⟨rfl, hb1⟩
  go_wp2_with fail
  go_ret
  exact ⟨rfl, bw_to hw hb1⟩
set_option maxHeartbeats 1000000 in
theorem specGoodTouch_any (s : ByteArray) (w : World) (hs : s.size ≤ maxLen) : Calls Tryz.prog 58 #[.string s] w fun e w' => e = .returned (.bool (touchB s.data.toList)) ∧ w = w' := by
  have H := Lib.hid (fun W => l9Good_any s W hs)
  obtain ⟨p, hp⟩ : ∃ p, p = touchB s.data.toList := ⟨_, rfl⟩
  simp only [← hp] at H ⊢
  clear hp
  go_enter Tryz.func58, Tryz.ntmps58
  go_wp2_with (go_at_call 101; refine (H.out _).mono ?_; rintro e w' ⟨rfl, rfl⟩)
  go_ret
  exact ⟨rfl, rfl⟩
theorem asked_and {m : Mt} {k : Cl} : (methB m && callsB m k) = callsB m k := by
  unfold callsB
  cases methB m <;> simp
set_option maxHeartbeats 2000000 in
theorem l20Asked_any (m : Mt) (v : Value) (k : Cl) (t : ByteArray) (w : World) (h : MethAt w m v) (hs : MtSmall m) (hk : ClSmall k) (ht : t.size ≤ maxLen) : Calls Tryz.prog 25 #[m.v v, k.v, .string t] w fun e w' => e = .returned (.bool (askT m k t)) ∧ Below w.heap.size w w' := by
  have HG := Lib.hid (fun W (hW : Below w.heap.size w W) => l4Good_any m v W (h.to hW) hs)
  have HM := Lib.hid (fun W (hW : Below w.heap.size w W) => specGoodCalls_any m v k W (h.to hW) hs hk)
  have HT := Lib.hid (fun W => specGoodTouch_any t W ht)
  have HD : Hid (askT m k t = ((methB m && callsB m k) && touchB t.data.toList)) := Lib.hid (by rw [asked_and]; rfl)
  obtain ⟨A, q, hv⟩ := h.form
  subst hv
  obtain ⟨p, hp⟩ : ∃ p, p = callsB m k := ⟨_, rfl⟩
  obtain ⟨o, ho⟩ : ∃ p, p = methB m := ⟨_, rfl⟩
  obtain ⟨u, hu⟩ : ∃ p, p = touchB t.data.toList := ⟨_, rfl⟩
  simp only [← hp, ← ho, ← hu] at HG HM HT HD
  rw [HD.out]
  clear h hp ho hu HD
  unfold Mt.v Cl.v at *
  go_enter Tryz.func25, Tryz.ntmps25
  go_wp2_with fail
  refine box2 (C := fun W => Calls _ _ _ W _) ?_
  intro wb hw k1 k2 hB0
  have R1 := boxRule k1
  have R2 := boxRule k2
  clear k1 k2
  refine (HG.out _ hw).mono ?_; rintro e w1 ⟨rfl, hb1⟩
  have hw1 := bw_to hw hb1
  cases o
  · go_wp2_with fail
    go_ret
    exact ⟨rfl, hw1⟩
  · go_wp2_with fail
    refine (HM.out _ hw1).mono ?_; rintro e w2 ⟨rfl, hb2⟩
    have hw2 := bw_to hw1 hb2
    cases p
    · go_wp2_with fail
      go_ret
      exact ⟨rfl, hw2⟩
    · go_wp2_with (go_at_call 58; refine (HT.out _).mono ?_; rintro e w' ⟨rfl, rfl⟩)
      go_ret
      exact ⟨by simp, hw2⟩
end Go.Proofs.YtajffjkmmenaoaaGreat

/- The making of a proof, the reference's: plain facts, a row of numbers of the call's own. -/
namespace Go.Proofs.YtajffjkmmenaoaaGreat
open Go Go.RowKit
set_option linter.unusedVariables false
set_option linter.unusedSimpArgs false

theorem scan_perm {n : Nat} (hn : n ≤ 8) : ∀ (cs : List ByteArray) {r : ByteArray}, RowIn n r → PermR n r → ∀ x ∈ scanB r cs, PermR n x
  | [], r, hi, hr, x, hx => by rw [List.mem_singleton.1 hx]; exact hr
  | c :: cs, r, hi, hr, x, hx => by
    rw [scanB] at hx
    rcases List.mem_cons.1 hx with rfl | hx
    · exact hr
    · exact scan_perm hn cs (apply_in hn hi c) (run_perm hn [c] hi hr) x hx
theorem lead_permL {n : Nat} (hn : n ≤ 8) (cs : List ByteArray) {r : ByteArray} (hi : RowIn n r) (hr : PermR n r) : ∀ x ∈ leadB r cs, PermR n x := fun x hx => scan_perm hn cs hi hr x (List.mem_of_mem_take hx)
theorem heads_perm {n : Nat} (hn : n ≤ 8) {f : UInt8 → ByteArray} (hf : ∀ c, PermR n (f c)) : ∀ (t : List UInt8) {h : ByteArray}, PermR n h → ∀ x ∈ headsB f h t, PermR n x
  | [], h, hh, x, hx => by rw [List.mem_singleton.1 hx]; exact hh
  | c :: t, h, hh, x, hx => by
    rw [headsB] at hx
    rcases List.mem_cons.1 hx with rfl | hx
    · exact hh
    · exact heads_perm hn hf t (PermR.times hn hh (hf c)) x hx
theorem headsT_perm {m : Mt} {k : Cl} {n : Nat} (h : MGood m n) (t : ByteArray) : ∀ x ∈ headsT m k t, PermR n x := by
  rw [headsT_n h.st]
  exact heads_perm h.hi (fun c => run_perm h.hi _ (rounds_in h.hi) (PermR.rounds h.hi)) _ (PermR.rounds h.hi)
theorem rowsT_perm {m : Mt} {k : Cl} {n : Nat} (h : MGood m n) (t : ByteArray) : ∀ x ∈ rowsT m k t, PermR n x := by
  intro x hx
  unfold rowsT rowsB at hx
  obtain ⟨y, hy, hx⟩ := List.mem_flatMap.1 hx
  have hy' := List.mem_of_mem_take hy
  exact lead_permL h.hi _ (headsT_in h t y hy') (headsT_perm h t y hy') x hx
theorem rows_get {l : List ByteArray} : ∀ (hs : List ByteArray) (i j : Nat) (hi : i < hs.length), j < l.length → (rowsB l hs)[i * l.length + j]? = (leadB hs[i] l)[j]?
  | h :: hs, 0, j, _, hj => by
    unfold rowsB
    rw [List.flatMap_cons, List.getElem?_append_left (by rw [lead_len]; omega)]
    simp
  | h :: hs, i + 1, j, hi, hj => by
    have ih := rows_get hs i j (by simpa using hi) hj
    unfold rowsB at ih ⊢
    rw [List.flatMap_cons, List.getElem?_append_right (by rw [lead_len, Nat.succ_mul]; omega), lead_len]
    have e : (i + 1) * l.length + j - l.length = i * l.length + j := by rw [Nat.succ_mul]; omega
    rw [e]
    exact ih
/-- A row of numbers of the call's own. -/
def SI (W : World) (base g N : Nat) (f : Nat → Int) : Prop := W.ownsRow base 3 1 (.slice (some ⟨g, 0, none⟩) N N) N ((List.range N).map fun i => Value.int .i64 (f i))
theorem SI.cell {W : World} {base g N : Nat} {f : Nat → Int} (h : SI W base g N f) {i : Nat} (hi : i < N) : W.cell? ⟨g, i, none⟩ = some (.int .i64 (f i)) := by
  rw [h.cellAt i (by omega), List.getElem?_map, List.getElem?_eq_getElem (by simpa using hi)]; simp
theorem SI.free {W : World} {base g N : Nat} {f : Nat → Int} (h : SI W base g N f) (i : Nat) : W.frozen? ⟨g, i, none⟩ = false := h.frozenAt i
theorem SI.to {W W' : World} {base g N : Nat} {f : Nat → Int} (h : SI W base g N f) (hb : Below W.heap.size W W') : SI W' base g N f := own_to h hb
theorem SI.low {W W' : World} {base g N B : Nat} {f : Nat → Int} (h : SI W base g N f) (hb : Below B W W') (hg : g < B) : SI W' base g N f := own_blk h (hb.block g hg)
theorem SB.low {W W' : World} {base g N B : Nat} {f : Nat → Bool} (h : SB W base g N f) (hb : Below B W W') (hg : g < B) : SB W' base g N f := own_blk h (hb.block g hg)
theorem SB.past {W : World} {base g N g' : Nat} {f : Nat → Bool} (h : SB W base g N f) (hne : g ≠ g') (j : Nat) (u : Value) : SB (W.setCell ⟨g', j, none⟩ u) base g N f := own_set_past' h (.inr (fun e => hne (by injection e))) j u
theorem SI.past {W : World} {base g N g' : Nat} {f : Nat → Int} (h : SI W base g N f) (hne : g ≠ g') (j : Nat) (u : Value) : SI (W.setCell ⟨g', j, none⟩ u) base g N f := own_set_past' h (.inr (fun e => hne (by injection e))) j u
theorem SI.set {W : World} {base g N : Nat} {f : Nat → Int} (h : SI W base g N f) {i : Nat} (hi : i < N) (v : Int) : SI (W.setCell ⟨g, i, none⟩ (.int .i64 v)) base g N (fun j => if j = i then v else f j) := by
  have h2 := own_set h i (.int .i64 v)
  unfold SI
  have e : ((List.range N).map fun j => Value.int .i64 (f j)).set i (.int .i64 v) = (List.range N).map fun j => Value.int .i64 (if j = i then v else f j) := by
    apply List.ext_getElem?
    intro j
    rw [List.getElem?_set, List.getElem?_map, List.getElem?_map]
    simp only [List.length_map, List.length_range]
    by_cases hij : i = j
    · subst hij
      rw [if_pos rfl, if_pos hi, List.getElem?_eq_getElem (by simpa using hi)]
      simp
    · rw [if_neg hij]
      by_cases hj : j < N
      · rw [List.getElem?_eq_getElem (by simpa using hj)]
        simp only [Option.map_some, List.getElem_range]
        rw [if_neg (fun e => hij e.symm)]
      · rw [List.getElem?_eq_none (by simpa using hj)]; rfl
  rw [← e]
  exact h2
/-- Each row met so far has its lead and its place laid down. -/
def LeadOf (N : Nat) (R : List ByteArray) (q : Nat) (f : Nat → Int) : Prop := ∀ p (hp : p < R.length), p < q → f (placeB R[p]) = ((p / N * 40 + p % N : Nat) : Int)
theorem LeadOf.zero (N : Nat) (R : List ByteArray) (f : Nat → Int) : LeadOf N R 0 f := fun p _ h => absurd h (Nat.not_lt_zero _)
theorem LeadOf.put {n N : Nat} {R : List ByteArray} {q : Nat} {f : Nat → Int} (h : LeadOf N R q f) (hR : ∀ x ∈ R, PermR n x) (hq : q < R.length) (hn : R[q] ∉ R.take q) : LeadOf N R (q + 1) (fun j => if j = placeB R[q] then ((q / N * 40 + q % N : Nat) : Int) else f j) := by
  intro p hp hpq
  by_cases e : p = q
  · subst e; simp
  · have hne : placeB R[p] ≠ placeB R[q] := fun he => by
      have h2 := place_inj (hR _ (List.getElem_mem hp)) (hR _ (List.getElem_mem hq)) he
      apply hn
      rw [← h2, List.mem_iff_getElem]
      exact ⟨p, by rw [List.length_take]; omega, by rw [List.getElem_take]⟩
    show (if placeB R[p] = placeB R[q] then _ else _) = _
    rw [if_neg hne]
    exact h p hp (by omega)
theorem idxB_mem : ∀ {l : List ByteArray} {r : ByteArray}, r ∈ l → ∃ h : idxB r l < l.length, l[idxB r l] = r
  | x :: l, r, h => by
    by_cases e : x = r
    · subst e; exact ⟨by simp [idxB], by simp [idxB]⟩
    · have hr : r ∈ l := by
        rcases List.mem_cons.1 h with h | h
        · exact absurd h.symm e
        · exact h
      obtain ⟨h1, h2⟩ := idxB_mem hr
      have e2 : idxB r (x :: l) = idxB r l + 1 := by rw [idxB, if_neg e]
      refine ⟨by rw [e2, List.length_cons]; omega, ?_⟩
      simp only [e2, List.getElem_cons_succ]
      exact h2
theorem info_int2 : (Tryz.prog.info? 3).map (fun i => (i.zero, i.size, i.bytes)) = some (some (.int .i64 0), 1, 8) := by kernel_rfl
theorem zeros_si (N : Nat) : (madeCells (Value.int .i64 0).cells N).toList = (List.range N).map fun _ => Value.int .i64 0 := by
  rw [show (Value.int .i64 0).cells = #[.int .i64 0] from rfl, made_rep]
  apply List.ext_getElem?
  intro i
  rw [List.getElem?_map]
  by_cases hi : i < N
  · rw [List.getElem?_eq_getElem (by simpa using hi), List.getElem?_eq_getElem (by simpa using hi)]; simp
  · rw [List.getElem?_eq_none (by simpa using hi), List.getElem?_eq_none (by simpa using hi)]; rfl
end Go.Proofs.YtajffjkmmenaoaaGreat

/- Contract: a method added to a library, the reference's side. -/
import Derived.Test.YtnbehldacehiiaaK3
namespace Go.Proofs.Ytnbehldacehiiaa
open Go Go.RowKit
set_option linter.unusedVariables false
set_option linter.unusedSimpArgs false

theorem pos_at (m : Mt) : ∀ ms : List Mt, PosAt ms m (posOf ms m)
  | [] => by
    refine ⟨Nat.zero_le _, fun x hx => ?_, fun h => absurd h (Nat.not_lt_zero _)⟩
    simp at hx
  | x :: t => by
    have ih := pos_at m t
    cases hx : nmLt x.name m.name
    · have e : posOf (x :: t) m = 0 := by unfold posOf; rw [List.takeWhile_cons, if_neg (by simp [hx])]; rfl
      rw [e]
      exact ⟨Nat.zero_le _, fun y hy => by simp at hy, fun _ => hx⟩
    · have e : posOf (x :: t) m = posOf t m + 1 := by unfold posOf; rw [List.takeWhile_cons, if_pos hx]; rfl
      rw [e]
      refine ⟨by simpa using ih.1, fun y hy => ?_, fun h => ih.2.2 (by simpa using h)⟩
      rw [List.take_succ_cons] at hy
      rcases List.mem_cons.1 hy with rfl | hy
      · exact hx
      · exact ih.2.1 y hy
theorem add_no3 {ms : List Mt} {m : Mt} (hl : libB ms = true) (hm : methB m = true) (h : ¬ (ixOf m.name 0 ms < 0 ∧ ms.length ≠ 30)) : addB ms m = false ∧ addM ms m = [] := by
  have h1 : addB ms m = false := by
    rw [(add_at (pos_at m ms) hl hm).1, Bool.eq_false_iff]
    exact fun e => h ((lib_ins (pos_at m ms) hl hm).1 e)
  exact ⟨h1, addM_no h1⟩
theorem add_yes {ms : List Mt} {m : Mt} {k : Nat} (hl : libB ms = true) (hm : methB m = true) (hix : ixOf m.name 0 ms < 0) (h30 : ms.length ≠ 30) (hk : k ≤ ms.length) (hup : ∀ x ∈ ms.drop k, nmLt m.name x.name = true) (he : ∀ h : 0 < k, nmLt m.name (ms[k - 1]'(by omega)).name = false) : addB ms m = true ∧ addM ms m = insAt ms k m := by
  have hp := pos_down hl hix hk hup he
  have hi := (lib_ins hp hl hm).2 ⟨hix, h30⟩
  exact ⟨(add_at hp hl hm).1.trans hi, (add_at hp hl hm).2 hi⟩
theorem mflat_set (p : Mt × Value) : ∀ (ps : List (Mt × Value)) (k : Nat), k < ps.length → (((ps.flatMap mcells).set (k * 3) (.string p.1.name)).set (k * 3 + 1) (.int .i64 p.1.stage)).set (k * 3 + 2) p.2 = (ps.set k p).flatMap mcells
  | [], k, h => absurd h (Nat.not_lt_zero _)
  | q :: t, 0, _ => rfl
  | q :: t, k + 1, h => by
    have ih := mflat_set p t k (by simpa using h)
    rw [List.set_cons_succ, List.flatMap_cons, List.flatMap_cons, ← ih, show (k + 1) * 3 = k * 3 + 1 + 1 + 1 by omega]
    rfl
theorem ins_full (ms : List Mt) (m : Mt) : insAt ms ms.length m = ms ++ [m] := by unfold insAt; simp
theorem ins_down {ms : List Mt} {m : Mt} {k : Nat} (h0 : 0 < k) (hk : k ≤ ms.length) : ((insAt ms k m).set k (ms[k - 1]'(by omega))).set (k - 1) m = insAt ms (k - 1) m := by
  obtain ⟨j, rfl⟩ : ∃ j, k = j + 1 := ⟨k - 1, by omega⟩
  have hj : j < ms.length := by omega
  have e1 : ms.take (j + 1) = ms.take j ++ [ms[j]] := List.take_succ_eq_append_getElem hj
  have e2 : ms.drop j = ms[j] :: ms.drop (j + 1) := List.drop_eq_getElem_cons hj
  have hl : (ms.take j).length = j := by simp; omega
  show ((insAt ms (j + 1) m).set (j + 1) ms[j]).set j m = insAt ms j m
  unfold insAt
  rw [e1, e2]
  obtain ⟨T, hT⟩ : ∃ T, T = ms.take j := ⟨_, rfl⟩
  rw [← hT] at hl ⊢
  subst hl
  simp [List.set_append]
theorem ins_get {ms : List Mt} {m : Mt} {k : Nat} (h0 : 0 < k) (hk : k ≤ ms.length) : (insAt ms k m)[k - 1]? = some (ms[k - 1]'(by omega)) := by
  unfold insAt
  rw [List.append_assoc, List.getElem?_append_left (by simp; omega), List.getElem?_take, if_pos (by omega), List.getElem?_eq_getElem (by omega)]
theorem drop_up {ms : List Mt} {m : Mt} {k : Nat} (h0 : 0 < k) (hk : k ≤ ms.length) (h : ∀ x ∈ ms.drop k, nmLt m.name x.name = true) (h1 : nmLt m.name (ms[k - 1]'(by omega)).name = true) : ∀ x ∈ ms.drop (k - 1), nmLt m.name x.name = true := by
  obtain ⟨j, rfl⟩ : ∃ j, k = j + 1 := ⟨k - 1, by omega⟩
  intro x hx
  have e2 : ms.drop j = ms[j] :: ms.drop (j + 1) := List.drop_eq_getElem_cons (by omega)
  have hx' : x ∈ ms.drop j := hx
  rw [e2] at hx'
  rcases List.mem_cons.1 hx' with rfl | hx'
  · exact h1
  · exact h x hx'
theorem OwnP.base {w : World} {b b' : Nat} {v : Value} {ps : List (Mt × Value)} (h : OwnP w b v ps) (hb : b' ≤ b) : OwnP w b' v ps := ⟨own_base h.1 hb, fun p hp => own_base (h.2 p hp) hb⟩
theorem OwnP.put {w : World} {base g n c k : Nat} {qs : List (Mt × Value)} (p : Mt × Value) (hn : qs.length = n) (hk : k < n) (h : OwnP w base (.slice (some ⟨g, 0, none⟩) n c) qs) (hp : w.ownsRow base 9 1 p.2 p.1.l.length (p.1.l.map Value.string)) :
    OwnP (((w.setCell ⟨g, k * 3, none⟩ (.string p.1.name)).setCell ⟨g, k * 3 + 1, none⟩ (.int .i64 p.1.stage)).setCell ⟨g, k * 3 + 2, none⟩ p.2) base (.slice (some ⟨g, 0, none⟩) n c) (qs.set k p) := by
  subst hn
  refine ⟨?_, ?_⟩
  · rw [List.length_set, ← mflat_set p qs k hk]
    exact own_set (own_set (own_set h.1 _ _) _ _) _ _
  · intro q hq
    have key : ∀ q : Mt × Value, w.ownsRow base 9 1 q.2 q.1.l.length (q.1.l.map Value.string) → (((w.setCell ⟨g, k * 3, none⟩ (.string p.1.name)).setCell ⟨g, k * 3 + 1, none⟩ (.int .i64 p.1.stage)).setCell ⟨g, k * 3 + 2, none⟩ p.2).ownsRow base 9 1 q.2 q.1.l.length (q.1.l.map Value.string) := by
      intro q h2
      have hne : q.2.ownBlock = none ∨ q.2.ownBlock ≠ some g := own_kinds h2 h.1 (by decide)
      exact own_set_past (own_set_past (own_set_past h2 hne _ _) hne _ _) hne _ _
    rcases List.mem_or_eq_of_mem_set hq with hq | rfl
    · exact key q (h.2 q hq)
    · exact key q hp
theorem OwnP.at {w : World} {base g n c k : Nat} {qs : List (Mt × Value)} (hn : qs.length = n) (hk : k < n) (h : OwnP w base (.slice (some ⟨g, 0, none⟩) n c) qs) :
    w.cell? ⟨g, k * 3, none⟩ = some (.string (qs[k]'(by omega)).1.name) ∧ w.cell? ⟨g, k * 3 + 1, none⟩ = some (.int .i64 (qs[k]'(by omega)).1.stage) ∧ w.cell? ⟨g, k * 3 + 2, none⟩ = some (qs[k]'(by omega)).2 ∧
    w.frozen? ⟨g, k * 3, none⟩ = false ∧ w.frozen? ⟨g, k * 3 + 1, none⟩ = false ∧ w.frozen? ⟨g, k * 3 + 2, none⟩ = false := by
  subst hn
  have hrow := h.1
  have hg := fun j (hj : j < 3) => flat_get (C := mcells) (sz := 3) (xs := qs) (fun _ _ => rfl) (i := k) (j := j) (List.getElem?_eq_getElem hk) hj
  refine ⟨?_, ?_, ?_, hrow.frozenAt _, hrow.frozenAt _, hrow.frozenAt _⟩
  · rw [hrow.cellAt (k * 3) (by omega)]; exact hg 0 (by omega)
  · rw [hrow.cellAt (k * 3 + 1) (by omega)]; exact hg 1 (by omega)
  · rw [hrow.cellAt (k * 3 + 2) (by omega)]; exact hg 2 (by omega)
theorem l4Own_agg (m : Mt) (v : Value) (w : World) (h : Strs w v m.l) (hn : NilOk v) (hlen : m.l.length ≤ 10000000) : Calls Try.prog 64 #[.agg #[.string m.name, .int .i64 m.stage, v]] w fun e w' =>
    ∃ A c, e = .returned (.agg #[.string m.name, .int .i64 m.stage, .slice A m.l.length c]) ∧ w'.ownsRow w.heap.size 9 1 (.slice A m.l.length c) m.l.length (m.l.map Value.string) ∧ Below w.heap.size w w' :=
  (l4Own_any m v w h hn hlen).mono fun e w' ⟨r, e1, h2, h3⟩ => by
    obtain ⟨A, c, hr, _⟩ := sl_of_own h2
    subst hr
    exact ⟨A, c, e1, h2, h3⟩
set_option maxRecDepth 100000 in
set_option maxHeartbeats 4000000 in
theorem specAddMethod_any (V : Value) (ms : List Mt) (m : Mt) (x : Value) (w : World) (h : MethsN w V ms) (hs : AllSmall ms) (hm : MethAt w m x) (hn : NilOk x) (hms : MtSmall m) : Calls Try.prog 26 #[V, .agg #[.string m.name, .int .i64 m.stage, x]] w fun e w' =>
    ∃ r, e = .returned (.tuple #[r, .bool (addB ms m)]) ∧ OwnMeths w' w.heap.size r (addM ms m) ∧ Below w.heap.size w w' := by
  have Hno1 := Lib.hid (fun h => (⟨add_no1 h, addM_no (add_no1 h)⟩ : addB ms m = false ∧ addM ms m = []))
  have Hno2 := Lib.hid (fun h => (⟨add_no2 h, addM_no (add_no2 h)⟩ : addB ms m = false ∧ addM ms m = []))
  have Hno3 := Lib.hid (add_no3 (ms := ms) (m := m))
  have Hyes := Lib.hid (fun k => add_yes (ms := ms) (m := m) (k := k))
  obtain ⟨B, hB⟩ : ∃ B, B = addB ms m := ⟨_, rfl⟩
  obtain ⟨L, hL⟩ : ∃ L, L = addM ms m := ⟨_, rfl⟩
  rw [← hB, ← hL] at Hno1 Hno2 Hno3
  have Hyes : Hid (∀ k, libB ms = true → methB m = true → ixOf m.name 0 ms < 0 → ms.length ≠ 30 → ∀ hk : k ≤ ms.length, (∀ x ∈ ms.drop k, nmLt m.name x.name = true) → (∀ h : 0 < k, nmLt m.name (ms[k - 1]'(by omega)).name = false) → B = true ∧ L = insAt ms k m) := by rw [hB, hL]; exact Hyes
  rw [← hB, ← hL]
  clear hB hL
  obtain ⟨Ax, cx, hx⟩ : ∃ A c, x = .slice A m.l.length c := hm.form
  subst hx
  have HV := Lib.hid h
  have Hs := Lib.hid hs
  have Hm := Lib.hid hm
  have Hn := Lib.hid hn
  have Hms := Lib.hid hms
  obtain ⟨A, c, rfl, h1, h2, hr⟩ : Sl w 3 V ms.length _ := h.choose_spec.2.1
  unfold maxLen at h2
  clear hs hm hn hms h hr
  go_enter Try.func26, Try.ntmps26
  go_wp2_with fail
  refine box1 (C := fun W => Calls _ _ _ W _) ?_
  intro wb hw k1 hB0
  have RK := boxRule k1
  have HRK := Lib.hid RK
  have Hk1 := Lib.hid (blk_lt k1)
  clear k1 RK
  refine (l29Good_any _ _ _ (HV.out.meths.to hw) Hs.out).mono ?_; rintro e w1 ⟨rfl, hb1⟩
  cases hl : libB ms
  · have Hx := Lib.hid (Hno1.out hl)
    clear hl
    go_wp2_with fail
    go_ret2
    exact ⟨_, ret_vb Hx.out.1, by rw [Hx.out.2]; exact (OwnD.nil _ _).own, bw_to hw hb1⟩
  have Hl := Lib.hid hl
  have hlen := ((lib_iff ms).1 hl).1
  clear hl
  have hr1 := fun o => HRK.out w1 o hb1
  go_wp2_with fail
  refine (l4Good_any m _ _ (Hm.out.to (bw_to hw hb1)) Hms.out).mono ?_; rintro e w2 ⟨rfl, hb2⟩
  have hB2 := bw_to hb1 hb2
  cases hg : methB m
  · have Hx := Lib.hid (Hno2.out hg)
    clear hg
    go_wp2_with fail
    go_ret2
    exact ⟨_, ret_vb Hx.out.1, by rw [Hx.out.2]; exact (OwnD.nil _ _).own, bw_to hw hB2⟩
  have Hg := Lib.hid hg
  clear hg hb1 hb2 hr1
  have hr2 := fun o => HRK.out w2 o hB2
  go_wp2_with fail
  refine (l29At_any _ ms m.name _ (HV.out.meths.to (bw_to hw hB2))).mono ?_; rintro e w3 ⟨rfl, hb3⟩
  have hB3 := bw_to hB2 hb3
  have Hno := Lib.hid (Hno3.out Hl.out Hg.out)
  have Hyes2 := Lib.hid (fun k => Hyes.out k Hl.out Hg.out)
  clear hB2 hb3 hr2
  obtain ⟨z, hz⟩ : ∃ z, z = ixOf m.name 0 ms := ⟨_, rfl⟩
  rw [← hz] at Hno Hyes2 ⊢
  clear hz
  by_cases hz : 0 ≤ z
  · have Hx := Lib.hid (Hno.out (by omega))
    go_wp2_with fail
    go_ret2
    exact ⟨_, ret_vb Hx.out.1, by rw [Hx.out.2]; exact (OwnD.nil _ _).own, bw_to hw hB3⟩
  by_cases h30 : ms.length = 30
  · have Hx := Lib.hid (Hno.out (by omega))
    go_wp2_with fail
    go_ret2
    exact ⟨_, ret_vb Hx.out.1, by rw [Hx.out.2]; exact (OwnD.nil _ _).own, bw_to hw hB3⟩
  have Hyes3 := Lib.hid (fun k => Hyes2.out k (by omega) h30)
  clear Hyes2 Hyes Hno Hno1 Hno2 Hno3
  have hst := Below.refl w3.heap.size w3
  have HB3 := Lib.hid hB3
  have hml := Hms.out.2.1
  have R3 := fun w' i (hb : Below w3.heap.size w3 w') => HRK.out w' i (bw_to HB3.out hb)
  have Hfo := Lib.hid (fun W (hW : Below w3.heap.size w3 W) => l29Own_any _ ms W (HV.out.to (bw_to hw (bw_to HB3.out hW))) (by omega) (fun x hx => by have := (Hs.out.2 x hx).2.1; omega))
  have Hmo := Lib.hid (fun W (hW : Below w3.heap.size w3 W) => l4Own_agg m (.slice Ax m.l.length cx) W (Hm.out.1.to (bw_to hw (bw_to HB3.out hW))) Hn.out (by omega))
  go_wp2_with fail
  go_region_held3 (fun w' => Below w3.heap.size w3 w') (first | assumption | exact Below.drew (by assumption) | exact bw_to (by assumption) hb' | exact bw_al (by assumption) _ | exact Below.trans (by assumption) hb4)
    (first | (go_at_call 63; refine (Hfo.out _ (by assumption)).mono ?_; rintro e wa ⟨ra, ps, rfl, hfa, oa0, hb'⟩; (have hpl : ps.length = ms.length := (by rw [← hfa, List.length_map])); (obtain ⟨Aa, ca, ea, _⟩ := sl_of_own oa0.1); subst ea; rw [hpl] at oa0 ⊢; (have oa := oa0.base (Below.size (by assumption : Below w3.heap.size w3 _)))) | (go_at_call 64; refine (Hmo.out _ (by assumption)).mono ?_; rintro e wc ⟨A1, c1, rfl, om0, hb'⟩; (have oa2 := oa.to hb'); (have om := own_base om0 (Below.size (by assumption : Below w3.heap.size w3 _))); (have hOA := oa2.to (bw_al (Below.refl _ wc) (.cells #[.string m.name, .int .i64 m.stage, .slice A1 m.l.length c1] 36))); (have hOM := own_to om (bw_al (Below.refl _ wc) (.cells #[.string m.name, .int .i64 m.stage, .slice A1 m.l.length c1] 36)))) | (refine step_app_sl _ (by rfl) _ _ _ (by rfl) w3.heap.size 36 _ 3 48 Try.underlying25 info_meth (by rfl) (by omega) hOA.1 (by rfl) (sl_of_own (own_of_heap (base := 0) (n := 1) (heap_new wc (.cells #[.string m.name, .int .i64 m.stage, .slice A1 m.l.length c1] 36)) (Nat.zero_le _) (by unfold maxLen; omega) rfl)) (nilok_some _ _ _) (by rfl) (by simp [Value.oneCell']) (by omega) (by omega) (Below.size (by assumption)) (ms.length + 1) (by rw [hpl]) ?_; intro A4 c4 w4 ho4 hb4 hg4))
  have hP := OwnP.push (V2 := .slice A4 (ms.length + 1) c4) hOA hOM (by rw [hpl]; exact ho4) hg4
  have hB4 : Below w3.heap.size w3 w4 := by assumption
  have hfst : (ps ++ [(m, Value.slice A1 m.l.length c1)]).map Prod.fst = insAt ms ms.length m := by rw [List.map_append, hfa, ins_full]; rfl
  obtain ⟨g, cq, eq, _, _⟩ := ho4.form (by omega)
  obtain ⟨qs0, hqs0⟩ : ∃ q, q = ps ++ [(m, Value.slice A1 m.l.length c1)] := ⟨_, rfl⟩
  rw [← hqs0] at hP hfst
  injection eq with ea _ ec
  subst ea
  subst ec
  have HP := Lib.hid hP
  have Hfst := Lib.hid hfst
  have HB4 := Lib.hid hB4
  have hgb : w3.heap.size ≤ g := (hP.1.lt g rfl).1
  have hgw : w.heap.size < g := Nat.lt_of_lt_of_le Hk1.out (Nat.le_trans HB3.out.size hgb)
  have HR := Lib.hid R3
  clear hP hfst hB4 hOA hOM ho4 hg4 hb4 oa oa0 oa2 om om0 hfa hpl hqs0 hst R3 hb'
  go_wp2_with fail
  go_loopw [7] (fun i wr => ∃ k : Nat, ∃ qs, k ≤ ms.length ∧ i = .int .i64 k ∧ qs.map Prod.fst = insAt ms k m ∧ OwnP wr w3.heap.size (.slice (some ⟨g, 0, none⟩) (ms.length + 1) c4) qs ∧ (∀ x ∈ ms.drop k, nmLt m.name x.name = true) ∧ Below w3.heap.size w3 wr) (fun i _ => (intOf i).toNat)
  case atStart => exact ⟨ms.length, qs0, by omega, by go_num, Hfst.out, HP.out, by simp, HB4.out⟩
  case round =>
    obtain ⟨k, qs, hk, rfl, hfq, hO, hup, hB⟩ := hrel
    have Hup := Lib.hid hup
    have Hfq := Lib.hid hfq
    have HO := Lib.hid hO
    have hql : qs.length = ms.length + 1 := by have := congrArg List.length hfq; rwa [List.length_map, insAt_len hk] at this
    clear hup hfq hO HP Hfst HB4
    by_cases hk0 : k = 0
    · subst hk0
      have Hy := Lib.hid (Hyes3.out 0 hk Hup.out (fun h => absurd h (Nat.lt_irrefl 0)))
      go_wp2_with fail
      go_big_quiet (fail)
      have hBq := bw_dr hB nq
      have hOq := HO.out.to (bw_dr (Below.refl _ wr) nq)
      generalize wr.drewN nq = wq at hBq hOq ⊢
      go_wp2_with fail
      go_ret2
      exact ⟨_, ret_vb Hy.out.1, by rw [Hy.out.2]; exact (hOq.base (Nat.le_trans hw.size HB3.out.size)).own Hfq.out, bw_to hw (bw_to HB3.out hBq)⟩
    · have hpos : 0 < k := by omega
      have hk1 : k - 1 < ms.length + 1 := by omega
      have hkn : k < ms.length + 1 := by omega
      have hnm : (qs[k - 1]'(by omega)).1 = ms[k - 1]'(by omega) := by
        have e := ins_get (m := m) hpos hk
        rw [← Hfq.out, List.getElem?_map, List.getElem?_eq_getElem (by omega)] at e
        injection e
      obtain ⟨c0, c1, c2, _, _, _⟩ := HO.out.at hql hk1
      obtain ⟨_, _, _, f0, f1, f2⟩ := HO.out.at hql hkn
      obtain ⟨d0, d1, d2, _, _, _⟩ := HO.out.at hql hkn
      have hgp := HO.out.2 (qs[k - 1]'(by omega)) (List.getElem_mem _)
      obtain ⟨p, hp⟩ : ∃ p, p = qs[k - 1]'(by omega) := ⟨_, rfl⟩
      rw [← hp] at c0 c1 c2 hnm hgp
      obtain ⟨Ap, cp, hpv, _⟩ := sl_of_own hgp
      obtain ⟨y, yv⟩ := p
      dsimp only at c0 c1 c2 hnm hgp hpv
      subst hpv
      have Hnm := Lib.hid hnm
      have Hgp := Lib.hid hgp
      have Hup1 := Lib.hid (drop_up (m := m) hpos hk Hup.out)
      have Hyk := Lib.hid (fun (h : nmLt m.name (ms[k - 1]'(by omega)).name = false) => Hyes3.out k hk Hup.out (fun _ => h))
      rw [← hnm] at Hup1 Hyk
      clear hnm hp hgp
      have hr0 := fun o => HR.out wr o hB
      have hw1 : IntKind.i64.wrap ((k : Int) - 1) = (k : Int) - 1 := IntWalk.i64_in _ ⟨by omega, by omega⟩
      have hi0 : (0 : Int) ≤ (k : Int) - 1 := by omega
      have hi1 : ((k : Int) - 1).toNat = k - 1 := by omega
      have hi2 : (k : Int) - 1 < ms.length + 1 := by omega
      have hi3 : decide ((0 : Int) < k) = true := by simpa using hpos
      have htot := less_tot y.name.toList m.name.toList
      cases hd : Op.bytesLess m.name.toList y.name.toList
      · have Hy := Lib.hid (Hyk.out hd)
        rw [hd] at htot
        clear Hyk Hup1
        cases ha : Op.bytesLess y.name.toList m.name.toList <;> cases hb : (y.name.toList == m.name.toList) <;> rw [ha, hb] at htot
        · cases htot
        all_goals
          clear htot hd
          go_wp2_with fail
          go_big_quiet (fail)
          have hBq := bw_dr hB nq
          have hOq := HO.out.to (bw_dr (Below.refl _ wr) nq)
          generalize wr.drewN nq = wq at hBq hOq ⊢
          go_wp2_with fail
          go_ret2
          exact ⟨_, ret_vb Hy.out.1, by rw [Hy.out.2]; exact (hOq.base (Nat.le_trans hw.size HB3.out.size)).own Hfq.out, bw_to hw (bw_to HB3.out hBq)⟩
      · have Hnx := Lib.hid (Hup1.out hd)
        rw [hd] at htot
        clear Hyk Hup1
        have ha : Op.bytesLess y.name.toList m.name.toList = false := by
          cases ha : Op.bytesLess y.name.toList m.name.toList
          · rfl
          · rw [ha] at htot; cases htot
        have hb : (y.name.toList == m.name.toList) = false := by
          cases hb : (y.name.toList == m.name.toList)
          · rfl
          · rw [ha, hb] at htot; cases htot
        clear htot hd
        go_wp2_with fail
        go_big_quiet (fail)
        have hBq := bw_dr hB nq
        have hO7 := (HO.out.to (bw_dr (Below.refl _ wr) nq)).put (y, .slice Ap y.l.length cp) hql hkn (own_to Hgp.out (bw_dr (Below.refl _ wr) nq))
        dsimp only at hO7
        have hB7 := set3_low (p := k * 3) (q := k * 3 + 1) (r := k * 3 + 2) (x := .string y.name) (y := .int .i64 y.stage) (z := .slice Ap y.l.length cp) hBq hgb
        have hne : ¬ g = w.heap.size := by omega
        have hr7 := fun o => HR.out _ o hB7
        go_wp2_with fail
        refine (l4Own_agg m _ _ (Hm.out.1.to (bw_to hw (bw_to HB3.out hB7))) Hn.out (by omega)).mono ?_; rintro e w8 ⟨A8, c8, rfl, hown8, hb8⟩
        have hO8 := hO7.to hb8
        have hB8 := bw_to hB7 hb8
        have hql' : (qs.set k (y, Value.slice Ap y.l.length cp)).length = ms.length + 1 := by rw [List.length_set]; exact hql
        obtain ⟨e0, e1, e2, g0, g1, g2⟩ := hO8.at hql' hk1
        have hO9 := hO8.put (k := k - 1) (m, .slice A8 m.l.length c8) hql' hk1 (own_base hown8 hB7.size)
        dsimp only at hO9
        have hB9 := set3_low (p := (k - 1) * 3) (q := (k - 1) * 3 + 1) (r := (k - 1) * 3 + 2) (x := .string m.name) (y := .int .i64 m.stage) (z := .slice A8 m.l.length c8) hB8 hgb
        have hfin : (((qs.set k (y, Value.slice Ap y.l.length cp)).set (k - 1) (m, Value.slice A8 m.l.length c8))).map Prod.fst = insAt ms (k - 1) m := by
          rw [List.map_set, List.map_set, Hfq.out, show y = ms[k - 1]'(by omega) from Hnm.out]
          exact ins_down hpos hk
        have Hfin := Lib.hid hfin
        have HO9 := Lib.hid hO9
        have HB9 := Lib.hid hB9
        clear hfin hO9 hB9 hO8 hO7 hB7 hB8 hr7 hown8 hb8 c0 c1 c2 d0 d1 d2 f0 f1 f2
        go_wp2_with fail
        exact ⟨⟨k - 1, _, by omega, congrArg (Value.int .i64) (by omega), Hfin.out, HO9.out, Hnx.out, HB9.out⟩, by simp [intOf]; omega⟩
end Go.Proofs.Ytnbehldacehiiaa

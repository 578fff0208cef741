/- The law Alike, walked. -/
import Derived.Test.YtamneiffhohleaaP8
import Derived.Test.YtamneiffhohleaaX5
namespace Go.Proofs.Ytamneiffhohleaa
open Go Go.RowKit
set_option linter.unusedVariables false
set_option linter.unusedSimpArgs false

theorem BytesAt.to {w w' : World} {V : Value} (h : BytesAt w w.heap.size V) (hb : Below w.heap.size w w') : BytesAt w' w'.heap.size V := (h.keep (fun p hp => hb.cell hp)).more hb.size
theorem mergeO_sm : ∀ (b a : List Rc), AllSm a → AllSm b → ∀ l, mergeO a b = some l → AllSm l
  | [], a, ha, _, l, h => by rw [mergeO] at h; injection h with h; subst h; exact ha
  | r :: t, a, ha, hb, l, h => by
    rw [mergeO] at h
    split at h
    · refine mergeO_sm t _ ?_ (fun x hx => hb x (List.mem_cons_of_mem _ hx)) l h
      have hr := hb r (List.mem_cons_self ..)
      intro x hx
      unfold addL at hx
      split at hx
      · exact ha x hx
      · split at hx
        · unfold insR at hx
          rcases List.mem_append.1 hx with hx | hx
          · exact ha x (List.mem_of_mem_take hx)
          · rcases List.mem_append.1 hx with hx | hx
            · rw [List.mem_singleton.1 hx]; exact hr
            · exact ha x (List.mem_of_mem_drop hx)
        · cases hx
    · cases h
theorem merge_fit {a b : List Rc} (ha : AllSm a) (hb : AllSm b) : AllFit ((mergeM a b).getD []) := by
  cases h : mergeM a b with
  | none => intro x hx; cases hx
  | some l =>
    unfold mergeM at h
    split at h
    · exact AllSm.fit (mergeO_sm b a ha hb l h)
    · cases h
theorem implAdd_agg (V : Value) (xs : List Rc) (r : Rc) (w : World) (h : Recs w V xs) (hn : NilOk V) (hs : AllFit xs) (hrf : RcFit r) : Calls Try.prog 11 #[V, .agg #[.int .i64 r.day, .string r.meth, .string r.touch, .int .i64 r.rows, .string r.note]] w (AddPost w xs r) := implAddRecord_any V xs r w h hn hs hrf
set_option maxRecDepth 100000 in
set_option maxHeartbeats 8000000 in
theorem lawAlike_any (V : Value) (zV : Nat) (U : Value) (zU : Nat) (w : World) (hV : BytesAt w w.heap.size V) (hU : BytesAt w w.heap.size U) : Calls Try.prog 5 #[V, U] w fun e w' => e = .returned (.bool true) ∧ Below w.heap.size w w' := by
  have HV := Lib.hid hV
  have HU := Lib.hid hU
  obtain ⟨A1, n1, c1, zs1, rfl, _, _, hm1, _⟩ := hV
  obtain ⟨A2, n2, c2, zs2, rfl, _, _, hm2, _⟩ := hU
  unfold maxLen at hm1 hm2
  go_enter Try.func5, Try.ntmps5
  go_wp2_with fail
  · go_ret
    exact ⟨rfl, Below.refl _ _⟩
  refine (drawAdd_any _ w HV.out).mono ?_; rintro e w1 ⟨u, xs, r, rfl, ho1, hs1, hn1, hr1, hb1⟩
  have O1 := Lib.hid ho1
  have W1 := Lib.hid hb1
  have Sx := Lib.hid hs1
  have Sr := Lib.hid hr1
  have hBw : w.heap.size ≤ w1.heap.size := hb1.size
  obtain ⟨Au, cu, hu, hcl, hcm, _⟩ := sl_of_own ho1
  subst hu
  unfold maxLen at hcm
  obtain ⟨L, hL⟩ : ∃ L, L = addLx xs r := ⟨_, rfl⟩
  obtain ⟨f, hf⟩ : ∃ f, f = addFx xs r := ⟨_, rfl⟩
  obtain ⟨q, hq⟩ : ∃ q, q = addOx xs r := ⟨_, rfl⟩
  have hLs : AllSm L := by rw [hL]; exact addLx_all hs1 hr1
  have hLn : L.length ≤ 20 := by rw [hL]; exact addLx_len xs r
  have him : ∀ X W, Recs W X xs → NilOk X → Calls Try.prog 11 #[X, .agg #[.int .i64 r.day, .string r.meth, .string r.touch, .int .i64 r.rows, .string r.note]] W fun e w' => ∃ v, e = .returned (.tuple #[v, .bool f, .bool q]) ∧ w'.ownsRow W.heap.size 31 5 v L.length (L.flatMap Rc.cells) ∧ Below W.heap.size W w' := by
    intro X W h1 h2
    rw [hL, hf, hq]
    exact implAdd_agg X xs r W h1 h2 Sx.out.fit Sr.out.fit
  have hsp : ∀ X W, Recs W X xs → NilOk X → Calls Try.prog 8 #[X, .agg #[.int .i64 r.day, .string r.meth, .string r.touch, .int .i64 r.rows, .string r.note]] W fun e w' => ∃ v, e = .returned (.tuple #[v, .bool f, .bool q]) ∧ w'.ownsRow W.heap.size 31 5 v L.length (L.flatMap Rc.cells) ∧ Below W.heap.size W w' := by
    intro X W h1 h2
    rw [hL, hf, hq]
    exact specAdd_agg X xs r W h1 h2 Sx.out.fit Sr.out.fit
  have Him := Lib.hid him
  have Hsp := Lib.hid hsp
  have HL := Lib.hid hL
  have Hf := Lib.hid hf
  have Hq := Lib.hid hq
  have HLs := Lib.hid hLs
  clear ho1 hb1 hs1 hr1 hL hf hq him hsp hLs
  go_wp2_with fail
  refine box1 (C := fun W => Calls _ _ _ W _) ?_
  intro wa hwa k1 hB0
  have RB := Lib.hid (boxRule k1)
  have hxa : w1.heap.size < wa.heap.size := (Array.getElem?_eq_some_iff.1 k1).1
  have KB := Lib.hid (rc_row k1)
  have Oa := Lib.hid (own_to O1.out hwa)
  have Wa := Lib.hid (bw_to W1.out hwa)
  clear k1 hwa O1 W1
  refine (Him.out _ wa (recs_of_own Oa.out) (nilok_own Oa.out)).mono ?_; rintro e w3 ⟨v3, rfl, ho3, hB3⟩
  have O3 := Lib.hid ho3
  have O3b : Hid (∀ kk, v3.ownBlock = some kk → w1.heap.size < kk) := Lib.hid (fun kk hk => by have := (ho3.lt kk hk).1; omega)
  have R3 := fun o => RB.out w3 o hB3
  clear ho3
  go_wp2_with fail
  refine (Hsp.out _ w3 (recs_of_own (own_to Oa.out hB3)) (nilok_own Oa.out)).mono ?_; rintro e w4 ⟨v4, rfl, ho4, hb4⟩
  have hB4 := bw_to hB3 hb4
  have O3' := Lib.hid (own_to O3.out hb4)
  have O4 := Lib.hid ho4
  clear ho4 hb4 R3 O3 hB3
  go_wp2_with fail
  refine (drawMerge_any _ w4 (HU.out.to (bw_to Wa.out hB4))).mono ?_; rintro e w5 ⟨ua, ub, ya, yb, rfl, hoa, hob, hsa, hsb, hna, hnb, hb5⟩
  have hB5 := bw_to hB4 hb5
  obtain ⟨Aa, ca, eua, hca, hcma, _⟩ := sl_of_own hoa
  obtain ⟨Ab, cb, eub, hcb, hcmb, _⟩ := sl_of_own hob
  subst eua eub
  unfold maxLen at hcma hcmb
  have Pa := Lib.hid hoa
  have Pb := Lib.hid hob
  have O5 := Lib.hid (own_to O3'.out hb5)
  have Q5 := Lib.hid (own_to O4.out hb5)
  have Sa := Lib.hid hsa
  have Sb := Lib.hid hsb
  clear hoa hob hsa hsb hb5 hB4 O3' O4
  obtain ⟨M, hM⟩ : ∃ M, M = mergeM ya yb := ⟨_, rfl⟩
  obtain ⟨one, hone⟩ : ∃ one, one = M.isSome := ⟨_, rfl⟩
  obtain ⟨L2, hL2⟩ : ∃ L2, L2 = M.getD [] := ⟨_, rfl⟩
  have HM : Hid (one = true → bookB L2 = true ∧ ya.length ≤ L2.length ∧ L2.length ≤ ya.length + yb.length) := Lib.hid (by
    intro h1
    rw [h1] at hone
    cases hMM : M with
    | none => rw [hMM] at hone; cases hone
    | some l =>
      rw [hL2, hMM]
      rw [hMM] at hM
      exact mergeM_good hM.symm)
  have L2s : Hid (AllFit L2) := Lib.hid (by rw [hL2, hM]; exact merge_fit Sa.out Sb.out)
  have hL2n : L2.length ≤ 20 := by rw [hL2, hM]; exact mergeL_len ya yb
  have Hmi : Hid (∀ X Y W, Recs W X ya → Recs W Y yb → NilOk X → Calls Try.prog 16 #[X, Y] W fun e w' => ∃ v, e = .returned (.tuple #[v, .bool one]) ∧ w'.ownsRow W.heap.size 31 5 v L2.length (L2.flatMap Rc.cells) ∧ Below W.heap.size W w') := Lib.hid (by
    intro X Y W h1 h2 h3
    rw [hL2, hone, hM]
    exact implMergeBooks_any X Y ya yb W h1 h2 h3 Sa.out.fit Sb.out.fit)
  have Hms : Hid (∀ X Y W, Recs W X ya → Recs W Y yb → NilOk X → Calls Try.prog 15 #[X, Y] W fun e w' => ∃ v, e = .returned (.tuple #[v, .bool one]) ∧ w'.ownsRow W.heap.size 31 5 v L2.length (L2.flatMap Rc.cells) ∧ Below W.heap.size W w') := Lib.hid (by
    intro X Y W h1 h2 h3
    rw [hL2, hone, hM]
    exact specMergeBooks_any X Y ya yb W h1 h2 h3 Sa.out.fit Sb.out.fit)
  clear hM hone hL2
  go_wp2_with fail
  refine (Hmi.out _ _ w5 (recs_of_own Pa.out) (recs_of_own Pb.out) (nilok_own Pa.out)).mono ?_; rintro e w6 ⟨v6, rfl, ho6, hb6⟩
  have hB6 := bw_to hB5 hb6
  obtain ⟨A6, c6, e6, hc6, hcm6, _⟩ := sl_of_own ho6
  subst e6
  unfold maxLen at hcm6
  have M6 := Lib.hid ho6
  have O6 := Lib.hid (own_to O5.out hb6)
  have Q6 := Lib.hid (own_to Q5.out hb6)
  have Pa6 := Lib.hid (own_to Pa.out hb6)
  have Pb6 := Lib.hid (own_to Pb.out hb6)
  clear ho6 hb6 hB5 Pa Pb O5 Q5
  go_wp2_with fail
  refine (Hms.out _ _ w6 (recs_of_own Pa6.out) (recs_of_own Pb6.out) (nilok_own Pa6.out)).mono ?_; rintro e w7 ⟨v7, rfl, ho7, hb7⟩
  have hB7 := bw_to hB6 hb7
  have N7 := Lib.hid ho7
  have M7 := Lib.hid (own_to M6.out hb7)
  have O7 := Lib.hid (own_to O6.out hb7)
  have Q7 := Lib.hid (own_to Q6.out hb7)
  clear ho7 hb7 hB6 Pa6 Pb6 O6 Q6 M6
  go_wp2_with fail
  refine (drawFind_any _ w7 (HU.out.to (bw_to Wa.out hB7))).mono ?_; rintro e w8 ⟨uf, zf, mf, tf, rfl, hof, hsf, hnf, hmf, htf, hb8⟩
  have hB8 := bw_to hB7 hb8
  have F8 := Lib.hid hof
  have N8 := Lib.hid (own_to N7.out hb8)
  have M8 := Lib.hid (own_to M7.out hb8)
  have O8 := Lib.hid (own_to O7.out hb8)
  have Q8 := Lib.hid (own_to Q7.out hb8)
  have Sf := Lib.hid hsf
  have htf' : tf.size ≤ maxLen := by unfold maxLen; omega
  have Htf := Lib.hid htf'
  clear hof hsf hb8 hB7 N7 M7 O7 Q7 htf'
  obtain ⟨nn, hnn⟩ : ∃ nn, nn = flN zf mf tf := ⟨_, rfl⟩
  obtain ⟨bb, hbb⟩ : ∃ bb, bb = flB zf mf tf := ⟨_, rfl⟩
  have Hfi : Hid (∀ X W, Recs W X zf → Calls Try.prog 20 #[X, .string mf, .string tf] W fun e w' => e = .returned (.tuple #[.int .i64 nn, .bool bb]) ∧ Below W.heap.size W w') := Lib.hid (by
    intro X W h1; rw [hnn, hbb]; exact implFindLike_any X zf mf tf W h1 Sf.out.fit Htf.out)
  have Hfs : Hid (∀ X W, Recs W X zf → Calls Try.prog 21 #[X, .string mf, .string tf] W fun e w' => e = .returned (.tuple #[.int .i64 nn, .bool bb]) ∧ Below W.heap.size W w') := Lib.hid (by
    intro X W h1; rw [hnn, hbb]; exact specFindLike_any X zf mf tf W h1 Sf.out.fit Htf.out)
  clear hnn hbb
  go_wp2_with fail
  refine (Hfi.out _ w8 (recs_of_own F8.out)).mono ?_; rintro e w9 ⟨rfl, hb9⟩
  have hB9 := bw_to hB8 hb9
  go_wp2_with fail
  refine (Hfs.out _ w9 ((recs_of_own F8.out).to hb9)).mono ?_; rintro e w10 ⟨rfl, hb10⟩
  have hB10 := bw_to hB9 hb10
  have h810 := bw_to hb9 hb10
  have N10 := Lib.hid (own_to N8.out h810)
  have M10 := Lib.hid (own_to M8.out h810)
  have O10 := Lib.hid (own_to O8.out h810)
  have Q10 := Lib.hid (own_to Q8.out h810)
  clear hb9 hb10 h810 hB8 hB9 N8 M8 O8 Q8 F8
  go_wp2_with fail
  refine (qSameBook_same _ _ L _ (recs_of_own O10.out) (recs_of_own Q10.out)).mono ?_; rintro e w11 ⟨rfl, hb11⟩
  have hB11 := bw_to hB10 hb11
  go_wp2_with fail
  refine (qSameBook_same _ _ L2 _ (recs_of_own (own_to M10.out hb11)) (recs_of_own (own_to N10.out hb11))).mono ?_; rintro e w12 ⟨rfl, hb12⟩
  have hB12 := bw_to hB11 hb12
  have h1012 := bw_to hb11 hb12
  have M12 := Lib.hid (own_to M10.out h1012)
  have O12 := Lib.hid (own_to O10.out h1012)
  clear hb11 hb12 h1012 hB10 hB11 N10 M10 O10 Q10
  cases one
  · obtain ⟨WX, hWX⟩ : ∃ WX, WX = w12 := ⟨_, rfl⟩
    subst hWX
    have hBX := hB12
    have OX := O12
    clear hB12 O12 M12
    have RX := fun o => RB.out WX o hBX
    cases q
    · go_wp2_with fail
      go_ret
      exact ⟨rfl, bw_to Wa.out hBX⟩
    · have hth := there_eq Hq.out.symm
      have hno := now_eq Hq.out.symm
      have hpt := addOx_parts Hq.out.symm
      have hgt : touchB r.touch.data.toList = true := recB_touch hpt.2.1
      have hz := touch_size hgt
      have Hag := Lib.hid (fun n hn => again_eq (n := n) Hq.out.symm hn)
      rw [← Hf.out] at hth
      rw [← HL.out] at hno Hag
      have htm : r.touch.size ≤ maxLen := by unfold maxLen; omega
      obtain ⟨n1, hn1'⟩ : ∃ n1, n1 = flN xs r.meth r.touch := ⟨_, rfl⟩
      obtain ⟨n2, hn2'⟩ : ∃ n2, n2 = flN L r.meth r.touch := ⟨_, rfl⟩
      have Hf1 : Hid (∀ X W, Recs W X xs → Calls Try.prog 20 #[X, .string r.meth, .string r.touch] W fun e w' => e = .returned (.tuple #[.int .i64 n1, .bool (!f)]) ∧ Below W.heap.size W w') := Lib.hid (by
        intro X W h1; rw [hn1', ← hth]; exact implFindLike_any X xs r.meth r.touch W h1 Sx.out.fit htm)
      have Hf2 : Hid (∀ X W, Recs W X L → Calls Try.prog 20 #[X, .string r.meth, .string r.touch] W fun e w' => e = .returned (.tuple #[.int .i64 n2, .bool true]) ∧ Below W.heap.size W w') := Lib.hid (by
        intro X W h1; rw [hn2', ← hno.1]; exact implFindLike_any X L r.meth r.touch W h1 HLs.out.fit htm)
      have Hgd2 : Hid (∀ X W, Recs W X L → Calls Try.prog 23 #[X] W fun e w' => e = .returned (.bool true) ∧ Below W.heap.size W w') := Lib.hid (by
        intro X W h1; rw [← hno.2]; exact implGoodBook_any X L W h1 HLs.out.fit)
      have Hrv := Lib.hid (fun W => ReverseTouch_any r.touch W hgt)
      have hrz := rev_size hz.1
      have Htn := Lib.hid (fun n W (hn : n < r.touch.size) => TurnTouch_any (revT r.touch) n W (callC_rev hgt) (by rw [hrz]; exact hn))
      have Hz := Lib.hid hz
      clear hth hno hpt hgt hz htm hn1' hn2' hrz
      go_wp2_with fail
      refine (Hf1.out _ _ ((recs_of_own Oa.out).to hBX)).mono ?_; rintro e w14 ⟨rfl, hb14⟩
      have hB14 := bw_to hBX hb14
      have R14 := fun o => RB.out w14 o hB14
      clear RX
      go_wp2_with fail
      refine (Hf2.out _ _ (recs_of_own (own_to OX.out hb14))).mono ?_; rintro e w15 ⟨rfl, hb15⟩
      have hB15 := bw_to hB14 hb15
      have O15 := Lib.hid (own_to OX.out (bw_to hb14 hb15))
      clear R14 hb14 hb15 hB14 hBX OX
      cases f
      all_goals
        go_wp2_with fail
        refine (Hgd2.out _ _ (recs_of_own O15.out)).mono ?_; rintro e w16 ⟨rfl, hb16⟩
        have hB16 := bw_to hB15 hb16
        have O16 := Lib.hid (own_to O15.out hb16)
        have R16 := fun o => RB.out w16 o hB16
        clear hb16 hB15 O15
        go_wp2_with fail
        refine (Hrv.out _).mono ?_; rintro e w17 ⟨rfl, rfl⟩
        have hmod : ∀ k : Nat, ((k : Int)).tmod (r.touch.size : Int) = ((k % r.touch.size : Nat) : Int) := fun k => by rw [Int.tmod_eq_emod_of_nonneg (by omega)]; omega
        have hdiv : ¬ ((r.touch.size : Int) = 0) := by have := Hz.out; omega
        have hdpos : 0 < r.touch.size := Hz.out.1
        have hdiv2 : ¬ (r.touch.size = 0) := by omega
        have hwr : ∀ k : Nat, IntKind.i64.wrap ((k % r.touch.size : Nat) : Int) = ((k % r.touch.size : Nat) : Int) := fun k => IntWalk.i64_in _ (by have := Nat.mod_lt k hdpos; have := Hz.out.2; omega)
        have HB16 := Lib.hid hB16
        have RR := fun W o (hb : Below w16.heap.size w16 W) => RB.out W o (bw_to HB16.out hb)
        have hst := Below.refl w16.heap.size w16
        clear R16
        go_wp2_with fail
        go_region_held3 (fun w' => Below w16.heap.size w16 w') (first | assumption | exact Below.drew (by assumption) | exact bw_to (by assumption) hb')
          (first | (go_at_call 26; refine (qNumber_any _ _ (HU.out.to (bw_to Wa.out (bw_to HB16.out (by assumption))))).mono ?_; rintro e w' ⟨k, rfl, hk, rfl⟩) | (go_at_call 25; refine (Htn.out (k % r.touch.size) _ (Nat.mod_lt _ hdpos)).mono ?_; rintro e w18 ⟨rfl, hb'⟩))
        have hB18 : Below w16.heap.size w16 w18 := by assumption
        have hkn : k % r.touch.size < r.touch.size := Nat.mod_lt _ hdpos
        have Ag := Lib.hid (Hag.out _ hkn)
        have hTz : (rotT (revT r.touch) (k % r.touch.size)).size ≤ 1048576 := by rw [rot_size (by rw [rev_size hdpos]; omega), rev_size hdpos]; exact Sr.out.2.1
        obtain ⟨T, hT⟩ : ∃ T, T = rotT (revT r.touch) (k % r.touch.size) := ⟨_, rfl⟩
        rw [← hT] at Ag hTz
        have hsm : RcSmall ⟨r.day, r.meth, T, r.rows, r.note⟩ := rc_small Sr.out.1 hTz Sr.out.2.2
        have O18 := Lib.hid (own_to O16.out hB18)
        have hBx : ∀ kk, v3.ownBlock = some kk → kk ≠ w1.heap.size := fun kk hk => by have := (O3b.out kk hk); omega
        have W18 := Lib.hid (bw_to (bw_to Wa.out HB16.out) hB18)
        have K18 := own_to (own_to KB.out HB16.out) hB18
        obtain ⟨⟨x0, x1, x2, x3, x4⟩, fb⟩ := rc_cells K18
        have O19 := Lib.hid (own_past' (g := w1.heap.size) O18.out (by cases hv : v3.ownBlock with
          | none => exact .inl rfl
          | some kk => exact .inr (fun x => by injection x with x; exact hBx kk hv x)) 2 (.string T))
        have W19 := Lib.hid (W18.out.setCell (p := ⟨w1.heap.size, 2, none⟩) hBw (.string T))
        have Had := Lib.hid (implAdd_agg v3 L ⟨r.day, r.meth, T, r.rows, r.note⟩ _ (recs_of_own O19.out) (nilok_own O19.out) HLs.out.fit hsm.fit)
        rw [← hT]
        clear hst RR hmod hdiv hdiv2 hwr hb' hk hB18 K18 hT hTz hsm hkn
        go_wp2_with fail
        refine Had.out.mono ?_; rintro e w20 ⟨v20, rfl, ho20, hb20⟩
        have hee := Ag.out
        simp only [hee.2.1, hee.2.2]
        rw [hee.1] at ho20
        have O20 := Lib.hid ho20
        have O20' := Lib.hid (own_to O19.out hb20)
        clear hee ho20
        go_wp2_with fail
        refine (qSameBook_same _ _ L _ (recs_of_own O20.out) (recs_of_own O20'.out)).mono ?_; rintro e w21 ⟨rfl, hb21⟩
        go_wp2_with fail
        go_ret
        exact ⟨rfl, bw_tr (bw_tr W19.out hb20 W19.out.size) hb21 (bw_tr W19.out hb20 W19.out.size).size⟩
  · have hMM := HM.out rfl
    have Hgd := Lib.hid (fun W h => implGoodBook_any (.slice A6 L2.length c6) L2 W h (by have := L2s.out; exact this))
    rw [hMM.1] at Hgd
    have hl1 : ya.length ≤ L2.length := hMM.2.1
    have hl2 : L2.length ≤ ya.length + yb.length := hMM.2.2
    have hl3 : decide (L2.length < ya.length) = false := decide_eq_false (by omega)
    have hl4 : decide ((ya.length : Int) + (yb.length : Int) < (L2.length : Int)) = false := decide_eq_false (by omega)
    have hl5 : ¬ ((ya.length : Int) + (yb.length : Int) < (L2.length : Int)) := by omega
    have hl6 : (L2.length : Int) ≤ (ya.length : Int) + (yb.length : Int) := by omega
    clear hMM
    go_wp2_with fail
    refine (Hgd.out _ (recs_of_own M12.out)).mono ?_; rintro e WX ⟨rfl, hb13⟩
    have hBX := bw_to hB12 hb13
    have OX := Lib.hid (own_to O12.out hb13)
    clear hb13 hB12 O12 M12
    have RX := fun o => RB.out WX o hBX
    cases q
    · go_wp2_with fail
      go_ret
      exact ⟨rfl, bw_to Wa.out hBX⟩
    · have hth := there_eq Hq.out.symm
      have hno := now_eq Hq.out.symm
      have hpt := addOx_parts Hq.out.symm
      have hgt : touchB r.touch.data.toList = true := recB_touch hpt.2.1
      have hz := touch_size hgt
      have Hag := Lib.hid (fun n hn => again_eq (n := n) Hq.out.symm hn)
      rw [← Hf.out] at hth
      rw [← HL.out] at hno Hag
      have htm : r.touch.size ≤ maxLen := by unfold maxLen; omega
      obtain ⟨n1, hn1'⟩ : ∃ n1, n1 = flN xs r.meth r.touch := ⟨_, rfl⟩
      obtain ⟨n2, hn2'⟩ : ∃ n2, n2 = flN L r.meth r.touch := ⟨_, rfl⟩
      have Hf1 : Hid (∀ X W, Recs W X xs → Calls Try.prog 20 #[X, .string r.meth, .string r.touch] W fun e w' => e = .returned (.tuple #[.int .i64 n1, .bool (!f)]) ∧ Below W.heap.size W w') := Lib.hid (by
        intro X W h1; rw [hn1', ← hth]; exact implFindLike_any X xs r.meth r.touch W h1 Sx.out.fit htm)
      have Hf2 : Hid (∀ X W, Recs W X L → Calls Try.prog 20 #[X, .string r.meth, .string r.touch] W fun e w' => e = .returned (.tuple #[.int .i64 n2, .bool true]) ∧ Below W.heap.size W w') := Lib.hid (by
        intro X W h1; rw [hn2', ← hno.1]; exact implFindLike_any X L r.meth r.touch W h1 HLs.out.fit htm)
      have Hgd2 : Hid (∀ X W, Recs W X L → Calls Try.prog 23 #[X] W fun e w' => e = .returned (.bool true) ∧ Below W.heap.size W w') := Lib.hid (by
        intro X W h1; rw [← hno.2]; exact implGoodBook_any X L W h1 HLs.out.fit)
      have Hrv := Lib.hid (fun W => ReverseTouch_any r.touch W hgt)
      have hrz := rev_size hz.1
      have Htn := Lib.hid (fun n W (hn : n < r.touch.size) => TurnTouch_any (revT r.touch) n W (callC_rev hgt) (by rw [hrz]; exact hn))
      have Hz := Lib.hid hz
      clear hth hno hpt hgt hz htm hn1' hn2' hrz
      go_wp2_with fail
      refine (Hf1.out _ _ ((recs_of_own Oa.out).to hBX)).mono ?_; rintro e w14 ⟨rfl, hb14⟩
      have hB14 := bw_to hBX hb14
      have R14 := fun o => RB.out w14 o hB14
      clear RX
      go_wp2_with fail
      refine (Hf2.out _ _ (recs_of_own (own_to OX.out hb14))).mono ?_; rintro e w15 ⟨rfl, hb15⟩
      have hB15 := bw_to hB14 hb15
      have O15 := Lib.hid (own_to OX.out (bw_to hb14 hb15))
      clear R14 hb14 hb15 hB14 hBX OX
      cases f
      all_goals
        go_wp2_with fail
        refine (Hgd2.out _ _ (recs_of_own O15.out)).mono ?_; rintro e w16 ⟨rfl, hb16⟩
        have hB16 := bw_to hB15 hb16
        have O16 := Lib.hid (own_to O15.out hb16)
        have R16 := fun o => RB.out w16 o hB16
        clear hb16 hB15 O15
        go_wp2_with fail
        refine (Hrv.out _).mono ?_; rintro e w17 ⟨rfl, rfl⟩
        have hmod : ∀ k : Nat, ((k : Int)).tmod (r.touch.size : Int) = ((k % r.touch.size : Nat) : Int) := fun k => by rw [Int.tmod_eq_emod_of_nonneg (by omega)]; omega
        have hdiv : ¬ ((r.touch.size : Int) = 0) := by have := Hz.out; omega
        have hdpos : 0 < r.touch.size := Hz.out.1
        have hdiv2 : ¬ (r.touch.size = 0) := by omega
        have hwr : ∀ k : Nat, IntKind.i64.wrap ((k % r.touch.size : Nat) : Int) = ((k % r.touch.size : Nat) : Int) := fun k => IntWalk.i64_in _ (by have := Nat.mod_lt k hdpos; have := Hz.out.2; omega)
        have HB16 := Lib.hid hB16
        have RR := fun W o (hb : Below w16.heap.size w16 W) => RB.out W o (bw_to HB16.out hb)
        have hst := Below.refl w16.heap.size w16
        clear R16
        go_wp2_with fail
        go_region_held3 (fun w' => Below w16.heap.size w16 w') (first | assumption | exact Below.drew (by assumption) | exact bw_to (by assumption) hb')
          (first | (go_at_call 26; refine (qNumber_any _ _ (HU.out.to (bw_to Wa.out (bw_to HB16.out (by assumption))))).mono ?_; rintro e w' ⟨k, rfl, hk, rfl⟩) | (go_at_call 25; refine (Htn.out (k % r.touch.size) _ (Nat.mod_lt _ hdpos)).mono ?_; rintro e w18 ⟨rfl, hb'⟩))
        have hB18 : Below w16.heap.size w16 w18 := by assumption
        have hkn : k % r.touch.size < r.touch.size := Nat.mod_lt _ hdpos
        have Ag := Lib.hid (Hag.out _ hkn)
        have hTz : (rotT (revT r.touch) (k % r.touch.size)).size ≤ 1048576 := by rw [rot_size (by rw [rev_size hdpos]; omega), rev_size hdpos]; exact Sr.out.2.1
        obtain ⟨T, hT⟩ : ∃ T, T = rotT (revT r.touch) (k % r.touch.size) := ⟨_, rfl⟩
        rw [← hT] at Ag hTz
        have hsm : RcSmall ⟨r.day, r.meth, T, r.rows, r.note⟩ := rc_small Sr.out.1 hTz Sr.out.2.2
        have O18 := Lib.hid (own_to O16.out hB18)
        have hBx : ∀ kk, v3.ownBlock = some kk → kk ≠ w1.heap.size := fun kk hk => by have := (O3b.out kk hk); omega
        have W18 := Lib.hid (bw_to (bw_to Wa.out HB16.out) hB18)
        have K18 := own_to (own_to KB.out HB16.out) hB18
        obtain ⟨⟨x0, x1, x2, x3, x4⟩, fb⟩ := rc_cells K18
        have O19 := Lib.hid (own_past' (g := w1.heap.size) O18.out (by cases hv : v3.ownBlock with
          | none => exact .inl rfl
          | some kk => exact .inr (fun x => by injection x with x; exact hBx kk hv x)) 2 (.string T))
        have W19 := Lib.hid (W18.out.setCell (p := ⟨w1.heap.size, 2, none⟩) hBw (.string T))
        have Had := Lib.hid (implAdd_agg v3 L ⟨r.day, r.meth, T, r.rows, r.note⟩ _ (recs_of_own O19.out) (nilok_own O19.out) HLs.out.fit hsm.fit)
        rw [← hT]
        clear hst RR hmod hdiv hdiv2 hwr hb' hk hB18 K18 hT hTz hsm hkn
        go_wp2_with fail
        refine Had.out.mono ?_; rintro e w20 ⟨v20, rfl, ho20, hb20⟩
        have hee := Ag.out
        simp only [hee.2.1, hee.2.2]
        rw [hee.1] at ho20
        have O20 := Lib.hid ho20
        have O20' := Lib.hid (own_to O19.out hb20)
        clear hee ho20
        go_wp2_with fail
        refine (qSameBook_same _ _ L _ (recs_of_own O20.out) (recs_of_own O20'.out)).mono ?_; rintro e w21 ⟨rfl, hb21⟩
        go_wp2_with fail
        go_ret
        exact ⟨rfl, bw_tr (bw_tr W19.out hb20 W19.out.size) hb21 (bw_tr W19.out hb20 W19.out.size).size⟩
end Go.Proofs.Ytamneiffhohleaa

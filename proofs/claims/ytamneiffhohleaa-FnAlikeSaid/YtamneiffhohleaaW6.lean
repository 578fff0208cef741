/- Contracts: two books merged, both sides. -/
import Derived.Test.YtamneiffhohleaaW3
namespace Go.Proofs.Ytamneiffhohleaa
open Go Go.RowKit
set_option linter.unusedVariables false
set_option linter.unusedSimpArgs false

theorem pos_upto {xs : List Rc} {r : Rc} : ∀ n, n ≤ xs.length → ∃ k, k ≤ n ∧ (∀ x ∈ xs.take k, x.day ≤ r.day) ∧ ∀ h : k < xs.length, k < n → r.day < (xs[k]'h).day := by
  intro n
  induction n with
  | zero => intro _; exact ⟨0, Nat.le_refl _, by simp, fun _ h => absurd h (by omega)⟩
  | succ n ih =>
    intro hn
    obtain ⟨k, hk, h1, h2⟩ := ih (by omega)
    by_cases hkn : k < n
    · exact ⟨k, by omega, h1, fun h _ => h2 h hkn⟩
    · obtain rfl : k = n := by omega
      by_cases hd : (xs[k]'(by omega)).day ≤ r.day
      · exact ⟨k + 1, Nat.le_refl _, take_leG (by omega) h1 hd, fun _ h => absurd h (by omega)⟩
      · exact ⟨k, by omega, h1, fun h _ => by omega⟩
theorem pos_ex {xs : List Rc} {r : Rc} (hb : bookB xs = true) : IsPos xs r (posR xs r) := by
  obtain ⟨k, hk, h1, h2⟩ := pos_upto (xs := xs) (r := r) xs.length (Nat.le_refl _)
  have h := pos_up hb hk h1 (fun h => h2 h h)
  rw [posR_eq h]; exact h
theorem addL_book {xs : List Rc} {r : Rc} (hb : bookB xs = true) (hr : recB r = true) (ho : addO xs r = true) : bookB (addL xs r) = true := by
  unfold addO at ho
  unfold addL
  cases hh : hasA xs r
  · rw [hh, Bool.false_or, decide_eq_true_eq] at ho
    rw [if_neg (by decide), if_pos ho, insR_bookB hb hr (pos_ex hb) hh, decide_eq_true ho]
  · rw [if_pos rfl]; exact hb
theorem addL_fit {xs : List Rc} {r : Rc} (hs : AllFit xs) (hr : RcFit r) : AllFit (addL xs r) := by
  unfold addL
  split
  · exact hs
  · split
    · exact insR_fit hs hr
    · intro x hx; cases hx
noncomputable def mergeO : List Rc → List Rc → Option (List Rc)
  | out, [] => some out
  | out, r :: t => if addO out r = true then mergeO (addL out r) t else none
theorem merge_step {out bs : List Rc} {k : Nat} {M : Option (List Rc)} (hk : k < bs.length) (h : mergeO out (bs.drop k) = M) (ho : addO out bs[k] = true) : mergeO (addL out bs[k]) (bs.drop (k + 1)) = M := by
  rw [List.drop_eq_getElem_cons hk, mergeO, if_pos ho] at h; exact h
theorem merge_none {out bs : List Rc} {k : Nat} {M : Option (List Rc)} (hk : k < bs.length) (h : mergeO out (bs.drop k) = M) (ho : addO out bs[k] = false) : M = none := by
  rw [List.drop_eq_getElem_cons hk, mergeO, if_neg (by rw [ho]; decide)] at h; exact h.symm
theorem merge_end {out bs : List Rc} {k : Nat} {M : Option (List Rc)} (hk : bs.length ≤ k) (h : mergeO out (bs.drop k) = M) : M = some out := by
  rw [List.drop_of_length_le hk] at h; exact h.symm
noncomputable def mergeM (a b : List Rc) : Option (List Rc) := if bookB a && bookB b then mergeO a b else none
noncomputable def mergeL (a b : List Rc) : List Rc := (mergeM a b).getD []
noncomputable def mergeB (a b : List Rc) : Bool := (mergeM a b).isSome
theorem mergeM_no {a b : List Rc} (h : (bookB a && bookB b) = false) : mergeM a b = none := by unfold mergeM; rw [h]; rfl
theorem mergeM_yes {a b : List Rc} (h : (bookB a && bookB b) = true) : mergeM a b = mergeO a b := by unfold mergeM; rw [h]; rfl
theorem mergeO_len : ∀ (b a : List Rc), a.length ≤ 20 → ∀ l, mergeO a b = some l → l.length ≤ 20
  | [], a, ha, l, h => by rw [mergeO] at h; injection h with h; subst h; exact ha
  | r :: t, a, ha, l, h => by
    rw [mergeO] at h
    split at h
    · exact mergeO_len t _ (addL_len ha) l h
    · cases h
theorem mergeL_len (a b : List Rc) : (mergeL a b).length ≤ 20 := by
  unfold mergeL
  cases h : mergeM a b with
  | none => simp
  | some l =>
    unfold mergeM at h
    split at h
    · rename_i hb
      rw [Bool.and_eq_true] at hb
      exact mergeO_len b a ((bookB_iff a).1 hb.1).1 l h
    · cases h
/-- What a MergeBooks gives. -/
def MergePost (w : World) (M : Option (List Rc)) (e : Ending) (w' : World) : Prop :=
  ∃ v, e = .returned (.tuple #[v, .bool M.isSome]) ∧ w'.ownsRow w.heap.size 31 5 v (M.getD []).length ((M.getD []).flatMap Rc.cells) ∧ Below w.heap.size w w'
theorem merge_post_no {w w' : World} {M : Option (List Rc)} (h : M = none) (hb : Below w.heap.size w w') : MergePost w M (.returned (.tuple #[.slice none 0 0, .bool false])) w' := by
  subst h
  exact ⟨.slice none 0 0, rfl, World.ownsRow_nil _ _ _ _, hb⟩
theorem merge_post_yes {w w' : World} {M : Option (List Rc)} {O : List Rc} {v : Value} (h : M = some O) (ho : w'.ownsRow w.heap.size 31 5 v O.length (O.flatMap Rc.cells)) (hb : Below w.heap.size w w') : MergePost w M (.returned (.tuple #[v, .bool true])) w' := by
  subst h
  exact ⟨v, rfl, ho, hb⟩
theorem addx_of {xs : List Rc} {r : Rc} (hb : bookB xs = true) (hr : recB r = true) : addLx xs r = addL xs r ∧ addFx xs r = addF xs r ∧ addOx xs r = addO xs r := addx_yes (by unfold addG; rw [hb, hr]; rfl)
theorem addRecord_mg (V : Value) (xs : List Rc) (r : Rc) (w : World) (h : Recs w V xs) (hn : NilOk V) (hs : AllFit xs) (hb : bookB xs = true) (hr : recB r = true) (hrf : RcFit r) : Calls Try.prog 33 #[V, .agg #[.int .i64 r.day, .string r.meth, .string r.touch, .int .i64 r.rows, .string r.note]] w fun e w' =>
    ∃ v, e = .returned (.tuple #[v, .bool (addF xs r), .bool (addO xs r)]) ∧ w'.ownsRow w.heap.size 31 5 v (addL xs r).length ((addL xs r).flatMap Rc.cells) ∧ Below w.heap.size w w' := addRecord_any V xs r w h hn hs hb hr hrf
theorem specAdd_mg (V : Value) (xs : List Rc) (r : Rc) (w : World) (h : Recs w V xs) (hn : NilOk V) (hs : AllFit xs) (hb : bookB xs = true) (hr : recB r = true) (hrf : RcFit r) : Calls Try.prog 8 #[V, .agg #[.int .i64 r.day, .string r.meth, .string r.touch, .int .i64 r.rows, .string r.note]] w fun e w' =>
    ∃ v, e = .returned (.tuple #[v, .bool (addF xs r), .bool (addO xs r)]) ∧ w'.ownsRow w.heap.size 31 5 v (addL xs r).length ((addL xs r).flatMap Rc.cells) ∧ Below w.heap.size w w' := by
  refine (specAddRecord_any V xs r w h hn hs hrf).mono ?_
  rintro e w' ⟨v, he, ho, hB⟩
  obtain ⟨h1, h2, h3⟩ := addx_of hb hr
  rw [h1] at ho
  rw [h2, h3] at he
  exact ⟨v, he, ho, hB⟩
set_option maxRecDepth 100000 in
set_option maxHeartbeats 4000000 in
theorem implMergeBooks_any (V U : Value) (a b : List Rc) (w : World) (ha : Recs w V a) (hb : Recs w U b) (hn : NilOk V) (hfa : AllFit a) (hfb : AllFit b) : Calls Try.prog 16 #[V, U] w (MergePost w (mergeM a b)) := by
  have Ha := Lib.hid ha
  have Hn := Lib.hid hn
  have Hfa := Lib.hid hfa
  have Hfb := Lib.hid hfb
  have hga := fun W hW => implGoodBook_any V a W hW hfa
  have hgb := fun W hW => implGoodBook_any U b W hW hfb
  have Hno := Lib.hid (fun w' => merge_post_no (w := w) (w' := w') (M := mergeM a b))
  have Hyes := Lib.hid (fun w' O v => merge_post_yes (w := w) (w' := w') (M := mergeM a b) (O := O) (v := v))
  have HMn := Lib.hid (mergeM_no (a := a) (b := b))
  have HMy := Lib.hid (mergeM_yes (a := a) (b := b))
  have Hb0 := Lib.hid hb
  obtain ⟨M, hM⟩ : ∃ M, M = mergeM a b := ⟨_, rfl⟩
  rw [← hM] at Hno Hyes HMn HMy
  rw [← hM]
  clear hM
  obtain ⟨p, hp⟩ : ∃ p, p = bookB a := ⟨_, rfl⟩
  obtain ⟨q, hq⟩ : ∃ q, q = bookB b := ⟨_, rfl⟩
  rw [← hp] at hga
  rw [← hq] at hgb
  rw [← hp, ← hq] at HMn HMy
  have Hp := Lib.hid hp
  have Hq := Lib.hid hq
  have Hga := Lib.hid hga
  have Hgb := Lib.hid hgb
  clear hp hq hga hgb ha hn hfa hfb
  obtain ⟨A, c, rfl, h1, h2, hrd⟩ := hb
  unfold maxLen at h2
  go_enter Try.func16, Try.ntmps16
  go_wp2_with fail
  refine (Hga.out _ Ha.out).mono ?_; rintro e w1 ⟨rfl, hb1⟩
  cases p
  · go_wp2_with fail
    exact bodyPost_ret (v := .tuple #[.slice none 0 0, .bool false]) (by simp [results, go_sem]) rfl (Hno.out _ (HMn.out rfl) hb1)
  · go_wp2_with fail
    refine (Hgb.out _ (Hb0.out.to hb1)).mono ?_; rintro e w2 ⟨rfl, hb2⟩
    have hB2 := bw_to hb1 hb2
    cases q
    · go_wp2_with fail
      exact bodyPost_ret (v := .tuple #[.slice none 0 0, .bool false]) (by simp [results, go_sem]) rfl (Hno.out _ (HMn.out rfl) hB2)
    · have HM := Lib.hid (HMy.out rfl)
      have hbi := (bookB_iff b).1 Hq.out.symm
      have Hgd := Lib.hid hbi.2.1
      have hal := ((bookB_iff a).1 Hp.out.symm).1
      clear hbi
      go_wp2_with fail
      refine (cloneRc_any _ a _ (Ha.out.to hB2) Hn.out (by omega)).mono ?_; rintro e w3 ⟨v3, rfl, ho3, hb3⟩
      have hB3 := bw_to hB2 hb3
      have ho3' := own_base ho3 hB2.size
      have Ho3 := Lib.hid ho3'
      clear ho3 ho3'
      go_wp2_with fail
      go_loopw [6, 24] (fun o i wr => ∃ k : Nat, ∃ O : List Rc, k ≤ b.length ∧ i = .int .i64 k ∧ Hid (wr.ownsRow w.heap.size 31 5 o O.length (O.flatMap Rc.cells) ∧ bookB O = true ∧ AllFit O ∧ mergeO O (b.drop k) = M) ∧ Below w.heap.size w wr) (fun _ i _ => b.length - (intOf i).toNat)
      case atStart => exact ⟨0, a, by omega, rfl, Lib.hid ⟨Ho3.out, Hp.out.symm, Hfa.out, by rw [HM.out]; rfl⟩, hB3⟩
      case round =>
        obtain ⟨k, O, hk, rfl, HO, hB⟩ := hrel
        by_cases hlt : k < b.length
        · obtain ⟨ad, rfl, hC⟩ := recs_el hrd rfl hlt
          have hC0 := hC wr hB
          have hgk := Hgd.out _ (List.getElem_mem hlt)
          have hfk := Hfb.out _ (List.getElem_mem hlt)
          have Hstep := Lib.hid (merge_step hlt HO.out.2.2.2)
          have Hnone := Lib.hid (merge_none hlt HO.out.2.2.2)
          have Hbk := Lib.hid (addL_book HO.out.2.1 hgk)
          have Hft := Lib.hid (addL_fit HO.out.2.2.1 hfk)
          have Had := Lib.hid (fun w h => addRecord_mg _ O b[k] w h (nilok_own HO.out.1) HO.out.2.2.1 HO.out.2.1 hgk hfk)
          have Hrow := Lib.hid (recs_of_own HO.out.1)
          obtain ⟨L, hL⟩ : ∃ L, L = addL O b[k] := ⟨_, rfl⟩
          obtain ⟨F, hF⟩ : ∃ F, F = addF O b[k] := ⟨_, rfl⟩
          obtain ⟨o, ho⟩ : ∃ o, o = addO O b[k] := ⟨_, rfl⟩
          rw [← ho] at Hstep Hnone Hbk
          rw [← hL] at Hstep Hbk Hft
          rw [← hL, ← hF, ← ho] at Had
          obtain ⟨y, ey⟩ : ∃ y, y = b[k] := ⟨_, rfl⟩
          rw [← ey] at hC0 Had
          clear hC hgk hfk hL hF ho ey
          go_wp2_with fail
          refine (Had.out _ (Hrow.out.to (bw_al (Below.refl _ _) _))).mono ?_; rintro e w5 ⟨v5, rfl, ho5, hb5⟩
          have hB5 := bw_to (bw_al hB _) hb5
          cases o
          · go_wp2_with fail
            exact bodyPost_ret (v := .tuple #[.slice none 0 0, .bool false]) (by simp [results, go_sem]) rfl (Hno.out _ (Hnone.out (by simp)) hB5)
          · have ho6 := own_base ho5 (bw_al hB _).size
            have HN := Lib.hid (show w5.ownsRow w.heap.size 31 5 v5 L.length (L.flatMap Rc.cells) ∧ bookB L = true ∧ AllFit L ∧ mergeO L (b.drop (k + 1)) = M from ⟨ho6, Hbk.out (by simp), Hft.out, Hstep.out (by simp)⟩)
            clear ho5 ho6
            go_wp2_with fail
            exact ⟨⟨k + 1, L, by omega, by go_num, HN, hB5⟩, by simp [intOf]; omega⟩
        · go_wp2_with fail
          have hfin := Hyes.out _ O _ (merge_end (by omega) HO.out.2.2.2) HO.out.1 hB
          exact bodyPost_ret (v := .tuple #[_, .bool true]) (by simp [results, go_sem]) rfl hfin
set_option maxRecDepth 100000 in
set_option maxHeartbeats 4000000 in
theorem specMergeBooks_any (V U : Value) (a b : List Rc) (w : World) (ha : Recs w V a) (hb : Recs w U b) (hn : NilOk V) (hfa : AllFit a) (hfb : AllFit b) : Calls Try.prog 15 #[V, U] w (MergePost w (mergeM a b)) := by
  have Ha := Lib.hid ha
  have Hn := Lib.hid hn
  have Hfa := Lib.hid hfa
  have Hfb := Lib.hid hfb
  have hga := fun W hW => l28Book_any V a W hW hfa
  have hgb := fun W hW => l28Book_any U b W hW hfb
  have Hno := Lib.hid (fun w' => merge_post_no (w := w) (w' := w') (M := mergeM a b))
  have Hyes := Lib.hid (fun w' O v => merge_post_yes (w := w) (w' := w') (M := mergeM a b) (O := O) (v := v))
  have HMn := Lib.hid (mergeM_no (a := a) (b := b))
  have HMy := Lib.hid (mergeM_yes (a := a) (b := b))
  have Hb0 := Lib.hid hb
  obtain ⟨M, hM⟩ : ∃ M, M = mergeM a b := ⟨_, rfl⟩
  rw [← hM] at Hno Hyes HMn HMy
  rw [← hM]
  clear hM
  obtain ⟨p, hp⟩ : ∃ p, p = bookB a := ⟨_, rfl⟩
  obtain ⟨q, hq⟩ : ∃ q, q = bookB b := ⟨_, rfl⟩
  rw [← hp] at hga
  rw [← hq] at hgb
  rw [← hp, ← hq] at HMn HMy
  have Hp := Lib.hid hp
  have Hq := Lib.hid hq
  have Hga := Lib.hid hga
  have Hgb := Lib.hid hgb
  clear hp hq hga hgb ha hn hfa hfb
  obtain ⟨A, c, rfl, h1, h2, hrd⟩ := hb
  unfold maxLen at h2
  go_enter Try.func15, Try.ntmps15
  go_wp2_with fail
  refine (Hga.out _ Ha.out).mono ?_; rintro e w1 ⟨rfl, hb1⟩
  cases p
  · go_wp2_with fail
    exact bodyPost_ret (v := .tuple #[.slice none 0 0, .bool false]) (by simp [results, go_sem]) rfl (Hno.out _ (HMn.out rfl) hb1)
  · go_wp2_with fail
    refine (Hgb.out _ (Hb0.out.to hb1)).mono ?_; rintro e w2 ⟨rfl, hb2⟩
    have hB2 := bw_to hb1 hb2
    cases q
    · go_wp2_with fail
      exact bodyPost_ret (v := .tuple #[.slice none 0 0, .bool false]) (by simp [results, go_sem]) rfl (Hno.out _ (HMn.out rfl) hB2)
    · have HM := Lib.hid (HMy.out rfl)
      have hbi := (bookB_iff b).1 Hq.out.symm
      have Hgd := Lib.hid hbi.2.1
      have hal := ((bookB_iff a).1 Hp.out.symm).1
      clear hbi
      go_wp2_with fail
      refine (l28Own_any _ a _ (Ha.out.to hB2) Hn.out (by omega)).mono ?_; rintro e w3 ⟨v3, rfl, ho3, hb3⟩
      have hB3 := bw_to hB2 hb3
      have ho3' := own_base ho3 hB2.size
      have Ho3 := Lib.hid ho3'
      clear ho3 ho3'
      go_wp2_with fail
      go_loopw [6, 24] (fun o i wr => ∃ k : Nat, ∃ O : List Rc, k ≤ b.length ∧ i = .int .i64 k ∧ Hid (wr.ownsRow w.heap.size 31 5 o O.length (O.flatMap Rc.cells) ∧ bookB O = true ∧ AllFit O ∧ mergeO O (b.drop k) = M) ∧ Below w.heap.size w wr) (fun _ i _ => b.length - (intOf i).toNat)
      case atStart => exact ⟨0, a, by omega, rfl, Lib.hid ⟨Ho3.out, Hp.out.symm, Hfa.out, by rw [HM.out]; rfl⟩, hB3⟩
      case round =>
        obtain ⟨k, O, hk, rfl, HO, hB⟩ := hrel
        by_cases hlt : k < b.length
        · obtain ⟨ad, rfl, hC⟩ := recs_el hrd rfl hlt
          have hC0 := hC wr hB
          have hgk := Hgd.out _ (List.getElem_mem hlt)
          have hfk := Hfb.out _ (List.getElem_mem hlt)
          have Hstep := Lib.hid (merge_step hlt HO.out.2.2.2)
          have Hnone := Lib.hid (merge_none hlt HO.out.2.2.2)
          have Hbk := Lib.hid (addL_book HO.out.2.1 hgk)
          have Hft := Lib.hid (addL_fit HO.out.2.2.1 hfk)
          have Had := Lib.hid (fun w h => specAdd_mg _ O b[k] w h (nilok_own HO.out.1) HO.out.2.2.1 HO.out.2.1 hgk hfk)
          have Hrow := Lib.hid (recs_of_own HO.out.1)
          obtain ⟨L, hL⟩ : ∃ L, L = addL O b[k] := ⟨_, rfl⟩
          obtain ⟨F, hF⟩ : ∃ F, F = addF O b[k] := ⟨_, rfl⟩
          obtain ⟨o, ho⟩ : ∃ o, o = addO O b[k] := ⟨_, rfl⟩
          rw [← ho] at Hstep Hnone Hbk
          rw [← hL] at Hstep Hbk Hft
          rw [← hL, ← hF, ← ho] at Had
          obtain ⟨y, ey⟩ : ∃ y, y = b[k] := ⟨_, rfl⟩
          rw [← ey] at hC0 Had
          clear hC hgk hfk hL hF ho ey
          go_wp2_with fail
          refine (Had.out _ (Hrow.out.to (bw_al (Below.refl _ _) _))).mono ?_; rintro e w5 ⟨v5, rfl, ho5, hb5⟩
          have hB5 := bw_to (bw_al hB _) hb5
          cases o
          · go_wp2_with fail
            exact bodyPost_ret (v := .tuple #[.slice none 0 0, .bool false]) (by simp [results, go_sem]) rfl (Hno.out _ (Hnone.out (by simp)) hB5)
          · have ho6 := own_base ho5 (bw_al hB _).size
            have HN := Lib.hid (show w5.ownsRow w.heap.size 31 5 v5 L.length (L.flatMap Rc.cells) ∧ bookB L = true ∧ AllFit L ∧ mergeO L (b.drop (k + 1)) = M from ⟨ho6, Hbk.out (by simp), Hft.out, Hstep.out (by simp)⟩)
            clear ho5 ho6
            go_wp2_with fail
            exact ⟨⟨k + 1, L, by omega, by go_num, HN, hB5⟩, by simp [intOf]; omega⟩
        · go_wp2_with fail
          have hfin := Hyes.out _ O _ (merge_end (by omega) HO.out.2.2.2) HO.out.1 hB
          exact bodyPost_ret (v := .tuple #[_, .bool true]) (by simp [results, go_sem]) rfl hfin
end Go.Proofs.Ytamneiffhohleaa

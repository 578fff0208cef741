/- Contracts: a record added to a book, both sides. -/
import Derived.Test.YtamneiffhohleaaI1
import Derived.Test.YtamneiffhohleaaP6
namespace Go.Proofs.Ytamneiffhohleaa
open Go Go.RowKit
set_option linter.unusedVariables false
set_option linter.unusedSimpArgs false

theorem bsz {a w : World} (h : Below a.heap.size a w) : a.heap.size ≤ w.heap.size := h.size
theorem rc_one1 (r : Rc) : ∀ u ∈ [Value.int .i64 r.day, .string r.meth, .string r.touch, .int .i64 r.rows, .string r.note], u.oneCell' = true := fun u hu => rc_one [r] u (by simpa [Rc.cells] using hu)
theorem insRc_any (base n i H : Nat) (v : Value) (cs vs : List Value) (w : World) (hown : w.ownsRow base 31 5 v n cs) (hi : i ≤ n) (hn : n ≤ 100000) (hbase : base ≤ w.heap.size)
    (hv : w.heap[H]? = some (.cells vs.toArray 31 (0, 0))) (hvl : vs.length = 5) (h1 : ∀ u ∈ vs, u.oneCell' = true) (h1c : ∀ u ∈ cs, u.oneCell' = true) (hH : ∀ k, v.ownBlock = some k → k ≠ H) :
    Calls Try.prog 59 #[v, .int .i64 i, .slice (some ⟨H, 0, none⟩) 1 1] w fun e w' =>
      ∃ r, e = .returned r ∧ w'.ownsRow base 31 5 r (n + 1) (cs.take (i * 5) ++ vs ++ cs.drop (i * 5)) ∧ Below base w w' := by
  have hcl := hown.1
  by_cases hin : i = n
  · subst hin
    refine (insRc_end base i H v cs vs w hown hn hbase hv hvl h1).mono ?_
    rintro e w' ⟨r, he, ho, hb⟩
    refine ⟨r, he, ?_, hb⟩
    rw [List.take_of_length_le (by omega), List.drop_of_length_le (by omega), List.append_nil]
    exact ho
  · obtain ⟨g, c, rfl, _, _⟩ := hown.form (by omega)
    have hHg : H ≠ g := fun e => hH g rfl e.symm
    by_cases hr : n + 1 ≤ c
    · exact insRc_shift base n c g i H cs vs w hown (by omega) hr hv hvl h1 h1c hHg
    · exact insRc_grow base n c g i H cs vs w hown (by omega) hn (by omega) hbase hv hvl h1 h1c
theorem ar1_any (x : Rc) (m t : ByteArray) (g : Nat) (w : World) (hg : ∀ w', Below w.heap.size w w' → w'.cell? ⟨g, 1, none⟩ = some (.string m) ∧ w'.cell? ⟨g, 2, none⟩ = some (.string t)) (hx : goodT x.touch) (ht : goodT t) :
    Calls Try.prog 58 #[x.v, .pointer (some ⟨g, 0, none⟩)] w fun e w' => e = .returned (.bool (alikeP m t x)) ∧ Below w.heap.size w w' := by
  have Ha := Lib.hid (fun w => alike_any x m t w hx ht)
  unfold Rc.v at Ha ⊢
  have hg0 := hg _ (bw_al (Below.refl _ _) (.cells #[.int .i64 x.day, .string x.meth, .string x.touch, .int .i64 x.rows, .string x.note] 31))
  clear hg
  go_enter Try.func58, Try.ntmps58
  go_wp2_with fail
  refine (Ha.out _).mono ?_; rintro e w1 ⟨rfl, hb1⟩
  go_wp2_with fail
  go_ret
  exact ⟨rfl, bw_to (bw_al (Below.refl _ _) _) hb1⟩
theorem take_leG {xs : List Rc} {r : Rc} {k : Nat} (hk : k < xs.length) (h : ∀ x ∈ xs.take k, x.day ≤ r.day) (h1 : (xs[k]'hk).day ≤ r.day) : ∀ x ∈ xs.take (k + 1), x.day ≤ r.day := take_allG (p := fun x => x.day ≤ r.day) hk h h1
set_option maxRecDepth 100000 in
set_option maxHeartbeats 1000000 in
theorem addRecord_any (V : Value) (xs : List Rc) (r : Rc) (w : World) (h : Recs w V xs) (hn : NilOk V) (hs : AllFit xs) (hb : bookB xs = true) (hr : recB r = true) (hrf : RcFit r) : Calls Try.prog 33 #[V, r.v] w fun e w' =>
    ∃ v, e = .returned (.tuple #[v, .bool (addF xs r), .bool (addO xs r)]) ∧ w'.ownsRow w.heap.size 31 5 v (addL xs r).length ((addL xs r).flatMap Rc.cells) ∧ Below w.heap.size w w' := by
  have h0 := h
  have hbi := (bookB_iff xs).1 hb
  have hlen := hbi.1
  have Hgd := Lib.hid hbi.2.1
  have Hrt := Lib.hid (recB_touch hr)
  have Hup := Lib.hid (fun k => pos_up (r := r) (k := k) hb)
  have Hbk := Lib.hid (fun k => insR_bookB (r := r) (k := k) hb hr)
  have Hhas := Lib.hid (add_has (xs := xs) (r := r))
  have Hnew := Lib.hid (fun k => add_new (xs := xs) (r := r) (k := k))
  have Hfull := Lib.hid (add_full (xs := xs) (r := r))
  have Hfit := Lib.hid (fun k => insR_fit (k := k) hs hrf)
  obtain ⟨L, hL⟩ : ∃ L, L = addL xs r := ⟨_, rfl⟩
  obtain ⟨F, hF⟩ : ∃ F, F = addF xs r := ⟨_, rfl⟩
  obtain ⟨O, hO⟩ : ∃ O, O = addO xs r := ⟨_, rfl⟩
  rw [← hL, ← hF, ← hO]
  rw [← hL, ← hF, ← hO] at Hhas Hfull
  have Hnew2 : Hid (∀ k, hasA xs r = false → IsPos xs r k → xs.length + 1 ≤ 20 → L = insR xs k r ∧ F = true ∧ O = true) := by rw [hL, hF, hO]; exact Hnew
  clear hL hF hO Hnew hb hr hbi hs hrf
  obtain ⟨A, c, rfl, h1, h2, hrd⟩ := h
  unfold maxLen at h2
  have H0 := Lib.hid h0
  have Hn := Lib.hid hn
  clear h0 hn
  unfold Rc.v
  go_enter Try.func33, Try.ntmps33
  go_wp2_with fail
  refine box1 (C := fun W => Calls _ _ _ W _) ?_
  intro wb hw k1 hB0
  have RK := boxRule k1
  have HRK := Lib.hid RK
  have hHb : w.heap.size < wb.heap.size := blk_ltR k1
  have Hk1 := Lib.hid k1
  clear k1 RK
  obtain ⟨q, hq⟩ : ∃ q, q = xs.any (alikeP r.meth r.touch) := ⟨_, rfl⟩
  have hc := containsR_ar _ xs (alikeP r.meth r.touch) (.pointer (some ⟨w.heap.size, 0, none⟩)) wb (H0.out.to hw)
    (fun x hx w' hb' => ar1_any x _ _ _ w' (fun w2 hb2 => ⟨HRK.out w2 1 (bw_to hb' hb2), HRK.out w2 2 (bw_to hb' hb2)⟩) (recB_touch (Hgd.out x hx)) Hrt.out)
  rw [← hq] at hc
  have Hq : Hid (hasA xs r = q) := Lib.hid hq.symm
  clear hq
  refine hc.mono ?_; rintro e w1 ⟨rfl, hb1⟩
  clear hc
  have hB1 := bw_to hw hb1
  cases q
  · go_wp2_with fail
    go_loopw [7] (fun i wr => ∃ k : Nat, k ≤ xs.length ∧ i = .int .i64 k ∧ (∀ x ∈ xs.take k, x.day ≤ r.day) ∧ Below wb.heap.size wb wr) (fun i _ => xs.length - (intOf i).toNat)
    case atStart => exact ⟨0, by omega, rfl, by simp, hb1⟩
    case round =>
      obtain ⟨k, hk, rfl, hle, hB⟩ := hrel
      have Hle := Lib.hid hle
      clear hle
      by_cases hlt : k < xs.length
      · obtain ⟨ad, rfl, hC⟩ := recs_el hrd rfl hlt
        have hc0 := hC wr (bw_to hw hB)
        have hr0 := fun o => HRK.out wr o hB
        have Htk := Lib.hid (take_leG hlt Hle.out)
        have Hps := Lib.hid (Hup.out k hk Hle.out)
        obtain ⟨x, ex⟩ : ∃ x, x = xs[k] := ⟨_, rfl⟩
        rw [← ex] at hc0 Htk
        have Hex := Lib.hid ex
        clear hC ex
        cases hd : decide (x.day ≤ r.day)
        · go_wp2_with fail
          go_big_quiet (fail)
          have hpos : IsPos xs r k := Hps.out (fun h => by have e := Hex.out; rw [e] at hd; simpa using hd)
          have HP := Lib.hid hpos
          have Hgb := Lib.hid (Hbk.out k HP.out Hq.out)
          have hBq := bw_dr hB nq
          have hkx : k ≤ xs.length := hk
          generalize wr.drewN nq = wq at hBq ⊢
          have Hr1 := fun W o (hW : Below wb.heap.size wb W) => HRK.out W o hW
          go_wp2_with fail
          go_region_held3 (fun w' => Below wb.heap.size wb w') (first | exact Below.drew (by assumption) | exact bw_al (by assumption) _ | exact bw_tr (by assumption) hbi (Nat.le_refl _) | exact bw_to (by assumption) hb')
            (first | (go_at_call 36; refine (cloneRc_any _ xs _ (H0.out.to (bw_to hw (by assumption))) Hn.out (by omega)).mono ?_; rintro e w2 ⟨v2, rfl, ho2, hb'⟩; (have ho3 := own_base ho2 (bsz (a := wb) (by assumption)))) | (go_at_call 59; refine (insRc_any wb.heap.size xs.length k _ v2 _ [.int .i64 r.day, .string r.meth, .string r.touch, .int .i64 r.rows, .string r.note] _ (by first | exact own_to ho3 (bw_al (Below.refl _ _) _) | exact ho3) hkx (by omega) (bsz (a := wb) (by assumption)) (by first | exact heap_new _ _ | exact (hb'.block _ (by simp)).trans (heap_new _ _)) rfl (rc_one1 r) (rc_one xs) (by first | exact (fun k hk => Nat.ne_of_lt (ho3.lt k hk).2) | exact (fun k hk => Nat.ne_of_gt (Nat.lt_of_lt_of_le (by simp) (ho2.lt k hk).1)))).mono ?_; rintro e w3 ⟨v3, rfl, ho4, hbi⟩))
          all_goals
            have hB3 : Below wb.heap.size wb w3 := by assumption
            have ho5 : w3.ownsRow wb.heap.size 31 5 v3 (insR xs k r).length ((insR xs k r).flatMap Rc.cells) := by
              rw [insR_len hkx, ← insR_cells]; exact ho4
            have Ho5 := Lib.hid ho5
            have Hgbk := Lib.hid (fun W hW => implGoodBook_any v3 (insR xs k r) W hW (Hfit.out k))
            rw [Hgb.out] at Hgbk
            have hbw : Below w.heap.size w w3 := bw_to hw hB3
            clear ho2 ho3 ho4 ho5 hb' hbi Hr1 hBq
            by_cases hl : xs.length + 1 ≤ 20
            · have Hy := Lib.hid (Hnew2.out k Hq.out HP.out hl)
              rw [decide_eq_true hl] at Hgbk
              go_wp2_with fail
              refine (Hgbk.out _ (recs_of_own Ho5.out)).mono ?_; rintro e w4 ⟨rfl, hb4⟩
              go_wp2_with fail
              refine bodyPost_ret (v := .tuple #[v3, .bool true, .bool true]) (by simp [results, go_sem]) rfl ⟨v3, ?_, ?_, bw_to hbw hb4⟩
              · rw [Hy.out.2.1, Hy.out.2.2]
              · rw [Hy.out.1]; exact own_base (own_to Ho5.out hb4) hw.size
            · have Hy := Lib.hid (Hfull.out Hq.out hl)
              rw [decide_eq_false hl] at Hgbk
              go_wp2_with fail
              refine (Hgbk.out _ (recs_of_own Ho5.out)).mono ?_; rintro e w4 ⟨rfl, hb4⟩
              go_wp2_with fail
              refine bodyPost_ret (v := .tuple #[.slice none 0 0, .bool false, .bool false]) (by simp [results, go_sem]) rfl ⟨.slice none 0 0, ?_, ?_, bw_to hbw hb4⟩
              · rw [Hy.out.2.1, Hy.out.2.2]
              · rw [Hy.out.1]; exact World.ownsRow_nil _ _ _ _
        · go_wp2_with fail
          go_big_quiet (fail)
          go_wp2_with fail
          exact ⟨⟨k + 1, by omega, by go_num, Htk.out (by simpa using hd), bw_dr hB _⟩, by simp [intOf]; omega⟩
      · go_wp2_with fail
        go_big_quiet (fail)
        have hpos : IsPos xs r k := Hup.out k hk Hle.out (fun h => absurd h hlt)
        have HP := Lib.hid hpos
        have Hgb := Lib.hid (Hbk.out k HP.out Hq.out)
        have hBq := bw_dr hB nq
        have hkx : k ≤ xs.length := hk
        generalize wr.drewN nq = wq at hBq ⊢
        have Hr1 := fun W o (hW : Below wb.heap.size wb W) => HRK.out W o hW
        go_wp2_with fail
        go_region_held3 (fun w' => Below wb.heap.size wb w') (first | exact Below.drew (by assumption) | exact bw_al (by assumption) _ | exact bw_tr (by assumption) hbi (Nat.le_refl _) | exact bw_to (by assumption) hb')
          (first | (go_at_call 36; refine (cloneRc_any _ xs _ (H0.out.to (bw_to hw (by assumption))) Hn.out (by omega)).mono ?_; rintro e w2 ⟨v2, rfl, ho2, hb'⟩; (have ho3 := own_base ho2 (bsz (a := wb) (by assumption)))) | (go_at_call 59; refine (insRc_any wb.heap.size xs.length k _ v2 _ [.int .i64 r.day, .string r.meth, .string r.touch, .int .i64 r.rows, .string r.note] _ (by first | exact own_to ho3 (bw_al (Below.refl _ _) _) | exact ho3) hkx (by omega) (bsz (a := wb) (by assumption)) (by first | exact heap_new _ _ | exact (hb'.block _ (by simp)).trans (heap_new _ _)) rfl (rc_one1 r) (rc_one xs) (by first | exact (fun k hk => Nat.ne_of_lt (ho3.lt k hk).2) | exact (fun k hk => Nat.ne_of_gt (Nat.lt_of_lt_of_le (by simp) (ho2.lt k hk).1)))).mono ?_; rintro e w3 ⟨v3, rfl, ho4, hbi⟩))
        all_goals
          have hB3 : Below wb.heap.size wb w3 := by assumption
          have ho5 : w3.ownsRow wb.heap.size 31 5 v3 (insR xs k r).length ((insR xs k r).flatMap Rc.cells) := by
            rw [insR_len hkx, ← insR_cells]; exact ho4
          have Ho5 := Lib.hid ho5
          have Hgbk := Lib.hid (fun W hW => implGoodBook_any v3 (insR xs k r) W hW (Hfit.out k))
          rw [Hgb.out] at Hgbk
          have hbw : Below w.heap.size w w3 := bw_to hw hB3
          clear ho2 ho3 ho4 ho5 hb' hbi Hr1 hBq
          by_cases hl : xs.length + 1 ≤ 20
          · have Hy := Lib.hid (Hnew2.out k Hq.out HP.out hl)
            rw [decide_eq_true hl] at Hgbk
            go_wp2_with fail
            refine (Hgbk.out _ (recs_of_own Ho5.out)).mono ?_; rintro e w4 ⟨rfl, hb4⟩
            go_wp2_with fail
            refine bodyPost_ret (v := .tuple #[v3, .bool true, .bool true]) (by simp [results, go_sem]) rfl ⟨v3, ?_, ?_, bw_to hbw hb4⟩
            · rw [Hy.out.2.1, Hy.out.2.2]
            · rw [Hy.out.1]; exact own_base (own_to Ho5.out hb4) hw.size
          · have Hy := Lib.hid (Hfull.out Hq.out hl)
            rw [decide_eq_false hl] at Hgbk
            go_wp2_with fail
            refine (Hgbk.out _ (recs_of_own Ho5.out)).mono ?_; rintro e w4 ⟨rfl, hb4⟩
            go_wp2_with fail
            refine bodyPost_ret (v := .tuple #[.slice none 0 0, .bool false, .bool false]) (by simp [results, go_sem]) rfl ⟨.slice none 0 0, ?_, ?_, bw_to hbw hb4⟩
            · rw [Hy.out.2.1, Hy.out.2.2]
            · rw [Hy.out.1]; exact World.ownsRow_nil _ _ _ _
  · have Hh := Lib.hid (Hhas.out Hq.out)
    go_wp2_with fail
    refine (cloneRc_any _ xs _ (H0.out.to hB1) Hn.out (by omega)).mono ?_; rintro e w2 ⟨v2, rfl, ho2, hb2⟩
    go_wp2_with fail
    refine bodyPost_ret (v := .tuple #[v2, .bool false, .bool true]) (by simp [results, go_sem]) rfl ⟨v2, ?_, ?_, bw_to hB1 hb2⟩
    · rw [Hh.out.2.1, Hh.out.2.2]
    · rw [Hh.out.1]; exact own_base ho2 hB1.size
end Go.Proofs.Ytamneiffhohleaa

/- Contracts: a record added to a book: the reference's, and both AddRecords. -/
import Derived.Test.YtpkpahadjdkafaaGreatDoorW2
namespace Go.Proofs.YtpkpahadjdkafaaGreatDoor
open Go Go.RowKit
set_option linter.unusedVariables false
set_option linter.unusedSimpArgs false

theorem l28Alike_bs {x r : Rc} {w : World} (hx : goodT x.touch) (ht : goodT r.touch) : Calls Tryz.prog 41 #[.agg #[.int .i64 x.day, .string x.meth, .string x.touch, .int .i64 x.rows, .string x.note], .agg #[.int .i64 r.day, .string r.meth, .string r.touch, .int .i64 r.rows, .string r.note]] w fun e w' => e = .returned (.bool (alikeP r.meth r.touch x)) ∧ Below w.heap.size w w' := l28Alike_any x r w hx ht
set_option maxRecDepth 100000 in
set_option maxHeartbeats 2000000 in
theorem l28Find_any (V : Value) (xs : List Rc) (r : Rc) (w : World) (h : Recs w V xs) (hg : ∀ x ∈ xs, recB x = true) (hr : goodT r.touch) : Calls Tryz.prog 65 #[V, r.v] w fun e w' =>
    e = .returned (.int .i64 (ixR (alikeP r.meth r.touch) 0 xs)) ∧ Below w.heap.size w w' := by
  obtain ⟨A, c, rfl, h1, h2, hrd⟩ := h
  unfold maxLen at h2
  have Hg := Lib.hid hg
  clear hg
  obtain ⟨p, hp⟩ : ∃ p, p = alikeP r.meth r.touch := ⟨_, rfl⟩
  rw [← hp]
  have Hp := Lib.hid hp
  clear hp
  unfold Rc.v
  go_enter Tryz.func65, Tryz.ntmps65
  go_wp2_with fail
  refine box1 (C := fun W => Code.wp _ _ _ _ W) ?_
  intro wb hw k1 hB0
  have RK := boxRule k1
  have HRK := Lib.hid RK
  clear k1 RK
  go_wp2_with fail
  go_loopw [9] (fun i wr => ∃ k : Nat, k ≤ xs.length ∧ i = .int .i64 k ∧ ixR p k (xs.drop k) = ixR p 0 xs ∧ Below wb.heap.size wb wr) (fun i _ => xs.length - (intOf i).toNat)
  case atStart => exact ⟨0, by omega, rfl, rfl, Below.refl _ _⟩
  case round =>
    obtain ⟨k, hk, rfl, hok, hB⟩ := hrel
    have Hok := Lib.hid hok
    clear hok
    by_cases hlt : k < xs.length
    · obtain ⟨ad, rfl, hC⟩ := recs_el hrd rfl hlt
      have H1 := Lib.hid (ixR_hit hlt Hok.out)
      have H2 := Lib.hid (ixR_step hlt Hok.out)
      have Hal := Lib.hid (fun w => l28Alike_bs (x := xs[k]) (r := r) (w := w) (recB_touch (Hg.out _ (List.getElem_mem hlt))) hr)
      rw [← Hp.out] at Hal
      obtain ⟨q, hq⟩ : ∃ q, q = p xs[k] := ⟨_, rfl⟩
      rw [← hq] at H1 H2 Hal
      have hC0 := hC wr (bw_to hw hB)
      obtain ⟨y, ey⟩ : ∃ y, y = xs[k] := ⟨_, rfl⟩
      rw [← ey] at hC0 Hal
      clear hC ey hq
      have hR5 := fun o => HRK.out (wr.alloc (.cells #[.int .i64 y.day, .string y.meth, .string y.touch, .int .i64 y.rows, .string y.note] 39)) o (bw_al hB _)
      go_wp2_with fail
      refine (Hal.out _).mono ?_; rintro e w6 ⟨rfl, hb6⟩
      cases q
      · go_wp2_with fail
        exact ⟨⟨k + 1, by omega, by go_num, H2.out (by simp), bw_to (bw_al hB _) hb6⟩, by simp [intOf]; omega⟩
      · go_wp2_with fail
        go_ret
        exact ⟨ret_int (H1.out (by simp)).symm, bw_to hw (bw_to (bw_al hB _) hb6)⟩
    · go_wp2_with fail
      go_ret
      exact ⟨ret_int (ixR_end (by omega) Hok.out).symm, bw_to hw hB⟩
theorem recs_from {w : World} {ad : Addr} {c k n : Nat} {xs : List Rc} (h : Recs w (.slice (some ad) n c) xs) (hn : xs.length = n) (hk : k ≤ n) : Recs w (.slice (if c = k then some ad else some (ad.add (k * 5))) (n - k) (c - k)) (xs.drop k) := by
  subst hn
  obtain ⟨A, c', e, h1, h2, hr⟩ := h
  cases e
  have hlk : (xs.drop k).length = xs.length - k := by simp
  refine ⟨_, _, by rw [hlk], by rw [hlk]; omega, by omega, ?_⟩
  rw [hlk, ← (flat_cut xs k).2]
  exact hr.cut hk h1
theorem recs_to {w : World} {ad : Addr} {c k n : Nat} {xs : List Rc} (h : Recs w (.slice (some ad) n c) xs) (hn : xs.length = n) (hk : k ≤ n) : Recs w (.slice (some ad) k c) (xs.take k) := recs_upto h hn hk
theorem nilok_if {p : Prop} [Decidable p] {a b : Addr} {n c : Nat} : NilOk (.slice (if p then some a else some b) n c) := by
  intro n' c' h
  split at h <;> (injection h with h1 _ _; cases h1)
theorem nilok_ad {a : Addr} {n c : Nat} : NilOk (.slice (some a) n c) := by
  intro n' c' h
  injection h with h1 _ _; cases h1
theorem nilok_nil : NilOk (.slice none 0 0) := fun n c h => by injection h with _ h1 h2; exact ⟨h1.symm, h2.symm⟩
theorem insR_flat (xs : List Rc) (k : Nat) (r : Rc) : (xs.take k).flatMap Rc.cells ++ [.int .i64 r.day, .string r.meth, .string r.touch, .int .i64 r.rows, .string r.note] ++ (xs.drop k).flatMap Rc.cells = (insR xs k r).flatMap Rc.cells := by
  unfold insR; simp [List.flatMap_append, Rc.cells]
theorem sl_one {w : World} {H : Nat} (r : Rc) (h : w.heap[H]? = some (.cells #[.int .i64 r.day, .string r.meth, .string r.touch, .int .i64 r.rows, .string r.note] 39 (0, 0))) :
    Sl w 5 (.slice (some ⟨H, 0, none⟩) 1 1) 1 [.int .i64 r.day, .string r.meth, .string r.touch, .int .i64 r.rows, .string r.note] :=
  sl_of_own (base := 0) (e := 39) (own_of_heap h (Nat.zero_le _) (by unfold maxLen; omega) rfl)
set_option maxRecDepth 100000 in
set_option maxHeartbeats 4000000 in
theorem l28Put_any (V : Value) (xs : List Rc) (r : Rc) (w : World) (h : Recs w V xs) (hn : NilOk V) (hb : bookB xs = true) : Calls Tryz.prog 66 #[V, r.v] w fun e w' =>
    ∃ A q, e = .returned (.slice A (xs.length + 1) q) ∧ w'.ownsRow w.heap.size 39 5 (.slice A (xs.length + 1) q) (xs.length + 1) ((insR xs (posR xs r) r).flatMap Rc.cells) ∧ Below w.heap.size w w' := by
  have hlen := ((bookB_iff xs).1 hb).1
  have h0 := h
  obtain ⟨A, c, rfl, h1, h2, hrd⟩ := h
  unfold maxLen at h2
  have Hdown := Lib.hid (fun k => pos_down (r := r) (k := k) hb)
  have Hn := Lib.hid hn
  have H0 := Lib.hid h0
  clear hb hn h0
  unfold Rc.v
  go_enter Tryz.func66, Tryz.ntmps66
  go_wp2_with fail
  refine box1 (C := fun W => Code.wp _ _ _ _ W) ?_
  intro wb hw k1 hB0
  have RK := boxRule k1
  have HRK := Lib.hid RK
  clear k1 RK
  go_wp2_with fail
  go_loopw [5] (fun i wr => ∃ k : Nat, k ≤ xs.length ∧ i = .int .i64 k ∧ (∀ x ∈ xs.drop k, r.day < x.day) ∧ Below wb.heap.size wb wr) (fun i _ => (intOf i).toNat)
  case atStart => exact ⟨xs.length, by omega, rfl, by simp, Below.refl _ _⟩
  case round =>
    obtain ⟨k, hk, rfl, hle, hB⟩ := hrel
    have Hle := Lib.hid hle
    clear hle
    by_cases hpos : 0 < k
    · have hk1 : k - 1 < xs.length := by omega
      obtain ⟨ad, rfl, hC⟩ := recs_el hrd rfl hk1
      have hc0 := (hC wr (bw_to hw hB)).1
      have hr0 := fun o => HRK.out wr o hB
      have hw1 : IntKind.i64.wrap ((k : Int) - 1) = (k : Int) - 1 := IntWalk.i64_in _ ⟨by omega, by omega⟩
      have hi0' : (0 : Int) ≤ (k : Int) - 1 := by omega
      have hi1 : ((k : Int) - 1).toNat = k - 1 := by omega
      have hi2 : (k : Int) - 1 < xs.length := by omega
      have hi3 : decide ((0 : Int) < k) = true := by simpa using hpos
      have Hmore := Lib.hid (drop_more (r := r) hk1)
      have Hp := Lib.hid (Hdown.out k hk Hle.out)
      obtain ⟨x, ex⟩ : ∃ x, x = xs[k - 1] := ⟨_, rfl⟩
      rw [← ex] at hc0 Hmore
      have Hp2 : Hid (x.day ≤ r.day → IsPos xs r k) := Lib.hid (fun h => Hp.out (fun _ => by rw [← ex]; exact h))
      clear hC ex Hp
      cases hd : decide (r.day < x.day)
      · go_wp2_with fail
        go_big_quiet (fail)
        have hps : IsPos xs r k := Hp2.out (by simpa using hd)
        clear hw1 hi0' hi1 hi2 hi3 hd hc0 hr0
        have HP := Lib.hid (posR_eq hps)
        have hkx : k ≤ xs.length := hk
        have hBq := bw_dr hB nq
        generalize wr.drewN nq = wq at hBq ⊢
        have Hr1 := fun W o (hW : Below wb.heap.size wb W) => HRK.out W o hW
        have hkn0 : (0 : Int) ≤ (k : Int) := by omega
        have hkn : (k : Int) ≤ (xs.length : Int) := by omega
        have hkc : (k : Int) ≤ (c : Int) := by omega
        have Hto := Lib.hid (fun W hW => recs_to (w := W) (ad := ad) (c := c) (k := k) hW rfl hkx)
        have Hfrom := Lib.hid (fun W hW => recs_from (w := W) (ad := ad) (c := c) (k := k) hW rfl hkx)
        have Hlt : Hid ((xs.take k).length = k) := Lib.hid (by simp; omega)
        have Hld : Hid ((xs.drop k).length = xs.length - k) := Lib.hid (by simp)
        by_cases hck : c = k
        · subst hck
          have hxc : xs.length - c = 0 := by omega
          have Hvx : ∀ W, Recs W (.slice (some ad) xs.length c) xs → Sl W 5 (.slice (some ad) 0 0) 0 ((xs.drop c).flatMap Rc.cells) := fun W hW => by
            have h := Hfrom.out W hW
            rw [if_pos rfl] at h
            unfold Recs at h
            rw [Hld.out, Nat.sub_self, hxc] at h
            exact h
          clear hxc
          have Hv2 := Lib.hid Hvx
          clear Hvx
          go_wp2_with fail
          go_region_held3 (fun w' => Below wb.heap.size wb w') (first | exact Below.drew (by assumption) | exact bw_al (by assumption) _ | exact bw_tr (by assumption) hbj (Nat.le_refl _) | exact bw_tr (by assumption) hbi (Nat.le_refl _) | exact bw_to (by assumption) hb')
            (first | (go_at_call 31; refine (l28Own_any _ (xs.take c) _ (Hto.out _ (H0.out.to (bw_to hw (by assumption)))) nilok_ad (by have := Hlt.out; omega)).mono ?_; rintro e w2 ⟨v2, rfl, ho2, hb'⟩; (have ho3 := own_base ho2 (bsz (a := wb) (by assumption)))) | ((have ho5 := ho4); refine step_app_sl _ (by rfl) _ _ _ (by rfl) wb.heap.size 39 _ 5 64 Tryz.underlying23 info_Rc (by rfl) (by omega) ho5 (by rfl) (Hv2.out _ (H0.out.to (bw_to hw (by assumption)))) (by first | exact nilok_ad | exact nilok_if) (by rfl) (rc_one _) (by omega) (by omega) (bsz (a := wb) (by assumption)) (xs.length + 1) (by omega) ?_; intro A6 c6 w6 ho6 hbj hg6) | (refine step_app_sl _ (by rfl) _ _ _ (by rfl) wb.heap.size 39 _ 5 64 Tryz.underlying23 info_Rc (by rfl) (by omega) (by first | exact own_to ho3 (bw_al (Below.refl _ _) _) | exact ho3) (by rfl) (sl_one r (by first | exact heap_new _ _ | exact (hb'.block _ (by simp)).trans (heap_new _ _))) nilok_ad (by rfl) (rc_one1 r) (by omega) (by have := Hlt.out; omega) (bsz (a := wb) (by assumption)) (c + 1) (by rw [Hlt.out]) ?_; intro A4 c4 w4 ho4 hbi hg4))
          all_goals
            have hB6 : Below wb.heap.size wb w6 := by assumption
            have Ho6 := Lib.hid ho6
            clear ho2 ho3 ho4 ho6 hb' hbi hbj Hr1 hBq
            go_wp2_with fail
            refine bodyPost_ret (v := .slice A6 (xs.length + 1) c6) (by simp [results, go_sem]) rfl ⟨A6, c6, rfl, ?_, bw_to hw hB6⟩
            rw [HP.out, ← insR_flat]
            exact own_base Ho6.out hw.size
        · have Hvx : ∀ W, Recs W (.slice (some ad) xs.length c) xs → Sl W 5 (.slice (some (ad.add (k * 5))) (xs.length - k) (c - k)) (xs.length - k) ((xs.drop k).flatMap Rc.cells) := fun W hW => by
            have h := Hfrom.out W hW
            rw [if_neg hck] at h
            unfold Recs at h
            rw [Hld.out] at h
            exact h
          have Hv2 := Lib.hid Hvx
          clear Hvx
          go_wp2_with fail
          go_region_held3 (fun w' => Below wb.heap.size wb w') (first | exact Below.drew (by assumption) | exact bw_al (by assumption) _ | exact bw_tr (by assumption) hbj (Nat.le_refl _) | exact bw_tr (by assumption) hbi (Nat.le_refl _) | exact bw_to (by assumption) hb')
            (first | (go_at_call 31; refine (l28Own_any _ (xs.take k) _ (Hto.out _ (H0.out.to (bw_to hw (by assumption)))) nilok_ad (by have := Hlt.out; omega)).mono ?_; rintro e w2 ⟨v2, rfl, ho2, hb'⟩; (have ho3 := own_base ho2 (bsz (a := wb) (by assumption)))) | ((have ho5 := ho4); refine step_app_sl _ (by rfl) _ _ _ (by rfl) wb.heap.size 39 _ 5 64 Tryz.underlying23 info_Rc (by rfl) (by omega) ho5 (by rfl) (Hv2.out _ (H0.out.to (bw_to hw (by assumption)))) (by first | exact nilok_ad | exact nilok_if) (by rfl) (rc_one _) (by omega) (by omega) (bsz (a := wb) (by assumption)) (xs.length + 1) (by omega) ?_; intro A6 c6 w6 ho6 hbj hg6) | (refine step_app_sl _ (by rfl) _ _ _ (by rfl) wb.heap.size 39 _ 5 64 Tryz.underlying23 info_Rc (by rfl) (by omega) (by first | exact own_to ho3 (bw_al (Below.refl _ _) _) | exact ho3) (by rfl) (sl_one r (by first | exact heap_new _ _ | exact (hb'.block _ (by simp)).trans (heap_new _ _))) nilok_ad (by rfl) (rc_one1 r) (by omega) (by have := Hlt.out; omega) (bsz (a := wb) (by assumption)) (k + 1) (by rw [Hlt.out]) ?_; intro A4 c4 w4 ho4 hbi hg4))
          all_goals
            have hB6 : Below wb.heap.size wb w6 := by assumption
            have Ho6 := Lib.hid ho6
            clear ho2 ho3 ho4 ho6 hb' hbi hbj Hr1 hBq
            go_wp2_with fail
            refine bodyPost_ret (v := .slice A6 (xs.length + 1) c6) (by simp [results, go_sem]) rfl ⟨A6, c6, rfl, ?_, bw_to hw hB6⟩
            rw [HP.out, ← insR_flat]
            exact own_base Ho6.out hw.size
      · go_wp2_with fail
        go_big_quiet (fail)
        go_wp2_with fail
        obtain ⟨j, rfl⟩ : ∃ j, k = j + 1 := ⟨k - 1, by omega⟩
        exact ⟨⟨j, by omega, by go_num, Hmore.out Hle.out (by simpa using hd), bw_dr hB _⟩, by simp [intOf]⟩
    · obtain rfl : k = 0 := by omega
      have hps : IsPos xs r 0 := Hdown.out 0 (by omega) Hle.out (fun h => absurd h (by omega))
      go_wp2_with fail
      go_big_quiet (fail)
      have HP := Lib.hid (posR_eq hps)
      have hBq := bw_dr hB nq
      generalize wr.drewN nq = wq at hBq ⊢
      have Hr1 := fun W o (hW : Below wb.heap.size wb W) => HRK.out W o hW
      cases A with
      | none =>
        obtain ⟨hl, rfl⟩ := Hn.out _ _ rfl
        obtain rfl := List.eq_nil_of_length_eq_zero hl
        have Hto : Hid (∀ W, Recs W (.slice none 0 0) [] → Recs W (.slice none 0 0) ([].take 0)) := Lib.hid (fun W h => h)
        have Hlt : Hid ((([] : List Rc).take 0).length = 0) := Lib.hid rfl
        have Hvx : ∀ W, Recs W (.slice none 0 0) [] → Sl W 5 (.slice none 0 0) 0 ((([] : List Rc).drop 0).flatMap Rc.cells) := fun W h => h
        clear hl hps
        have Hv2 := Lib.hid Hvx
        clear Hvx
        go_wp2_with fail
        go_region_held3 (fun w' => Below wb.heap.size wb w') (first | exact Below.drew (by assumption) | exact bw_al (by assumption) _ | exact bw_tr (by assumption) hbj (Nat.le_refl _) | exact bw_tr (by assumption) hbi (Nat.le_refl _) | exact bw_to (by assumption) hb')
          (first | (go_at_call 31; refine (l28Own_any _ ([].take 0) _ (Hto.out _ (H0.out.to (bw_to hw (by assumption)))) nilok_nil (by have := Hlt.out; omega)).mono ?_; rintro e w2 ⟨v2, rfl, ho2, hb'⟩; (have ho3 := own_base ho2 (bsz (a := wb) (by assumption)))) | ((have ho5 := ho4); refine step_app_sl _ (by rfl) _ _ _ (by rfl) wb.heap.size 39 _ 5 64 Tryz.underlying23 info_Rc (by rfl) (by omega) ho5 (by rfl) (Hv2.out _ (H0.out.to (bw_to hw (by assumption)))) nilok_nil (by rfl) (rc_one _) (by omega) (by omega) (bsz (a := wb) (by assumption)) (0 + 1) (by omega) ?_; intro A6 c6 w6 ho6 hbj hg6) | (refine step_app_sl _ (by rfl) _ _ _ (by rfl) wb.heap.size 39 _ 5 64 Tryz.underlying23 info_Rc (by rfl) (by omega) (by first | exact own_to ho3 (bw_al (Below.refl _ _) _) | exact ho3) (by rfl) (sl_one r (by first | exact heap_new _ _ | exact (hb'.block _ (by simp)).trans (heap_new _ _))) nilok_ad (by rfl) (rc_one1 r) (by omega) (by have := Hlt.out; omega) (bsz (a := wb) (by assumption)) (0 + 1) (by rw [Hlt.out]) ?_; intro A4 c4 w4 ho4 hbi hg4))
        all_goals
          have hB6 : Below wb.heap.size wb w6 := by assumption
          have Ho6 := Lib.hid ho6
          clear ho2 ho3 ho4 ho6 hb' hbi hbj Hr1 hBq
          go_wp2_with fail
          refine bodyPost_ret (v := .slice A6 (0 + 1) c6) (by simp [results, go_sem]) rfl ⟨A6, c6, rfl, ?_, bw_to hw hB6⟩
          rw [HP.out, ← insR_flat]
          exact own_base Ho6.out hw.size
      | some ad =>
        have Hto := Lib.hid (fun W hW => recs_to (w := W) (ad := ad) (c := c) (k := 0) (xs := xs) hW rfl (Nat.zero_le _))
        have Hlt : Hid ((xs.take 0).length = 0) := Lib.hid rfl
        have Hvx : ∀ W, Recs W (.slice (some ad) xs.length c) xs → Sl W 5 (.slice (some ad) xs.length c) xs.length ((xs.drop 0).flatMap Rc.cells) := fun W h => h
        have hadd : ad.add 0 = ad := add_zero' ad
        by_cases hck : c = 0
        · subst hck
          have hx0 : xs.length = 0 := by omega
          obtain rfl := List.eq_nil_of_length_eq_zero hx0
          clear hx0
          have Hv2 := Lib.hid Hvx
          clear Hvx
          go_wp2_with fail
          go_region_held3 (fun w' => Below wb.heap.size wb w') (first | exact Below.drew (by assumption) | exact bw_al (by assumption) _ | exact bw_tr (by assumption) hbj (Nat.le_refl _) | exact bw_tr (by assumption) hbi (Nat.le_refl _) | exact bw_to (by assumption) hb')
            (first | (go_at_call 31; refine (l28Own_any _ ([].take 0) _ (Hto.out _ (H0.out.to (bw_to hw (by assumption)))) nilok_ad (by have := Hlt.out; omega)).mono ?_; rintro e w2 ⟨v2, rfl, ho2, hb'⟩; (have ho3 := own_base ho2 (bsz (a := wb) (by assumption)))) | ((have ho5 := ho4); refine step_app_sl _ (by rfl) _ _ _ (by rfl) wb.heap.size 39 _ 5 64 Tryz.underlying23 info_Rc (by rfl) (by omega) ho5 (by rfl) (Hv2.out _ (H0.out.to (bw_to hw (by assumption)))) (by first | exact nilok_ad | exact nilok_if) (by rfl) (rc_one _) (by omega) (by omega) (bsz (a := wb) (by assumption)) (0 + 1) (by omega) ?_; intro A6 c6 w6 ho6 hbj hg6) | (refine step_app_sl _ (by rfl) _ _ _ (by rfl) wb.heap.size 39 _ 5 64 Tryz.underlying23 info_Rc (by rfl) (by omega) (by first | exact own_to ho3 (bw_al (Below.refl _ _) _) | exact ho3) (by rfl) (sl_one r (by first | exact heap_new _ _ | exact (hb'.block _ (by simp)).trans (heap_new _ _))) nilok_ad (by rfl) (rc_one1 r) (by omega) (by have := Hlt.out; omega) (bsz (a := wb) (by assumption)) (0 + 1) (by rw [Hlt.out]) ?_; intro A4 c4 w4 ho4 hbi hg4))
          all_goals
            have hB6 : Below wb.heap.size wb w6 := by assumption
            have Ho6 := Lib.hid ho6
            clear ho2 ho3 ho4 ho6 hb' hbi hbj Hr1 hBq
            go_wp2_with fail
            refine bodyPost_ret (v := .slice A6 (0 + 1) c6) (by simp [results, go_sem]) rfl ⟨A6, c6, rfl, ?_, bw_to hw hB6⟩
            rw [HP.out, ← insR_flat]
            exact own_base Ho6.out hw.size
        · clear hps
          have Hv2 := Lib.hid Hvx
          clear Hvx
          go_wp2_with fail
          go_region_held3 (fun w' => Below wb.heap.size wb w') (first | exact Below.drew (by assumption) | exact bw_al (by assumption) _ | exact bw_tr (by assumption) hbj (Nat.le_refl _) | exact bw_tr (by assumption) hbi (Nat.le_refl _) | exact bw_to (by assumption) hb')
            (first | (go_at_call 31; refine (l28Own_any _ (xs.take 0) _ (Hto.out _ (H0.out.to (bw_to hw (by assumption)))) nilok_ad (by have := Hlt.out; omega)).mono ?_; rintro e w2 ⟨v2, rfl, ho2, hb'⟩; (have ho3 := own_base ho2 (bsz (a := wb) (by assumption)))) | ((have ho5 := ho4); refine step_app_sl _ (by rfl) _ _ _ (by rfl) wb.heap.size 39 _ 5 64 Tryz.underlying23 info_Rc (by rfl) (by omega) ho5 (by rfl) (Hv2.out _ (H0.out.to (bw_to hw (by assumption)))) (by first | exact nilok_ad | exact nilok_if) (by rfl) (rc_one _) (by omega) (by omega) (bsz (a := wb) (by assumption)) (xs.length + 1) (by omega) ?_; intro A6 c6 w6 ho6 hbj hg6) | (refine step_app_sl _ (by rfl) _ _ _ (by rfl) wb.heap.size 39 _ 5 64 Tryz.underlying23 info_Rc (by rfl) (by omega) (by first | exact own_to ho3 (bw_al (Below.refl _ _) _) | exact ho3) (by rfl) (sl_one r (by first | exact heap_new _ _ | exact (hb'.block _ (by simp)).trans (heap_new _ _))) nilok_ad (by rfl) (rc_one1 r) (by omega) (by have := Hlt.out; omega) (bsz (a := wb) (by assumption)) (0 + 1) (by rw [Hlt.out]) ?_; intro A4 c4 w4 ho4 hbi hg4))
          all_goals
            have hB6 : Below wb.heap.size wb w6 := by assumption
            have Ho6 := Lib.hid ho6
            clear ho2 ho3 ho4 ho6 hb' hbi hbj Hr1 hBq
            go_wp2_with fail
            refine bodyPost_ret (v := .slice A6 (xs.length + 1) c6) (by simp [results, go_sem]) rfl ⟨A6, c6, rfl, ?_, bw_to hw hB6⟩
            rw [HP.out, ← insR_flat]
            exact own_base Ho6.out hw.size
theorem insR_len' (xs : List Rc) (r : Rc) : (insR xs (posR xs r) r).length = xs.length + 1 := by unfold insR; simp; omega
theorem add_newP {xs : List Rc} {r : Rc} (hb : bookB xs = true) (h : hasA xs r = false) (hl : xs.length + 1 ≤ 20) : addL xs r = insR xs (posR xs r) r ∧ addF xs r = true ∧ addO xs r = true := by
  unfold addL addF addO; rw [h, if_pos hl, decide_eq_true hl]; exact ⟨rfl, rfl, rfl⟩
def addG (xs : List Rc) (r : Rc) : Bool := bookB xs && recB r
noncomputable def addLx (xs : List Rc) (r : Rc) : List Rc := if addG xs r then addL xs r else []
def addFx (xs : List Rc) (r : Rc) : Bool := addG xs r && addF xs r
def addOx (xs : List Rc) (r : Rc) : Bool := addG xs r && addO xs r
theorem addx_no {xs : List Rc} {r : Rc} (h : addG xs r = false) : addLx xs r = [] ∧ addFx xs r = false ∧ addOx xs r = false := by unfold addLx addFx addOx; rw [h]; exact ⟨rfl, rfl, rfl⟩
theorem addx_yes {xs : List Rc} {r : Rc} (h : addG xs r = true) : addLx xs r = addL xs r ∧ addFx xs r = addF xs r ∧ addOx xs r = addO xs r := by unfold addLx addFx addOx; rw [h]; exact ⟨rfl, rfl, rfl⟩
theorem addL_len {xs : List Rc} {r : Rc} (hx : xs.length ≤ 20) : (addL xs r).length ≤ 20 := by
  unfold addL
  split
  · exact hx
  · split
    · unfold insR; simp; omega
    · simp
theorem addLx_len (xs : List Rc) (r : Rc) : (addLx xs r).length ≤ 20 := by
  unfold addLx
  split
  · rename_i h
    unfold addG at h
    rw [Bool.and_eq_true] at h
    exact addL_len ((bookB_iff xs).1 h.1).1
  · simp
/-- What an AddRecord gives. -/
def AddPost (w : World) (xs : List Rc) (r : Rc) (e : Ending) (w' : World) : Prop :=
  ∃ v, e = .returned (.tuple #[v, .bool (addFx xs r), .bool (addOx xs r)]) ∧ w'.ownsRow w.heap.size 39 5 v (addLx xs r).length ((addLx xs r).flatMap Rc.cells) ∧ Below w.heap.size w w'
theorem add_post_no {w w' : World} {xs : List Rc} {r : Rc} (h : addG xs r = false) (hb : Below w.heap.size w w') : AddPost w xs r (.returned (.tuple #[.slice none 0 0, .bool false, .bool false])) w' := by
  obtain ⟨h1, h2, h3⟩ := addx_no h
  refine ⟨.slice none 0 0, by rw [h2, h3], ?_, hb⟩
  rw [h1]; exact World.ownsRow_nil _ _ _ _
set_option maxRecDepth 100000 in
set_option maxHeartbeats 2000000 in
theorem specAddRecord_any (V : Value) (xs : List Rc) (r : Rc) (w : World) (h : Recs w V xs) (hn : NilOk V) (hs : AllFit xs) (hrf : RcFit r) : Calls Tryz.prog 44 #[V, r.v] w (AddPost w xs r) := by
  have H := Lib.hid h
  have Hn := Lib.hid hn
  have Hs := Lib.hid hs
  have Hrf := Lib.hid hrf
  have Hr := Lib.hid (fun (w : World) => l28Good_any r w hrf)
  have Hno := Lib.hid (fun h w' => add_post_no (w := w) (w' := w') (xs := xs) (r := r) h)
  have Hyes := Lib.hid (addx_yes (xs := xs) (r := r))
  have hG : addG xs r = (bookB xs && recB r) := rfl
  obtain ⟨b, hb⟩ : ∃ b, b = bookB xs := ⟨_, rfl⟩
  obtain ⟨q, hq⟩ : ∃ q, q = recB r := ⟨_, rfl⟩
  have hgb := fun W hW => l28Book_any V xs W hW hs
  rw [← hb] at hgb hG
  rw [← hq] at Hr hG
  have Hgb := Lib.hid hgb
  have Hb := Lib.hid hb
  have Hq := Lib.hid hq
  have HG := Lib.hid hG
  clear h hn hs hrf hgb hb hq hG
  unfold Rc.v at Hr ⊢
  go_enter Tryz.func44, Tryz.ntmps44
  go_wp2_with fail
  refine box1 (C := fun W => Calls _ _ _ W _) ?_
  intro wb hw k1 hB0
  have RK := boxRule k1
  clear k1
  refine (Hgb.out _ (H.out.to hw)).mono ?_; rintro e w1 ⟨rfl, hb1⟩
  have hB1 := bw_to hw hb1
  have R1 := fun o => RK w1 o hb1
  cases b
  · go_wp2_with fail
    refine bodyPost_ret (v := .tuple #[.slice none 0 0, .bool false, .bool false]) (by simp [results, go_sem]) rfl (Hno.out (by rw [HG.out]; rfl) _ hB1)
  · go_wp2_with fail
    refine (Hr.out _).mono ?_; rintro e w2 ⟨rfl, hb2⟩
    have hB2 := bw_to hB1 hb2
    have R2 := fun o => RK w2 o (bw_to hb1 hb2)
    cases q
    · go_wp2_with fail
      refine bodyPost_ret (v := .tuple #[.slice none 0 0, .bool false, .bool false]) (by simp [results, go_sem]) rfl (Hno.out (by rw [HG.out]; rfl) _ hB2)
    · have Hy := Lib.hid (Hyes.out (by rw [HG.out]; rfl))
      have hbi := (bookB_iff xs).1 Hb.out.symm
      have Hlen := Lib.hid hbi.1
      have Hfind := Lib.hid (l28Find_any V xs r w2 (H.out.to hB2) hbi.2.1 (recB_touch Hq.out.symm))
      have hix := hasA_ix xs r
      have Hhas := Lib.hid (add_has (xs := xs) (r := r))
      have Hfull := Lib.hid (add_full (xs := xs) (r := r))
      have Hnew := Lib.hid (add_new (xs := xs) (r := r) (k := posR xs r))
      obtain ⟨z, hz⟩ : ∃ z, z = ixR (alikeP r.meth r.touch) 0 xs := ⟨_, rfl⟩
      rw [← hz] at Hfind hix
      have Hix := Lib.hid hix
      clear hbi hix hz
      unfold Rc.v at Hfind
      go_wp2_with fail
      refine Hfind.out.mono ?_; rintro e w3 ⟨rfl, hb3⟩
      have hB3 := bw_to hB2 hb3
      have R3 := fun o => RK w3 o (bw_to (bw_to hb1 hb2) hb3)
      by_cases hz : 0 ≤ z
      · have Hh := Lib.hid (Hhas.out (by rw [Hix.out]; simpa using hz))
        go_wp2_with fail
        refine (l28Own_any V xs _ (H.out.to hB3) Hn.out (by have := Hlen.out; omega)).mono ?_; rintro e w4 ⟨v4, rfl, ho4, hb4⟩
        go_wp2_with fail
        refine bodyPost_ret (v := .tuple #[v4, .bool false, .bool true]) (by simp [results, go_sem]) rfl ⟨v4, by rw [Hy.out.2.1, Hy.out.2.2, Hh.out.2.1, Hh.out.2.2], ?_, bw_to hB3 hb4⟩
        rw [Hy.out.1, Hh.out.1]; exact own_base ho4 hB3.size
      · have Hna : Hid (hasA xs r = false) := Lib.hid (by rw [Hix.out]; simpa using hz)
        have Hput := Lib.hid (l28Put_any V xs r w3 (H.out.to hB3) Hn.out Hb.out.symm)
        unfold Rc.v at Hput
        go_wp2_with fail
        refine Hput.out.mono ?_; rintro e w4 ⟨A4, q4, rfl, ho4, hb4⟩
        have hB4 := bw_to hB3 hb4
        have hl20 := Hlen.out
        by_cases hl : xs.length + 1 ≤ 20
        · have Hh := Lib.hid (add_newP Hb.out.symm Hna.out hl)
          go_wp2_with fail
          refine bodyPost_ret (v := .tuple #[.slice A4 (xs.length + 1) q4, .bool true, .bool true]) (by simp [results, go_sem]) rfl ⟨_, by rw [Hy.out.2.1, Hy.out.2.2, Hh.out.2.1, Hh.out.2.2], ?_, hB4⟩
          rw [Hy.out.1, Hh.out.1, insR_len' xs r]; exact own_base ho4 hB3.size
        · have Hh := Lib.hid (Hfull.out Hna.out hl)
          go_wp2_with fail
          refine bodyPost_ret (v := .tuple #[.slice none 0 0, .bool false, .bool false]) (by simp [results, go_sem]) rfl ⟨.slice none 0 0, by rw [Hy.out.2.1, Hy.out.2.2, Hh.out.2.1, Hh.out.2.2], ?_, hB4⟩
          rw [Hy.out.1, Hh.out.1]; exact World.ownsRow_nil _ _ _ _
end Go.Proofs.YtpkpahadjdkafaaGreatDoor

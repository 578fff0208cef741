/- Contract: the best match, the reference's. -/
import Derived.Test.YtimeecimaokldaaEJ
namespace Go.Proofs.Ytimeecimaokldaa
open Go Go.RowKit
set_option linter.unusedVariables false
set_option linter.unusedSimpArgs false

/-- A box of two cells. -/
def Bx (W : World) (B : Nat) (u v : Value) (t : TypeId) : Prop := W.heap[B]? = some (.cells #[u, v] t (0, 0))
theorem Bx.facts {W : World} {B : Nat} {u v : Value} {t : TypeId} (h : Bx W B u v t) : (W.cell? ⟨B, 0, none⟩ = some u ∧ W.cell? ⟨B, 1, none⟩ = some v) ∧ W.frozen? ⟨B, 0, none⟩ = false ∧ W.frozen? ⟨B, 1, none⟩ = false := by
  unfold Bx at h
  refine ⟨⟨?_, ?_⟩, ?_, ?_⟩ <;> simp [World.cell?, World.frozen?, h]
theorem Bx.set0 {W : World} {B : Nat} {u v : Value} {t : TypeId} (h : Bx W B u v t) (u' : Value) : Bx (W.setCell ⟨B, 0, none⟩ u') B u' v t := by
  unfold Bx at h ⊢
  simp only [World.setCell, Array.getElem?_modify, h]
  simp
theorem Bx.set1 {W : World} {B : Nat} {u v : Value} {t : TypeId} (h : Bx W B u v t) (u' : Value) : Bx (W.setCell ⟨B, 1, none⟩ u') B u u' t := by
  unfold Bx at h ⊢
  simp only [World.setCell, Array.getElem?_modify, h]
  simp
theorem Bx.to {W W' : World} {B C : Nat} {u v : Value} {t : TypeId} (h : Bx W B u v t) (hb : Below C W W') (hB : B < C) : Bx W' B u v t := (hb.block B hB).trans h
theorem Bx.same {W W' : World} {B : Nat} {u v : Value} {t : TypeId} (h : Bx W B u v t) (hb : W'.heap = W.heap) : Bx W' B u v t := by unfold Bx at *; rw [hb]; exact h
theorem Bx.via {W W1 W' : World} {B C : Nat} {u v : Value} {t : TypeId} (h : Bx W B u v t) (hb : Below C W1 W') (he : W1.heap = W.heap) (hB : B < C) : Bx W' B u v t := (h.same he).to hb hB
set_option maxRecDepth 100000 in
set_option maxHeartbeats 8000000 in
theorem l22Best_any (u v : Value) (a b : List Int) (s : Int) (w : World) (hu : Ints w u a) (hv : Ints w v b) (hg : GoodM a b s) : Calls Try.prog 40 #[u, v, .int .i64 s] w (BmPost w a b s) := by
  have Hpr := Lib.hid (fun W (hW : Below w.heap.size w W) => l22Prices_any u v a b s W (hu.to hW) (hv.to hW) hg)
  obtain ⟨hga, hgb, hs⟩ := hg
  have ha60 := hga.1
  have hb60 := hgb.1
  have Hra := Lib.hid (fun x hx => goodT_rng hga x hx)
  have Hrb := Lib.hid (fun x hx => goodT_rng hgb x hx)
  have HP := Lib.hid (fun i j => prT_rng hs ha60 hb60 (a := a) (b := b) i j)
  obtain ⟨A1, c1, rfl, hn1, hm1, hr1⟩ := hu
  obtain ⟨A2, c2, rfl, hn2, hm2, hr2⟩ := hv
  have HR1 := Lib.hid hr1
  have HR2 := Lib.hid hr2
  unfold maxLen at hm1 hm2
  clear hga hgb hr1 hr2
  go_enter Try.func40, Try.ntmps40
  go_wp2_with fail
  refine box1 (C := fun W => Calls _ _ _ W _) ?_
  intro wb hwb k1 hB0
  have R1 := boxRule k1
  have F1 := fun (j : Nat) w' hb => frozenE k1 j (w' := w') hb
  have hRz := blkE k1
  clear k1
  have Hwb := Lib.hid hwb
  refine (Hpr.out _ hwb).mono ?_; rintro e w1 ⟨G, N, g, rfl, hT, hN, hb1⟩
  unfold slv
  have HT := Lib.hid hT
  have HB1 := Lib.hid hb1
  have hz1 := hb1.size
  clear hT hb1 hwb hB0
  have HTW : Hid (∀ W, Below w1.heap.size w1 W → Tb W wb.heap.size N G a.length b.length 0 0 (prT2 s a b) g ∧ Below w.heap.size w W) := Lib.hid (fun W hW => ⟨HT.out.to (Nat.le_refl _) hW hN, Hwb.out.trans ((HB1.out.trans (hW.mono hz1)).mono Hwb.out.size)⟩)
  have o0 := HT.out.out (i := 0) (Nat.le_refl _) (Nat.zero_le _)
  have t0 := HT.out.row 0 0 (Nat.le_refl _) (Nat.zero_le _) (Nat.zero_le _)
  go_wp2_with fail
  refine box1 (C := fun W => Code.wp _ _ _ _ W) ?_
  intro wq hwq k2 hBq
  obtain ⟨tm, hX⟩ : ∃ t, Bx wq w1.heap.size (.slice none 0 0) (.int .i64 (prT2 s a b 0 0)) t := ⟨_, k2⟩
  have HX := Lib.hid hX
  have hown : wq.ownsRow (w1.heap.size + 1) 3 1 (.slice none 0 0) 0 [] := ⟨rfl, .inl ⟨rfl, rfl⟩⟩
  have Hown := Lib.hid hown
  have Hwq := Lib.hid hwq
  clear k2 hBq hown hwq hX o0 t0
  go_loopw [9, 24] (fun jv iv wr => ∃ (i j : Nat) (O : List Int) (A : Option Addr) (c : Nat), i ≤ a.length ∧ j ≤ b.length ∧ jv = .int .i64 j ∧ iv = .int .i64 i ∧ Hid (O.length = i) ∧ Hid (Bx wr w1.heap.size (.slice A i c) (.int .i64 (prT2 s a b 0 0)) tm) ∧ Hid (wr.ownsRow (w1.heap.size + 1) 3 1 (.slice A i c) i (O.map (Value.int .i64))) ∧
    Hid (matL s a b 0 = O ++ matL s (a.drop i) (b.drop j) j) ∧ Below w1.heap.size w1 wr) (fun _ iv _ => a.length - (intOf iv).toNat)
  case atStart => exact ⟨0, 0, [], none, 0, by omega, by omega, rfl, rfl, Lib.hid rfl, HX, Hown, Lib.hid rfl, Hwq.out⟩
  case round =>
    obtain ⟨i, j, O, A, c, hi, hj, rfl, rfl, HOl, HX, HO, HM, hB⟩ := hrel
    have HB := Lib.hid hB
    have hzr : w1.heap.size + 1 ≤ wr.heap.size := blkE HX.out
    obtain ⟨⟨xc0, xc1⟩, xf0, xf1⟩ := HX.out.facts
    clear hB
    by_cases hin : i < a.length
    · obtain ⟨i', Hii, wi1⟩ : ∃ i' : Nat, Hid (i' = i + 1) ∧ IntKind.i64.wrap ((i : Int) + 1) = (i' : Int) := ⟨i + 1, Lib.hid rfl, IntWalk.i64_in _ ⟨by omega, by omega⟩⟩
      have hi' : i' ≤ a.length := by rw [Hii.out]; omega
      have hwi : (i' : Int) = (i : Int) + 1 := by rw [Hii.out]; omega
      have Hwi := Lib.hid hwi
      have r0 := HP.out i j
      have r1 := HP.out (i + 1) j
      have H2 := Lib.hid (mat_two (k := s) hin hj)
      have HX1 : Hid (prT2 s a b i' j = prT2 s a b (i + 1) j) := Lib.hid (by rw [Hii.out])
      obtain ⟨ht, hbw⟩ := HTW.out wr HB.out
      have o1 := ht.out (i := i') (Nat.zero_le _) hi'
      have o0 := ht.out (i := i) (Nat.zero_le _) hi
      have t1 := ht.row i' j (Nat.zero_le _) hi' hj
      have t0 := ht.row i j (Nat.zero_le _) hi hj
      rw [HX1.out] at t1
      obtain ⟨X0, hX0⟩ : ∃ X, X = prT2 s a b i j := ⟨_, rfl⟩
      obtain ⟨X1, hX1⟩ : ∃ X, X = prT2 s a b (i + 1) j := ⟨_, rfl⟩
      rw [← hX0] at r0 t0 H2
      rw [← hX1] at r1 t1 H2
      have HX0 := Lib.hid hX0
      have b3 : (i' : Int) < (a.length : Int) + 1 := by omega
      have b4 : (j : Int) < (b.length : Int) + 1 := by omega
      have b5 : (i : Int) < (a.length : Int) + 1 := by omega
      have wx1 : IntKind.i64.wrap (s + X1) = s + X1 := IntWalk.i64_in _ ⟨by omega, by omega⟩
      clear ht hbw hX0 hX1 hwi
      rcases H2.out with ⟨he, hm⟩ | ⟨he, q, hq, hqt, hqf, hm⟩
      · have e1 : (X0 == (s + X1 : Int)) = true := by simp [he]
        have Hm : Hid (matL s a b 0 = (O ++ [-1]) ++ matL s (a.drop (i + 1)) (b.drop j) j) := Lib.hid (by rw [HM.out, hm]; simp)
        clear he hm H2
        go_wp2_with fail
        go_big_quiet (fail)
        go_wp2_with (at_builtin; go_must (refine wpList_app _ rfl _ _ _ rfl (w1.heap.size + 1) 3 _ 1 8 Try.underlying44 info_intE rfl (by omega) (own_to HO.out (bw_dr (Below.refl _ _) _)) [.int .i64 (-1)] rfl rfl rfl (one_mem rfl) (by omega) (by omega) hzr ?_); intro v7 w7 hown7 hb7 hg7 _; (obtain ⟨A7, q7, rfl⟩ := nb_sliceE hown7); (have Hown7 := Lib.hid hown7); (have hX7 := Bx.via HX.out hb7 rfl (Nat.lt_succ_self _)); (have HX7 := Lib.hid hX7); (have f7 := hX7.facts.2.1); (have x7 := hX7.facts.1.1); (have Hb7 := Lib.hid hb7); clear hown7 hb7 hg7 hX7)
        refine ⟨⟨i', j, O ++ [-1], A7, q7, hi', hj, rfl, rfl, Lib.hid (by rw [List.length_append, HOl.out, Hii.out]; rfl), Lib.hid (by rw [Hii.out]; exact HX7.out.set0 _), Lib.hid ?_, Lib.hid (by rw [Hii.out]; exact Hm.out), grow_set (HB.out.trans (((bw_dr (Below.refl _ _) _).mono (Nat.le_of_succ_le hzr)).trans (Hb7.out.mono (Nat.le_succ _)))) (Nat.le_refl _) _⟩, by simp [intOf, Hii.out]; omega⟩
        rw [List.map_append, Hii.out]
        exact own_over Hown7.out fun g' hg' => set_other (by omega) _
      · have e1 : (X0 == (s + X1 : Int)) = false := beq_eq_false_iff_ne.mpr (Ne.symm he)
        have Hm : Hid (matL s a b 0 = (O ++ [((j + q : Nat) : Int)]) ++ matL s (a.drop (i + 1)) (b.drop (j + q + 1)) (j + q + 1)) := Lib.hid (by rw [HM.out, hm]; simp)
        have Hqt := Lib.hid hqt
        have Hqf := Lib.hid hqf
        have hjlt : j < b.length := by omega
        clear he hm H2 hqt hqf
        go_wp2_with fail
        go_big_quiet (fail)
        go_wp2_with fail
        have Hsame : Hid (∀ W : World, W.heap = wr.heap → W.cell? ⟨G, i', none⟩ = some (.slice (some ⟨g i', 0, none⟩) (b.length + 1) (b.length + 1)) ∧ W.cell? ⟨G, i, none⟩ = some (.slice (some ⟨g i, 0, none⟩) (b.length + 1) (b.length + 1)) ∧ W.cell? ⟨g i, j, none⟩ = some (.int .i64 X0)) := Lib.hid (fun W hW => by
          unfold World.cell? at *
          simp only [hW]
          exact ⟨o1, o0, t0⟩)
        obtain ⟨wo, hwo⟩ : ∃ wo : World, wo = wr := ⟨_, rfl⟩
        have HXo : Hid (Bx wo w1.heap.size (.slice A i c) (.int .i64 (prT2 s a b 0 0)) tm) := Lib.hid (by rw [hwo]; exact HX.out)
        have HOo : Hid (wo.ownsRow (w1.heap.size + 1) 3 1 (.slice A i c) i (O.map (Value.int .i64))) := Lib.hid (by rw [hwo]; exact HO.out)
        have HBo : Hid (Below w1.heap.size w1 wo) := Lib.hid (by rw [hwo]; exact HB.out)
        go_loopw [9, 11] (fun jv xv wx => ∃ t : Nat, t ≤ q ∧ jv = .int .i64 j ∧ xv = .int .i64 ((j + t : Nat) : Int) ∧ Hid (wx.heap = wo.heap) ∧ Hid (Below wo.heap.size wo wx)) (fun _ xv _ => q + j - (intOf xv).toNat)
        case atStart => exact ⟨0, by omega, rfl, rfl, Lib.hid (by rw [hwo]; rfl), Lib.hid (by rw [hwo]; exact bw_dr (Below.refl _ _) _)⟩
        case round =>
          obtain ⟨t, ht, rfl, rfl, HWh, HWb⟩ := hrel
          obtain ⟨p, hp⟩ : ∃ p : Nat, p = j + t := ⟨_, rfl⟩
          obtain ⟨p', hp'⟩ : ∃ p' : Nat, p' = p + 1 := ⟨_, rfl⟩
          rw [← hp]
          have hpb : p < b.length := by omega
          have hjp : j ≤ p := by omega
          have hp'b : p' ≤ b.length := by omega
          have Hp := Lib.hid hp
          have Hp' := Lib.hid hp'
          have wp1 : IntKind.i64.wrap ((p : Int) + 1) = (p' : Int) := by rw [IntWalk.i64_in _ ⟨by omega, by omega⟩]; omega
          have wsub : IntKind.i64.wrap ((p : Int) - (j : Int)) = (t : Int) := by rw [IntWalk.i64_in _ ⟨by omega, by omega⟩]; omega
          have hst0 : 0 ≤ s * (t : Int) := Int.mul_nonneg hs.1 (by omega)
          have hst1 : s * (t : Int) ≤ 600000 := Int.le_trans (Int.mul_le_mul_of_nonneg_left (show (t : Int) ≤ 60 by omega) hs.1) (by omega)
          obtain ⟨ad1, rfl, hC1⟩ := ints_el HR1.out hin
          obtain ⟨ad2, rfl, hC2⟩ := ints_el HR2.out hpb
          have ra := Hra.out _ (List.getElem_mem hin)
          have rb := Hrb.out _ (List.getElem_mem hpb)
          have hht : hitB s a b i j t = decide (s * t + (a[i] - b[p]).natAbs + prT2 s a b (i + 1) p' = X0) := by
            have h := hit_is (k := s) (q := t) hin (by omega : j + t < b.length)
            rw [← HX0.out] at h
            rw [h]
            subst hp' hp
            rfl
          have r3 := HP.out (i + 1) p'
          have hBo : Below w1.heap.size w1 wo := by rw [hwo]; exact HB.out
          have q1 := hC1 wo (HTW.out wo hBo).2
          have q2 := hC2 wo (HTW.out wo hBo).2
          have t3 := (HTW.out wo hBo).1.row i' p' (Nat.zero_le _) hi' hp'b
          obtain ⟨x, hx⟩ : ∃ x, x = a[i] := ⟨_, rfl⟩
          obtain ⟨y, hy⟩ : ∃ y, y = b[p] := ⟨_, rfl⟩
          rw [← hx] at ra q1 hht
          rw [← hy] at rb q2 hht
          obtain ⟨X3, hX3⟩ : ∃ X, X = prT2 s a b (i + 1) p' := ⟨_, rfl⟩
          have eX3 : prT2 s a b i' p' = X3 := by rw [Hii.out, hX3]
          rw [eX3] at t3
          rw [← hX3] at r3 hht
          obtain ⟨u3, hu3⟩ : ∃ u3, u3 = s * (t : Int) := ⟨_, rfl⟩
          rw [← hu3] at hst0 hst1 hht
          have wmul : IntKind.i64.wrap (s * (t : Int)) = u3 := by rw [hu3]; exact IntWalk.i64_in _ ⟨by omega, by omega⟩
          have wxy : IntKind.i64.wrap (x - y) = x - y := IntWalk.i64_in _ ⟨by omega, by omega⟩
          have HF : Hid (∀ W, Calls Try.prog 50 #[.int .i64 x, .int .i64 y] W fun e w' => e = .returned (.int .i64 ((x - y).natAbs : Int)) ∧ w' = W) := Lib.hid (fun W => (l22Far_any x y W ra rb).mono (fun e w' ⟨h1, h2⟩ => ⟨h1, h2.symm⟩))
          obtain ⟨fv, hfv⟩ : ∃ fv, fv = ((x - y).natAbs : Int) := ⟨_, rfl⟩
          have hfr : 0 ≤ fv ∧ fv ≤ 1000000 := by rw [hfv]; omega
          rw [← hfv] at HF hht
          have wa1 : IntKind.i64.wrap (u3 + fv) = u3 + fv := IntWalk.i64_in _ ⟨by omega, by omega⟩
          have wa2 : IntKind.i64.wrap (u3 + fv + X3) = u3 + fv + X3 := IntWalk.i64_in _ ⟨by omega, by omega⟩
          have HC : Hid (∀ W : World, W.heap = wo.heap → (W.cell? ⟨G, i', none⟩ = some (.slice (some ⟨g i', 0, none⟩) (b.length + 1) (b.length + 1)) ∧ W.cell? ⟨G, i, none⟩ = some (.slice (some ⟨g i, 0, none⟩) (b.length + 1) (b.length + 1)) ∧ W.cell? ⟨g i, j, none⟩ = some (.int .i64 X0)) ∧ (W.cell? (ad1.add i) = some (.int .i64 x) ∧ W.cell? (ad2.add p) = some (.int .i64 y)) ∧ W.cell? ⟨g i', p', none⟩ = some (.int .i64 X3)) := Lib.hid (fun W hW => by
            refine ⟨Hsame.out W (by rw [hW, hwo]), ?_⟩
            unfold World.cell? at *
            simp only [hW]
            exact ⟨⟨q1, q2⟩, t3⟩)
          have b5' : (i : Int) < (a.length : Int) := by omega
          have b6 : (p : Int) < (b.length : Int) := by omega
          have b7 : (p' : Int) < (b.length : Int) + 1 := by omega
          have Hht := Lib.hid hht
          clear o0 o1 t1 t0 q1 q2 t3 hht hx hy hX3 eX3 hu3 hfv hC1 hC2 hp hp' hwo hBo
          go_upto_region 12 with fail
          refine wp_region_still_tail 32 (by kernel_rfl) (by kernel_rfl) ?_
          simp only [List.take_succ_cons, List.take_zero, List.drop_succ_cons, List.drop_zero, show ({ wr with drawn := wr.drawn + 1 } : World) = wr.drew from rfl]
          obtain ⟨⟨o1, o0, t0⟩, ⟨q1, q2⟩, t3⟩ := HC.out wr.drew HWh.out
          have HBd := Lib.hid (bw_to HWb.out (Below.drew (Below.refl wr.heap.size wr)))
          obtain ⟨wd, hwd⟩ : ∃ wd, wd = wr.drew := ⟨_, rfl⟩
          have Hwd : Hid (wd.heap = wo.heap) := Lib.hid (by rw [hwd]; exact HWh.out)
          rw [← hwd] at o1 o0 t0 q1 q2 t3 HBd ⊢
          clear hwd
          repeat still_step
          still_call (HF.out wd)
          repeat still_step
          refine wpStill_nil ?_
          clear o1 o0 t0 q1 q2 t3
          rcases Nat.lt_or_ge t q with htq | htq
          · have hne : (X0 == u3 + fv + X3) = false := by
              rw [beq_eq_false_iff_ne]
              refine Ne.symm ?_
              have h := Hqf.out t htq
              rw [Hht.out] at h
              simpa using h
            clear Hht Hqf Hqt Hm
            go_wp2_with fail
            refine ⟨⟨t + 1, by omega, rfl, ?_, Lib.hid Hwd.out, HBd⟩, ?_⟩
            · rw [Hp'.out, Hp.out]; rfl
            · show q + j - ((p' : Int)).toNat < q + j - ((p : Int)).toNat
              rw [Hp'.out, Hp.out]
              omega
          · obtain rfl : t = q := by omega
            have hne : (X0 == u3 + fv + X3) = true := by
              rw [beq_iff_eq]
              refine Eq.symm ?_
              have h := Hqt.out
              rw [Hht.out] at h
              simpa using h
            have hzd : w1.heap.size + 1 ≤ wd.heap.size := by rw [Hwd.out]; exact blkE HXo.out
            obtain ⟨⟨yc0, yc1⟩, yf0, yf1⟩ := (Bx.same HXo.out Hwd.out).facts
            clear Hht Hqf Hqt
            go_wp2_with (at_builtin; go_must (refine wpList_app _ rfl _ _ _ rfl (w1.heap.size + 1) 3 _ 1 8 Try.underlying44 info_intE rfl (by omega) (own_to HOo.out HBd.out) [.int .i64 ((p : Int))] rfl rfl rfl (one_mem rfl) (by omega) (by omega) hzd ?_); intro v7 w7 hown7 hb7 hg7 _; (obtain ⟨A7, q7, rfl⟩ := nb_sliceE hown7); (have Hown7 := Lib.hid hown7); (have hX7 := Bx.via HXo.out hb7 Hwd.out (Nat.lt_succ_self _)); (have HX7 := Lib.hid hX7); (have f7 := hX7.facts.2.1); (have x7 := hX7.facts.1.1); (have Hb7 := Lib.hid hb7); clear hown7 hb7 hg7 hX7)
            refine ⟨⟨i', p', O ++ [(p : Int)], A7, q7, hi', hp'b, rfl, rfl, Lib.hid (by rw [List.length_append, HOl.out, Hii.out]; rfl), Lib.hid (by rw [Hii.out]; exact HX7.out.set0 _), Lib.hid ?_, Lib.hid (by rw [Hii.out, Hp'.out, Hp.out]; exact Hm.out), grow_set (HBo.out.trans ((HBd.out.mono HBo.out.size).trans (Hb7.out.mono (Nat.le_succ _)))) (Nat.le_refl _) _⟩, by simp [intOf, Hii.out]; omega⟩
            rw [List.map_append, Hii.out]
            exact own_over Hown7.out fun g' hg' => set_other (by omega) _
    · obtain rfl : i = a.length := by omega
      obtain ⟨ht, hbw⟩ := HTW.out wr HB.out
      have hbR : Below wb.heap.size wb wr := HB1.out.trans (HB.out.mono hz1)
      have f1 := F1 0 wr hbR
      have f2 := F1 1 wr hbR
      have r1 := R1 wr 0 hbR
      have r2 := R1 wr 1 hbR
      simp only [List.getElem?_toArray, List.getElem?_cons_zero, List.getElem?_cons_succ] at r1 r2
      have hRlt : w.heap.size < w1.heap.size := by omega
      clear R1 F1 ht hbR
      have e0 : (wr.setCell ⟨w.heap.size, 0, none⟩ (.slice A a.length c)).cell? ⟨w.heap.size, 0, none⟩ = some (.slice A a.length c) := World.cell?_setCell_same' _ _ _ (by rw [r1]; rfl)
      have e1 : ((wr.setCell ⟨w.heap.size, 0, none⟩ (.slice A a.length c)).setCell ⟨w.heap.size, 1, none⟩ (.int .i64 (prT2 s a b 0 0))).cell? ⟨w.heap.size, 1, none⟩ = some (.int .i64 (prT2 s a b 0 0)) := World.cell?_setCell_same' _ _ _ (by rw [World.cell?_setCell_other _ _ _ _ (fun e => by injection e with _ e _; cases e), r2]; rfl)
      have He1 := Lib.hid e1
      clear e1
      go_wp2_with fail
      refine bodyPost_ret (v := .agg #[.slice A a.length c, .int .i64 (prT2 s a b 0 0)]) (by simp [results, go_sem, e0, He1.out]) rfl ⟨A, c, rfl, ?_, grow_set (grow_set hbw (Nat.le_refl _) _) (Nat.le_refl _) _⟩
      have hm := HM.out
      rw [List.drop_length, matL, List.append_nil] at hm
      rw [hm]
      refine own_base (own_over HO.out fun g' hg' => ?_) (by omega : w.heap.size ≤ w1.heap.size + 1)
      rw [set_other (by omega), set_other (by omega)]
end Go.Proofs.Ytimeecimaokldaa

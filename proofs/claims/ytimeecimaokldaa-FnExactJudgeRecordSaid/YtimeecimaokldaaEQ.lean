/- Contract: JudgeRecord, the program's. -/
import Derived.Test.YtimeecimaokldaaEP
namespace Go.Proofs.Ytimeecimaokldaa
open Go Go.RowKit
set_option linter.unusedVariables false
set_option linter.unusedSimpArgs false

theorem far_mono (c : List Int) : ∀ (a l : List Int) (i : Nat), farL c (a.take i) (l.take i) ≤ farL c a l
  | [], l, i => by rw [List.take_nil]; cases i <;> cases l <;> simp [farL]
  | x :: a, [], i => by rw [List.take_nil]; cases i <;> simp [farL]
  | x :: a, o :: l, 0 => by rw [List.take_zero, List.take_zero]; have := far_nonneg c (x :: a) (o :: l); simpa [farL] using this
  | x :: a, o :: l, i + 1 => by
    have ih := far_mono c a l i
    simp only [List.take_succ_cons, farL]
    omega
set_option maxRecDepth 100000 in
set_option maxHeartbeats 8000000 in
theorem implJudge_any (b : Bt) (v u : Value) (l : List ByteArray) (st : List (Int × Int)) (s : Int) (w : World) (hv : Strs w v l) (hf : Fits l) (hu : Sks w u st) : Calls Try.prog 10 #[b.v, v, u, .int .i64 s] w (JdPost w b l st s) := by
  have Hid1 := Lib.hid (fun W (hW : Below w.heap.size w W) => implIdeal_any b v l W (hv.to hW) hf)
  have Hgr := Lib.hid (fun W (hW : Below w.heap.size w W) => goodRows_iff v l W (hv.to hW) hf)
  have Hof := Lib.hid (fun W bell (hW : Below w.heap.size w W) hl => ofBell_any u st bell W (hu.to hW) hl)
  have Hof2 := Lib.hid (fun V L bell W (h : Sks W V L) hl => ofBell_any V L bell W h hl)
  have Hmb := Lib.hid (fun W bell (hW : Below w.heap.size w W) => MatchBell_any b v u l st bell s W (hv.to hW) hf (hu.to hW))
  obtain ⟨A1, c1, rfl, h1, h2, hr⟩ := hv
  obtain ⟨A2, c2, rfl, _⟩ := hu
  unfold maxLen at h2
  have HR := Lib.hid hr
  clear hr
  unfold Bt.v at Hid1 Hmb ⊢
  go_enter Try.func10, Try.ntmps10
  go_wp2_with fail
  refine box2 (C := fun W => Calls _ _ _ W _) ?_
  intro wb hwb k1 k2 hB0
  have R1 := boxRule k1
  obtain ⟨tm, hX⟩ : ∃ t, B4 wb (w.heap.size + 1) (.int .i64 0) (.int .i64 0) (.int .i64 0) (.int .i64 0) t := ⟨_, k2⟩
  have hz : w.heap.size + 1 < wb.heap.size := blkE k2
  clear k1 k2 hB0
  refine (Hgr.out _ hwb).mono ?_; rintro e w2 ⟨ok, rfl, hi2, hb2⟩
  have Hi2 := Lib.hid hi2
  have hX2 := hX.to hb2 hz
  clear hi2
  cases ok
  · have HN : Hid (¬ JOk b l st s) := Lib.hid (fun h => by have := Hi2.out.2 (jok_parts h).2.1; cases this)
    clear R1
    obtain ⟨⟨x0, x1, x2, x3⟩, f0, f1, f2, f3⟩ := hX2.facts
    have e0 := Lib.hid (hX2.set0 (.int .i64 0)).facts.1.1
    have e1 := Lib.hid ((hX2.set0 (.int .i64 0)).set1 (.int .i64 0)).facts.1.2.1
    have e2 := Lib.hid (((hX2.set0 (.int .i64 0)).set1 (.int .i64 0)).set2 (.int .i64 0)).facts.1.2.2.1
    have e3 := Lib.hid ((((hX2.set0 (.int .i64 0)).set1 (.int .i64 0)).set2 (.int .i64 0)).set3 (.int .i64 0)).facts.1.2.2.2
    have HB := Lib.hid (bw_to hwb hb2)
    clear hX hb2 hX2
    go_wp2_with fail
    refine bodyPost_ret (v := .tuple #[.agg #[.int .i64 0, .int .i64 0, .int .i64 0, .int .i64 0], .bool false]) (by simp [results, go_sem, e0.out, e1.out, e2.out, e3.out]) rfl (jd_no HN.out (grow_set (grow_set (grow_set (grow_set HB.out (Nat.le_add_right _ 1) _) (Nat.le_add_right _ 1) _) (Nat.le_add_right _ 1) _) (Nat.le_add_right _ 1) _))
  have HG2 := Lib.hid (Hi2.out.1 rfl)
  clear Hi2
  by_cases hl0 : l.length = 0
  · have HN : Hid (¬ JOk b l st s) := Lib.hid (fun h => by have := (jok_parts h).2.2.2; omega)
    have e9 : ((l.length : Int) == 0) = true := by simp; exact List.length_eq_zero_iff.mp hl0
    clear R1
    obtain ⟨⟨x0, x1, x2, x3⟩, f0, f1, f2, f3⟩ := hX2.facts
    have e0 := Lib.hid (hX2.set0 (.int .i64 0)).facts.1.1
    have e1 := Lib.hid ((hX2.set0 (.int .i64 0)).set1 (.int .i64 0)).facts.1.2.1
    have e2 := Lib.hid (((hX2.set0 (.int .i64 0)).set1 (.int .i64 0)).set2 (.int .i64 0)).facts.1.2.2.1
    have e3 := Lib.hid ((((hX2.set0 (.int .i64 0)).set1 (.int .i64 0)).set2 (.int .i64 0)).set3 (.int .i64 0)).facts.1.2.2.2
    have HB := Lib.hid (bw_to hwb hb2)
    clear hX hb2 hX2
    go_wp2_with fail
    refine bodyPost_ret (v := .tuple #[.agg #[.int .i64 0, .int .i64 0, .int .i64 0, .int .i64 0], .bool false]) (by simp [results, go_sem, e0.out, e1.out, e2.out, e3.out]) rfl (jd_no HN.out (grow_set (grow_set (grow_set (grow_set HB.out (Nat.le_add_right _ 1) _) (Nat.le_add_right _ 1) _) (Nat.le_add_right _ 1) _) (Nat.le_add_right _ 1) _))
  have hl1 : 0 < l.length := by omega
  have e9 : ((l.length : Int) == 0) = false := by simp; intro h; subst h; exact hl0 rfl
  clear hX2 hl0
  have a0 := R1 w2 0 hb2
  have a1 := R1 w2 1 hb2
  have a2 := R1 w2 2 hb2
  go_wp2_with fail
  refine (Hid1.out _ (bw_to hwb hb2)).mono ?_; rintro e w3 ⟨ok, L, A3, c3, rfl, hown3, hb33, hi3, hL⟩
  have hb3 := bw_to hb2 hb33
  have Hi3 := Lib.hid hi3
  have HL := Lib.hid hL
  have Hown3 := Lib.hid hown3
  clear hi3 hb33 hb2 hL hown3 a0 a1 a2
  obtain ⟨ad, rfl, hC⟩ := strs_el HR.out hl1
  have Hr0 : Hid (l[0]? = some l[0]) := Lib.hid (List.getElem?_eq_getElem hl1)
  have hrs := (HG2.out.2 0 hl1).1.1
  obtain ⟨r, hr⟩ : ∃ r, r = l[0] := ⟨_, rfl⟩
  rw [← hr] at hC Hr0 hrs
  have HC := Lib.hid hC
  clear hC hr
  go_upto_region 5 with fail
  refine box1 (C := fun W => Code.wp _ _ _ _ W) ?_
  intro w4 hw4 k4 hB4
  obtain ⟨td, hD⟩ : ∃ t, B4 w4 w3.heap.size (.int .i64 0) (.int .i64 0) (.int .i64 0) (.int .i64 0) t := ⟨_, k4⟩
  have HD := Lib.hid hD
  have Hw4 := Lib.hid hw4
  obtain ⟨J, hJ⟩ : ∃ J, J = jdOf b l st s := ⟨_, rfl⟩
  have HJ := Lib.hid hJ
  have hJ0 : J 0 = ⟨0, 0, 0, 0, -1⟩ := by rw [hJ]; rfl
  clear hD hw4 k4 hB4 hJ
  go_wp2_with fail
  go_loopw [13, 14] (fun mo be wr => ∃ k : Nat, k ≤ r.size ∧ mo = .int .i64 (J k).p ∧ be = .int .i64 ((k : Int) + 1) ∧ Hid (B4 wr w3.heap.size (.int .i64 (J k).m) (.int .i64 (J k).e) (.int .i64 (J k).f) (.int .i64 (J k).w) td) ∧ Below w3.heap.size w3 wr ∧ Hid (∀ i : Nat, i < k → GoodJ b l st ((i : Int) + 1) s)) (fun _ be _ => r.size + 1 - (intOf be).toNat)
  case atStart => exact ⟨0, by omega, by rw [hJ0], rfl, by rw [hJ0]; exact HD, Hw4.out, Lib.hid (fun i hi => absurd hi (by omega))⟩
  case round =>
    obtain ⟨k, hk, rfl, rfl, HDk, hB, HGk⟩ := hrel
    have hbr := bw_to hb3 hB
    have q := HC.out wr (bw_to hwb hbr)
    have q0 := q
    rw [add_zero'] at q0
    have a0 := R1 wr 0 hbr
    have a1 := R1 wr 1 hbr
    have a2 := R1 wr 2 hbr
    have HBR := Lib.hid hbr
    have hzD := HDk.out.blk
    have hz3 : w.heap.size + 1 < w3.heap.size := by have := hb3.size; omega
    have hrs8 := hrs.2
    have wk : IntKind.i64.wrap ((k : Int) + 1 + 1) = ((k + 1 : Nat) : Int) + 1 := by rw [IntWalk.i64_in _ ⟨by omega, by omega⟩]; omega
    have hXr := hX.to hbr hz
    clear hb3
    by_cases hkl : k < r.size
    · have hkl' : (k : Int) + 1 ≤ (r.size : Int) := by omega
      have Hmb' := Lib.hid (Hmb.out wr ((k : Int) + 1) (bw_to hwb hbr))
      clear hbr
      go_wp2_with fail
      refine Hmb'.out.mono ?_; intro e w5 hp
      rcases hp with ⟨hg, A5, c5, rfl, hown5, hb5⟩ | ⟨hg, rfl, hb5⟩
      · obtain ⟨a, ha⟩ : ∃ a, a = ofL (idL b 0 l) ((k : Int) + 1) := ⟨_, rfl⟩
        obtain ⟨c, hc⟩ : ∃ c, c = ofL st ((k : Int) + 1) := ⟨_, rfl⟩
        have hst : st.length ≤ 10000000 := by have := hg.1.2.1.1; omega
        have hgm := hg.2
        have hJk : J (k + 1) = jdOne a c s ((k : Int) + 1) (J k) := by rw [HJ.out, ha, hc]; rfl
        have hjr := jd_rng (A := ofL (idL b 0 l)) (C := ofL st) (s := s) k (fun i hi => (HGk.out i hi).2)
        have hjk : jd (ofL (idL b 0 l)) (ofL st) s k = J k := by rw [HJ.out]; rfl
        rw [hjk] at hjr
        rw [← ha, ← hc] at hown5 hgm ⊢
        obtain ⟨⟨g1, g2, g3⟩, ⟨g4, g5⟩, g6, g7⟩ := one_rng hgm
        have hfi := far_is s a c
        have hl60 : (matL s a c 0).length ≤ 60 := by rw [mat_len0]; exact g1
        have hall : ∀ x ∈ matL s a c 0, -1 ≤ x ∧ x ≤ 60 := fun x hx => by
          rcases mat_rng s a c 0 x hx with h | h <;> omega
        have hin5 : Ints w5 (.slice A5 a.length c5) (matL s a c 0) := by
          have h := hown5
          rw [← mat_len0 s a c 0] at h ⊢
          exact ints_of_own h
        obtain ⟨M, hM⟩ : ∃ M, M = matL s a c 0 := ⟨_, rfl⟩
        obtain ⟨P, hP⟩ : ∃ P, P = prL s a c := ⟨_, rfl⟩
        obtain ⟨F, hF⟩ : ∃ F, F = farL c a M := ⟨_, rfl⟩
        unfold jdOne at hJk
        rw [← hM] at hJk hfi g3 g4 g5 hl60 hall hin5
        rw [← hF] at hJk hfi g4 g5
        rw [← hP] at hJk hfi g6 g7 ⊢
        obtain ⟨m, hm⟩ : ∃ m, m = missN M := ⟨_, rfl⟩
        have hok : ok = true := Hi3.out.2 hg.1.1
        have hLL : L = idL b 0 l := by rw [HL.out, hok]; rfl
        have hLs : L.length ≤ 10000000 := by rw [hLL]; have := hg.1.1.2.2.1; omega
        have Hof1 := Lib.hid (fun W (hW : Below w3.heap.size w3 W) => Hof2.out _ L ((k : Int) + 1) W (sks_of_own (own_to Hown3.out hW)) hLs)
        have Hof' := Lib.hid (fun W (hW : Below w.heap.size w W) => Hof.out W ((k : Int) + 1) hW hst)
        rw [← hc] at Hof'
        rw [hLL, ← ha] at Hof1
        rw [← hLL] at Hof1
        have Hok := Lib.hid hok
        have HJk := Lib.hid hJk
        have Hg := Lib.hid hg
        have Hgm := Lib.hid hgm
        have Hown5 := Lib.hid hown5
        have hb5' := bw_to HBR.out hb5
        have HM := Lib.hid hM
        have Hac := Lib.hid (And.intro ha hc)
        have hF' := hF
        clear hok hg hgm hJk ha hc hown5 hin5 hall hLL hLs hst hM hP hF hjk Hmb' Hmb Hgr Hid1 Hof Hof2
        clear q q0 a0 a1 a2 hXr
        go_upto_region 9 with fail
        refine box1 (C := fun W => Code.wp _ _ _ _ W) ?_
        intro w6 hw6 k6 hB6
        have R6 := boxRule k6
        have hz6 := blkE k6
        have hb6 := bw_to hb5' hw6
        have hr6 := bw_to hb5 hw6
        have hD5 : w3.heap.size < w5.heap.size := Nat.lt_of_lt_of_le hzD hb5.size
        have Hof1' := Lib.hid (Hof1.out w6 (hB.trans (hr6.mono (Nat.le_of_lt hzD))))
        clear k6 Hof1
        go_wp2_with fail
        refine Hof1'.out.mono ?_; rintro e w7 ⟨A7, c7, rfl, hown7, hb7⟩
        have Hown7 := Lib.hid hown7
        have hb77 := bw_to hb6 hb7
        have hr7 := bw_to hr6 hb7
        clear hown7 Hof1'
        go_wp2_with fail
        refine (Hof'.out w7 (bw_to hwb hb77)).mono ?_; rintro e w8 ⟨A8, c8, rfl, hown8, hb8⟩
        have Hown8 := Lib.hid hown8
        have hr8 := bw_to hr7 hb8
        have hD8 := HDk.out.to hr8 hzD
        have m0 := R6 w8 0 (bw_to hb7 hb8)
        have m1 := R6 w8 1 (bw_to hb7 hb8)
        obtain ⟨⟨d0, d1, d2, d3⟩, df0, df1, df2, df3⟩ := hD8.facts
        have v12 : IntKind.i64.wrap ((J k).e + (c.length : Int)) = (J k).e + (c.length : Int) := IntWalk.i64_in _ ⟨by omega, by omega⟩
        clear hown8
        go_upto_region 13 with fail
        have hD1 := hD8.set1 (.int .i64 ((J k).e + (c.length : Int)))
        have hoth : ∀ g, g ≠ w3.heap.size → (w8.setCell ⟨w3.heap.size, 1, none⟩ (.int .i64 ((J k).e + (c.length : Int)))).heap[g]? = w8.heap[g]? := fun g hg => set_other hg _
        have HB1 := Lib.hid (grow_set (hB.trans (hr8.mono (Nat.le_of_lt hzD))) (Nat.le_refl _) (j := 1) (.int .i64 ((J k).e + (c.length : Int))))
        obtain ⟨wd, hwd⟩ : ∃ wd, wd = w8.setCell ⟨w3.heap.size, 1, none⟩ (.int .i64 ((J k).e + (c.length : Int))) := ⟨_, rfl⟩
        rw [← hwd] at hD1 hoth HB1 ⊢
        clear hwd d0 d1 d2 d3 df0 df1 df2 df3 hD8 m0 m1
        have y0 : wd.cell? ⟨w5.heap.size, 0, none⟩ = some (.slice A5 a.length c5) := by
          have h := R6 w8 0 (bw_to hb7 hb8)
          unfold World.cell? at h ⊢
          rw [hoth w5.heap.size (by omega)]
          exact h
        have HM1 : Hid (w8.cell? ⟨w5.heap.size, 1, none⟩ = some (.int .i64 P)) := Lib.hid (R6 w8 1 (bw_to hb7 hb8))
        have HD1 := Lib.hid hD1
        have Hoth := Lib.hid hoth
        clear hD1 hoth
        have h5 := own_to (own_to (own_to Hown5.out hw6) hb7) hb8
        rw [← HM.out] at h5
        have HO5 := Lib.hid h5
        clear h5
        have HO7 := Lib.hid (own_to Hown7.out hb8)
        have hml : M.length = a.length := by rw [HM.out, mat_len0]
        have Hml := Lib.hid hml
        have HMr : Hid (∀ x ∈ M, x = -1 ∨ (0 ≤ x ∧ x < (c.length : Int))) := Lib.hid (fun x hx => by
          rw [HM.out] at hx
          rcases mat_rng s a c 0 x hx with h | h
          · exact .inl h
          · exact .inr (by omega))
        have Hra := Lib.hid (goodT_rng Hgm.out.1)
        have Hrc := Lib.hid (goodT_rng Hgm.out.2.1)
        have hF5 : farL c a M ≤ 1800000 := by rw [← hF']; exact g5
        have HF5 := Lib.hid hF5
        have HFF := Lib.hid hF'
        have hj1 := hjr.1
        have hj2 := hjr.2.1
        have hj3 := hjr.2.2.1
        have hN5 : w3.heap.size < wr.heap.size := hzD
        have hN6 : w3.heap.size < w6.heap.size := Nat.lt_of_lt_of_le hzD hr6.size
        have hN7 : w3.heap.size < w7.heap.size := Nat.lt_of_lt_of_le hzD hr7.size
        have HM0 : Hid (B4 wd w3.heap.size (.int .i64 ((J k).m + (missN (M.take 0) : Int))) (.int .i64 ((J k).e + ((c.length : Int) - (((0 : Nat) : Int) - (missN (M.take 0) : Int))))) (.int .i64 ((J k).f + farL c (a.take 0) (M.take 0))) (.int .i64 (J k).w) td) := Lib.hid (by
          have e1 : (J k).m + (missN (M.take 0) : Int) = (J k).m := by simp [missN]
          have e2 : (J k).e + ((c.length : Int) - (((0 : Nat) : Int) - (missN (M.take 0) : Int))) = (J k).e + (c.length : Int) := by simp [missN]
          have e3 : (J k).f + farL c (a.take 0) (M.take 0) = (J k).f := by simp [farL]
          rw [e1, e2, e3]
          exact HD1.out)
        clear hml hF5 hF' HD1 hm hwb hb5' hb6 hb7 hb8 hb77 hr6 hr7 hr8 hw6 hb5 R6 R1 hX hB hjr Hown5 Hown7 hz6
        go_wp2_with fail
        obtain ⟨wo, rfl⟩ : ∃ wo : World, wo = wr := ⟨_, rfl⟩
        go_loopw [72] (fun i wx => ∃ t : Nat, t ≤ a.length ∧ i = .int .i64 t ∧ Hid (B4 wx w3.heap.size (.int .i64 ((J k).m + (missN (M.take t) : Int))) (.int .i64 ((J k).e + ((c.length : Int) - ((t : Int) - (missN (M.take t) : Int))))) (.int .i64 ((J k).f + farL c (a.take t) (M.take t))) (.int .i64 (J k).w) td) ∧ Hid (Below w3.heap.size w3 wx) ∧ Hid (∀ g, g ≠ w3.heap.size → wx.heap[g]? = w8.heap[g]?)) (fun i _ => a.length - (intOf i).toNat)
        case atStart => exact ⟨0, Nat.zero_le _, rfl, HM0, HB1, Hoth⟩
        case round =>
          obtain ⟨t, ht, rfl, HDt, HBt, Hot⟩ := hrel
          obtain ⟨⟨d0, d1, d2, d3⟩, df0, df1, df2, df3⟩ := HDt.out.facts
          by_cases hlt : t < a.length
          · have htM : t < M.length := by rw [Hml.out]; exact hlt
            have Hmt := Lib.hid (miss_take htM)
            have Hft := Lib.hid (far_take c a M t hlt htM)
            have hn1 := miss_len (M.take t)
            rw [List.length_take] at hn1
            have hf1 := far_nonneg c (a.take t) (M.take t)
            have hf2 := far_mono c a M t
            have hf3 := HF5.out
            have hx0 := HMr.out _ (List.getElem_mem htM)
            have HOx := Lib.hid (own_over HO5.out (fun g hg => Hot.out g (by omega)))
            obtain ⟨go, rfl, hgo, hgl⟩ := own_ptrE HOx.out (by omega)
            have q := HOx.out.cellAt t (by omega)
            rw [List.getElem?_map, List.getElem?_eq_getElem htM] at q
            have q' : wr.cell? ⟨go, t, none⟩ = some (.int .i64 M[t]) := q
            obtain ⟨n, hn⟩ : ∃ n, n = missN (M.take t) := ⟨_, rfl⟩
            obtain ⟨f, hf⟩ : ∃ f, f = farL c (a.take t) (M.take t) := ⟨_, rfl⟩
            obtain ⟨x, hx⟩ : ∃ x, x = M[t] := ⟨_, rfl⟩
            rw [← hn] at Hmt hn1 d0 d1 HDt
            rw [← hf] at Hft hf1 hf2 d2 HDt
            rw [← hx] at Hmt Hft hx0 q'
            clear hn hf hx q htM
            by_cases hxn : x < 0
            · have wv : IntKind.i64.wrap ((J k).m + (n : Int) + 1) = (J k).m + (n : Int) + 1 := IntWalk.i64_in _ ⟨by omega, by omega⟩
              clear hx0 hf2 hf3 df1 df2 df3
              go_wp2_with fail
              refine ⟨⟨t + 1, hlt, by go_num, ?_, Lib.hid (grow_set HBt.out (Nat.le_refl _) _), Lib.hid (fun g hg => (set_other hg _).trans (Hot.out g hg))⟩, by simp [intOf]; omega⟩
              have h := HDt.out.set0 (.int .i64 ((J k).m + (n : Int) + 1))
              have e1 : (J k).m + (missN (M.take (t + 1)) : Int) = (J k).m + (n : Int) + 1 := by rw [Hmt.out, if_pos hxn]; omega
              have e2 : (J k).e + ((c.length : Int) - (((t + 1 : Nat) : Int) - (missN (M.take (t + 1)) : Int))) = (J k).e + ((c.length : Int) - ((t : Int) - (n : Int))) := by rw [Hmt.out, if_pos hxn]; omega
              have e3 : (J k).f + farL c (a.take (t + 1)) (M.take (t + 1)) = (J k).f + f := by rw [Hft.out, if_pos hxn]; omega
              rw [e1, e2, e3]
              exact Lib.hid h
            · obtain ⟨p, rfl⟩ : ∃ p : Nat, x = (p : Int) := ⟨x.toNat, by omega⟩
              have hpc : p < c.length := by omega
              have wv : IntKind.i64.wrap ((J k).e + ((c.length : Int) - ((t : Int) - (n : Int))) - 1) = (J k).e + ((c.length : Int) - ((t : Int) - (n : Int))) - 1 := IntWalk.i64_in _ ⟨by omega, by omega⟩
              have eg : c.getD p 0 = c[p] := by simp [List.getD, List.getElem?_eq_getElem hpc]
              have ra := Hra.out _ (List.getElem_mem hlt)
              have rc := Hrc.out _ (List.getElem_mem hpc)
              have HOa := Lib.hid (own_over HO7.out (fun g hg => Hot.out g (by omega)))
              have HOc := Lib.hid (own_over Hown8.out (fun g hg => Hot.out g (by omega)))
              obtain ⟨ga, rfl, hga, hgal⟩ := own_ptrE HOa.out (by omega)
              obtain ⟨gc, rfl, hgc, hgcl⟩ := own_ptrE HOc.out (by omega)
              have qa := HOa.out.cellAt t (by omega)
              rw [List.getElem?_map, List.getElem?_eq_getElem hlt] at qa
              have qa' : wr.cell? ⟨ga, t, none⟩ = some (.int .i64 a[t]) := qa
              have qc := HOc.out.cellAt p (by omega)
              rw [List.getElem?_map, List.getElem?_eq_getElem hpc] at qc
              have qc' : wr.cell? ⟨gc, p, none⟩ = some (.int .i64 c[p]) := qc
              rw [if_neg hxn] at Hmt Hft
              rw [Int.toNat_natCast, eg] at Hft
              obtain ⟨xa, hxa⟩ : ∃ x, x = a[t] := ⟨_, rfl⟩
              obtain ⟨xc, hxc⟩ : ∃ x, x = c[p] := ⟨_, rfl⟩
              rw [← hxa] at ra qa' Hft
              rw [← hxc] at rc qc' Hft
              clear hxa hxc qa qc eg
              have wxy : IntKind.i64.wrap (xa - xc) = xa - xc := IntWalk.i64_in _ ⟨by omega, by omega⟩
              have HF : Hid (∀ W, Calls Try.prog 25 #[.int .i64 (xa - xc)] W fun e w' => e = .returned (.int .i64 ((xa - xc).natAbs : Int)) ∧ w' = W) := Lib.hid (fun W => (absE_any (xa - xc) W ⟨by omega, by omega⟩).mono (fun e w' ⟨h1, h2⟩ => ⟨h1, h2.symm⟩))
              have hfv9 : 0 ≤ ((xa - xc).natAbs : Int) ∧ ((xa - xc).natAbs : Int) ≤ 1000000 := by omega
              obtain ⟨fv, hfv⟩ : ∃ fv, fv = ((xa - xc).natAbs : Int) := ⟨_, rfl⟩
              rw [← hfv] at HF Hft hfv9
              clear hfv
              have wf : IntKind.i64.wrap ((J k).f + f + fv) = (J k).f + f + fv := IntWalk.i64_in _ ⟨by omega, by omega⟩
              have b5 : (t : Int) < (a.length : Int) := by omega
              have b6 : (p : Int) < (c.length : Int) := by omega
              have HQ : Hid (∀ W : World, (∀ g, g ≠ w3.heap.size → W.heap[g]? = wr.heap[g]?) → W.cell? ⟨ga, t, none⟩ = some (.int .i64 xa) ∧ W.cell? ⟨gc, p, none⟩ = some (.int .i64 xc)) := Lib.hid (fun W hW => by
                unfold World.cell? at *
                simp only [hW ga (by omega), hW gc (by omega)]
                exact ⟨qa', qc'⟩)
              clear hx0 hf3 df0 df3 qa' qc' d0 d3
              go_upto_region 19 with fail
              have hD2 := HDt.out.set1 (.int .i64 ((J k).e + ((c.length : Int) - ((t : Int) - (n : Int))) - 1))
              have Hot2 : Hid (∀ g, g ≠ w3.heap.size → (wr.setCell ⟨w3.heap.size, 1, none⟩ (.int .i64 ((J k).e + ((c.length : Int) - ((t : Int) - (n : Int))) - 1))).heap[g]? = wr.heap[g]?) := Lib.hid (fun g hg => set_other hg _)
              have HB2 := Lib.hid (grow_set HBt.out (Nat.le_refl _) (j := 1) (.int .i64 ((J k).e + ((c.length : Int) - ((t : Int) - (n : Int))) - 1)))
              obtain ⟨we, hwe⟩ : ∃ we, we = wr.setCell ⟨w3.heap.size, 1, none⟩ (.int .i64 ((J k).e + ((c.length : Int) - ((t : Int) - (n : Int))) - 1)) := ⟨_, rfl⟩
              rw [← hwe] at hD2 Hot2 HB2 ⊢
              have HD2 := Lib.hid hD2
              clear hwe d1 d2 df1 df2 hD2 q'
              refine wp_region_still_tail 14 (by kernel_rfl) (by kernel_rfl) ?_
              simp only [List.take_succ_cons, List.take_zero, List.drop_succ_cons, List.drop_zero, show ({ we with drawn := we.drawn + 1 } : World) = we.drew from rfl]
              have HD3 : Hid (B4 we.drew w3.heap.size _ _ _ _ td) := Lib.hid (HD2.out.same (by rfl))
              have HB3 := Lib.hid (bw_to HB2.out (Below.drew (Below.refl we.heap.size we)))
              have Hot3 : Hid (∀ g, g ≠ w3.heap.size → we.drew.heap[g]? = wr.heap[g]?) := Hot2
              obtain ⟨wz, hwz⟩ : ∃ wz, wz = we.drew := ⟨_, rfl⟩
              rw [← hwz] at HD3 HB3 Hot3 ⊢
              clear hwz
              obtain ⟨⟨d0, d1, d2, d3⟩, df0, df1, df2, df3⟩ := HD3.out.facts
              obtain ⟨qa, qc⟩ := HQ.out wz Hot3.out
              clear d0 d1 d3 df0 df1 df3
              repeat still_step
              still_call (HF.out wz)
              repeat still_step
              refine wpStill_nil ?_
              go_wp2_with fail
              refine ⟨⟨t + 1, hlt, by go_num, ?_, Lib.hid (grow_set HB3.out (Nat.le_refl _) _), Lib.hid (fun g hg => (set_other hg _).trans ((Hot3.out g hg).trans (Hot.out g hg)))⟩, by simp [intOf]; omega⟩
              have h := HD3.out.set2 (.int .i64 ((J k).f + f + fv))
              have e1 : (J k).m + (missN (M.take (t + 1)) : Int) = (J k).m + (n : Int) := by rw [Hmt.out]; omega
              have e2 : (J k).e + ((c.length : Int) - (((t + 1 : Nat) : Int) - (missN (M.take (t + 1)) : Int))) = (J k).e + ((c.length : Int) - ((t : Int) - (n : Int))) - 1 := by rw [Hmt.out]; omega
              have e3 : (J k).f + farL c (a.take (t + 1)) (M.take (t + 1)) = (J k).f + f + fv := by rw [Hft.out]; omega
              rw [e1, e2, e3]
              exact Lib.hid h
          · obtain rfl : t = a.length := by omega
            have eM : M.take a.length = M := List.take_of_length_le (by rw [Hml.out]; exact Nat.le_refl _)
            rw [eM, List.take_length, ← HFF.out] at HDt
            clear d0 d1 d2 d3 df0 df1 df2 df3 eM
            obtain ⟨⟨d0, d1, d2, d3⟩, df0, df1, df2, df3⟩ := HDt.out.facts
            have y1 : wr.cell? ⟨w5.heap.size, 1, none⟩ = some (.int .i64 P) := by
              have h := HM1.out
              unfold World.cell? at h ⊢
              rw [Hot.out w5.heap.size (by omega)]
              exact h
            have HG' : Hid (∀ i : Nat, i < k + 1 → GoodJ b l st ((i : Int) + 1) s) := Lib.hid (fun i hi => by
              by_cases h : i = k
              · subst h; exact Hg.out
              · exact HGk.out i (by omega))
            clear d0 d1 d2 df0 df1 df2
            by_cases hpp : (J k).p < P
            · have HJ1 : Hid (J (k + 1) = ⟨(J k).m + (missN M : Int), (J k).e + ((c.length : Int) - ((a.length : Int) - (missN M : Int))), (J k).f + F, (k : Int) + 1, P⟩) := Lib.hid (by rw [HJk.out, if_pos hpp, if_pos hpp])
              go_upto_region 22 with fail
              go_region
              all_goals
                go_wp2_with fail
                refine ⟨⟨k + 1, hkl, by rw [HJ1.out], rfl, Lib.hid (by rw [HJ1.out]; exact (HDt.out.same (W' := wr.drew) (by rfl)).set3 _), grow_set (bw_to HBt.out (Below.drew (Below.refl wr.heap.size wr))) (Nat.le_refl _) _, HG'⟩, ?_⟩
                simp [intOf]; omega
            · have HJ1 : Hid (J (k + 1) = ⟨(J k).m + (missN M : Int), (J k).e + ((c.length : Int) - ((a.length : Int) - (missN M : Int))), (J k).f + F, (J k).w, (J k).p⟩) := Lib.hid (by rw [HJk.out, if_neg hpp, if_neg hpp])
              go_wp2_with fail
              refine ⟨⟨k + 1, hkl, by rw [HJ1.out], rfl, Lib.hid (by rw [HJ1.out]; exact HDt.out), HBt.out, HG'⟩, ?_⟩
              simp [intOf]; omega
      · have HN : Hid (¬ JOk b l st s) := Lib.hid (fun h => by
          obtain ⟨_, r', h3, h4⟩ := h
          rw [Hr0.out] at h3
          injection h3 with h3
          subst h3
          exact hg (h4 k hkl))
        have hb5' := bw_to HBR.out hb5
        clear hg hXr a0 a1 a2 q q0 R1
        go_upto_region 9 with fail
        refine box1 (C := fun W => Code.wp _ _ _ _ W) ?_
        intro w6 hw6 k6 hB6
        have hb6 := bw_to hb5' hw6
        have hX6 := hX.to hb6 hz
        clear k6 hB6 hb5 hb5' hw6
        obtain ⟨⟨x0, x1, x2, x3⟩, f0, f1, f2, f3⟩ := hX6.facts
        have e0 := Lib.hid (hX6.set0 (.int .i64 0)).facts.1.1
        have e1 := Lib.hid ((hX6.set0 (.int .i64 0)).set1 (.int .i64 0)).facts.1.2.1
        have e2 := Lib.hid (((hX6.set0 (.int .i64 0)).set1 (.int .i64 0)).set2 (.int .i64 0)).facts.1.2.2.1
        have e3 := Lib.hid ((((hX6.set0 (.int .i64 0)).set1 (.int .i64 0)).set2 (.int .i64 0)).set3 (.int .i64 0)).facts.1.2.2.2
        have HB := Lib.hid (bw_to hwb hb6)
        clear hX hb6 hX6
        go_wp2_with fail
        refine bodyPost_ret (v := .tuple #[.agg #[.int .i64 0, .int .i64 0, .int .i64 0, .int .i64 0], .bool false]) (by simp [results, go_sem, e0.out, e1.out, e2.out, e3.out]) rfl (jd_no HN.out (grow_set (grow_set (grow_set (grow_set HB.out (Nat.le_add_right _ 1) _) (Nat.le_add_right _ 1) _) (Nat.le_add_right _ 1) _) (Nat.le_add_right _ 1) _))
    · obtain rfl : k = r.size := by omega
      have HY : Hid (JOk b l st s) := Lib.hid ⟨HG2.out, r, Hr0.out, HGk.out⟩
      obtain ⟨⟨d0, d1, d2, d3⟩, _⟩ := HDk.out.facts
      obtain ⟨⟨x0, x1, x2, x3⟩, f0, f1, f2, f3⟩ := hXr.facts
      have e0 := Lib.hid (hXr.set0 (.int .i64 (J r.size).m)).facts.1.1
      have e1 := Lib.hid ((hXr.set0 (.int .i64 (J r.size).m)).set1 (.int .i64 (J r.size).e)).facts.1.2.1
      have e2 := Lib.hid (((hXr.set0 (.int .i64 (J r.size).m)).set1 (.int .i64 (J r.size).e)).set2 (.int .i64 (J r.size).f)).facts.1.2.2.1
      have e3 := Lib.hid ((((hXr.set0 (.int .i64 (J r.size).m)).set1 (.int .i64 (J r.size).e)).set2 (.int .i64 (J r.size).f)).set3 (.int .i64 (J r.size).w)).facts.1.2.2.2
      have HB := Lib.hid (bw_to hwb hbr)
      clear hX hXr a0 a1 a2 R1 hbr
      go_wp2_with fail
      refine bodyPost_ret (v := .tuple #[.agg #[.int .i64 (J r.size).m, .int .i64 (J r.size).e, .int .i64 (J r.size).f, .int .i64 (J r.size).w], .bool true]) (by simp [results, go_sem, e0.out, e1.out, e2.out, e3.out]) rfl ⟨.inl ⟨HY.out, r, Hr0.out, by rw [← HJ.out]; rfl⟩, grow_set (grow_set (grow_set (grow_set HB.out (Nat.le_add_right _ 1) _) (Nat.le_add_right _ 1) _) (Nat.le_add_right _ 1) _) (Nat.le_add_right _ 1) _⟩
end Go.Proofs.Ytimeecimaokldaa

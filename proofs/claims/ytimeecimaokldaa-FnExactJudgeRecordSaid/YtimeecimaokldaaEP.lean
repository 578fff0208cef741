/- Contract: JudgeRecord, the reference's. -/
import Derived.Test.YtimeecimaokldaaEO
namespace Go.Proofs.Ytimeecimaokldaa
open Go Go.RowKit
set_option linter.unusedVariables false
set_option linter.unusedSimpArgs false

/-- A box of four cells. -/
def B4 (W : World) (B : Nat) (x y z u : Value) (t : TypeId) : Prop := W.heap[B]? = some (.cells #[x, y, z, u] t (0, 0))
theorem B4.facts {W : World} {B : Nat} {x y z u : Value} {t : TypeId} (h : B4 W B x y z u t) : (W.cell? ⟨B, 0, none⟩ = some x ∧ W.cell? ⟨B, 1, none⟩ = some y ∧ W.cell? ⟨B, 2, none⟩ = some z ∧ W.cell? ⟨B, 3, none⟩ = some u) ∧ W.frozen? ⟨B, 0, none⟩ = false ∧ W.frozen? ⟨B, 1, none⟩ = false ∧ W.frozen? ⟨B, 2, none⟩ = false ∧ W.frozen? ⟨B, 3, none⟩ = false := by
  unfold B4 at h
  refine ⟨⟨?_, ?_, ?_, ?_⟩, ?_, ?_, ?_, ?_⟩ <;> simp [World.cell?, World.frozen?, h]
theorem B4.set0 {W : World} {B : Nat} {x y z u : Value} {t : TypeId} (h : B4 W B x y z u t) (x' : Value) : B4 (W.setCell ⟨B, 0, none⟩ x') B x' y z u t := by
  unfold B4 at h ⊢
  simp only [World.setCell, Array.getElem?_modify, h]
  simp
theorem B4.set1 {W : World} {B : Nat} {x y z u : Value} {t : TypeId} (h : B4 W B x y z u t) (x' : Value) : B4 (W.setCell ⟨B, 1, none⟩ x') B x x' z u t := by
  unfold B4 at h ⊢
  simp only [World.setCell, Array.getElem?_modify, h]
  simp
theorem B4.set2 {W : World} {B : Nat} {x y z u : Value} {t : TypeId} (h : B4 W B x y z u t) (x' : Value) : B4 (W.setCell ⟨B, 2, none⟩ x') B x y x' u t := by
  unfold B4 at h ⊢
  simp only [World.setCell, Array.getElem?_modify, h]
  simp
theorem B4.set3 {W : World} {B : Nat} {x y z u : Value} {t : TypeId} (h : B4 W B x y z u t) (x' : Value) : B4 (W.setCell ⟨B, 3, none⟩ x') B x y z x' t := by
  unfold B4 at h ⊢
  simp only [World.setCell, Array.getElem?_modify, h]
  simp
theorem B4.to {W W' : World} {B C : Nat} {x y z u : Value} {t : TypeId} (h : B4 W B x y z u t) (hb : Below C W W') (hB : B < C) : B4 W' B x y z u t := (hb.block B hB).trans h
theorem B4.same {W W' : World} {B : Nat} {x y z u : Value} {t : TypeId} (h : B4 W B x y z u t) (hb : W'.heap = W.heap) : B4 W' B x y z u t := by unfold B4 at *; rw [hb]; exact h
theorem B4.blk {W : World} {B : Nat} {x y z u : Value} {t : TypeId} (h : B4 W B x y z u t) : B < W.heap.size := blkE h
theorem jd_no {w w' : World} {b : Bt} {l : List ByteArray} {st : List (Int × Int)} {s : Int} (h : ¬ JOk b l st s) (hb : Below w.heap.size w w') : JdPost w b l st s (.returned (.tuple #[.agg #[.int .i64 0, .int .i64 0, .int .i64 0, .int .i64 0], .bool false])) w' := ⟨.inr ⟨h, rfl⟩, hb⟩
theorem jok_parts {b : Bt} {l : List ByteArray} {st : List (Int × Int)} {s : Int} (h : JOk b l st s) : GoodB b ∧ GoodRs l ∧ GoodS st ∧ 0 < l.length := by
  obtain ⟨h1, r, h2, h3⟩ := h
  have hl : 0 < l.length := by
    rcases Nat.eq_zero_or_pos l.length with h | h
    · rw [List.getElem?_eq_none (by omega)] at h2; cases h2
    · exact h
  have hr : 3 ≤ r.size := by
    have := (h1.2 0 hl).1.1.1
    rw [List.getElem?_eq_getElem hl] at h2
    injection h2 with h2
    rw [← h2]; exact this
  have h4 := h3 0 (by omega)
  exact ⟨h4.1.1.1, h1, h4.1.2.1, hl⟩
set_option maxRecDepth 100000 in
set_option maxHeartbeats 8000000 in
theorem specJudge_any (b : Bt) (v u : Value) (l : List ByteArray) (st : List (Int × Int)) (s : Int) (w : World) (hv : Strs w v l) (hf : Fits l) (hu : Sks w u st) : Calls Try.prog 6 #[b.v, v, u, .int .i64 s] w (JdPost w b l st s) := by
  have Hgb := Lib.hid (fun W => l21Beat_iff b W)
  have Hgr := Lib.hid (fun W (hW : Below w.heap.size w W) => l6Rows_iff v l W (hv.to hW) hf)
  have Hgs := Lib.hid (fun W (hW : Below w.heap.size w W) => l21Good_iff u st W (hu.to hW))
  have Hof := Lib.hid (fun W bell (hW : Below w.heap.size w W) hl => l21Of_any u st bell W (hu.to hW) hl)
  have Hmb := Lib.hid (fun W bell (hW : Below w.heap.size w W) => specMatchBell_any b v u l st bell s W (hv.to hW) hf (hu.to hW))
  obtain ⟨A1, c1, rfl, h1, h2, hr⟩ := hv
  obtain ⟨A2, c2, rfl, _⟩ := hu
  unfold maxLen at h2
  have HR := Lib.hid hr
  clear hr
  unfold Bt.v at Hgb Hmb ⊢
  go_enter Try.func6, Try.ntmps6
  go_wp2_with fail
  refine box2 (C := fun W => Calls _ _ _ W _) ?_
  intro wb hwb k1 k2 hB0
  have R1 := boxRule k1
  obtain ⟨tm, hX⟩ : ∃ t, B4 wb (w.heap.size + 1) (.int .i64 0) (.int .i64 0) (.int .i64 0) (.int .i64 0) t := ⟨_, k2⟩
  have hz : w.heap.size + 1 < wb.heap.size := blkE k2
  clear k1 k2 hB0
  refine (Hgb.out _).mono ?_; rintro e w1 ⟨ok, rfl, hi1, hb1⟩
  have Hi1 := Lib.hid hi1
  have hX1 := hX.to hb1 hz
  clear hi1
  cases ok
  · have HN : Hid (¬ JOk b l st s) := Lib.hid (fun h => by have := Hi1.out.2 (jok_parts h).1; cases this)
    clear R1
    obtain ⟨⟨x0, x1, x2, x3⟩, f0, f1, f2, f3⟩ := hX1.facts
    have e0 := Lib.hid (hX1.set0 (.int .i64 0)).facts.1.1
    have e1 := Lib.hid ((hX1.set0 (.int .i64 0)).set1 (.int .i64 0)).facts.1.2.1
    have e2 := Lib.hid (((hX1.set0 (.int .i64 0)).set1 (.int .i64 0)).set2 (.int .i64 0)).facts.1.2.2.1
    have e3 := Lib.hid ((((hX1.set0 (.int .i64 0)).set1 (.int .i64 0)).set2 (.int .i64 0)).set3 (.int .i64 0)).facts.1.2.2.2
    have HB := Lib.hid (bw_to hwb hb1)
    clear hX hb1 hX1
    go_wp2_with fail
    refine bodyPost_ret (v := .tuple #[.agg #[.int .i64 0, .int .i64 0, .int .i64 0, .int .i64 0], .bool false]) (by simp [results, go_sem, e0.out, e1.out, e2.out, e3.out]) rfl (jd_no HN.out (grow_set (grow_set (grow_set (grow_set HB.out (Nat.le_add_right _ 1) _) (Nat.le_add_right _ 1) _) (Nat.le_add_right _ 1) _) (Nat.le_add_right _ 1) _))
  have HG1 := Lib.hid (Hi1.out.1 rfl)
  clear Hi1 hX1
  go_wp2_with fail
  refine (Hgr.out _ (bw_to hwb hb1)).mono ?_; rintro e w2 ⟨ok, rfl, hi2, hb22⟩
  have hb2 := bw_to hb1 hb22
  have Hi2 := Lib.hid hi2
  have hX2 := hX.to hb2 hz
  clear hi2 hb22 hb1
  cases ok
  · have HN : Hid (¬ JOk b l st s) := Lib.hid (fun h => by have := Hi2.out.2 (jok_parts h).2.1; cases this)
    clear R1
    obtain ⟨⟨x0, x1, x2, x3⟩, f0, f1, f2, f3⟩ := hX2.facts
    have e0 := Lib.hid (hX2.set0 (.int .i64 0)).facts.1.1
    have e1 := Lib.hid ((hX2.set0 (.int .i64 0)).set1 (.int .i64 0)).facts.1.2.1
    have e2 := Lib.hid (((hX2.set0 (.int .i64 0)).set1 (.int .i64 0)).set2 (.int .i64 0)).facts.1.2.2.1
    have e3 := Lib.hid ((((hX2.set0 (.int .i64 0)).set1 (.int .i64 0)).set2 (.int .i64 0)).set3 (.int .i64 0)).facts.1.2.2.2
    have HB := Lib.hid (bw_to hwb hb2)
    clear hX hb2 hX2
    go_wp2_with fail
    refine bodyPost_ret (v := .tuple #[.agg #[.int .i64 0, .int .i64 0, .int .i64 0, .int .i64 0], .bool false]) (by simp [results, go_sem, e0.out, e1.out, e2.out, e3.out]) rfl (jd_no HN.out (grow_set (grow_set (grow_set (grow_set HB.out (Nat.le_add_right _ 1) _) (Nat.le_add_right _ 1) _) (Nat.le_add_right _ 1) _) (Nat.le_add_right _ 1) _))
  have HG2 := Lib.hid (Hi2.out.1 rfl)
  clear Hi2
  by_cases hl0 : l.length = 0
  · have HN : Hid (¬ JOk b l st s) := Lib.hid (fun h => by have := (jok_parts h).2.2.2; omega)
    have e9 : ((l.length : Int) == 0) = true := by simp; exact List.length_eq_zero_iff.mp hl0
    clear R1
    obtain ⟨⟨x0, x1, x2, x3⟩, f0, f1, f2, f3⟩ := hX2.facts
    have e0 := Lib.hid (hX2.set0 (.int .i64 0)).facts.1.1
    have e1 := Lib.hid ((hX2.set0 (.int .i64 0)).set1 (.int .i64 0)).facts.1.2.1
    have e2 := Lib.hid (((hX2.set0 (.int .i64 0)).set1 (.int .i64 0)).set2 (.int .i64 0)).facts.1.2.2.1
    have e3 := Lib.hid ((((hX2.set0 (.int .i64 0)).set1 (.int .i64 0)).set2 (.int .i64 0)).set3 (.int .i64 0)).facts.1.2.2.2
    have HB := Lib.hid (bw_to hwb hb2)
    clear hX hb2 hX2
    go_wp2_with fail
    refine bodyPost_ret (v := .tuple #[.agg #[.int .i64 0, .int .i64 0, .int .i64 0, .int .i64 0], .bool false]) (by simp [results, go_sem, e0.out, e1.out, e2.out, e3.out]) rfl (jd_no HN.out (grow_set (grow_set (grow_set (grow_set HB.out (Nat.le_add_right _ 1) _) (Nat.le_add_right _ 1) _) (Nat.le_add_right _ 1) _) (Nat.le_add_right _ 1) _))
  have hl1 : 0 < l.length := by omega
  have e9 : ((l.length : Int) == 0) = false := by simp; intro h; subst h; exact hl0 rfl
  clear hX2 hl0
  go_wp2_with fail
  refine (Hgs.out _ (bw_to hwb hb2)).mono ?_; rintro e w3 ⟨ok, rfl, hi3, hb33⟩
  have hb3 := bw_to hb2 hb33
  have Hi3 := Lib.hid hi3
  have hX3 := hX.to hb3 hz
  clear hi3 hb33 hb2
  cases ok
  · have HN : Hid (¬ JOk b l st s) := Lib.hid (fun h => by have := Hi3.out.2 (jok_parts h).2.2.1; cases this)
    clear R1
    obtain ⟨⟨x0, x1, x2, x3⟩, f0, f1, f2, f3⟩ := hX3.facts
    have e0 := Lib.hid (hX3.set0 (.int .i64 0)).facts.1.1
    have e1 := Lib.hid ((hX3.set0 (.int .i64 0)).set1 (.int .i64 0)).facts.1.2.1
    have e2 := Lib.hid (((hX3.set0 (.int .i64 0)).set1 (.int .i64 0)).set2 (.int .i64 0)).facts.1.2.2.1
    have e3 := Lib.hid ((((hX3.set0 (.int .i64 0)).set1 (.int .i64 0)).set2 (.int .i64 0)).set3 (.int .i64 0)).facts.1.2.2.2
    have HB := Lib.hid (bw_to hwb hb3)
    clear hX hb3 hX3
    go_wp2_with fail
    refine bodyPost_ret (v := .tuple #[.agg #[.int .i64 0, .int .i64 0, .int .i64 0, .int .i64 0], .bool false]) (by simp [results, go_sem, e0.out, e1.out, e2.out, e3.out]) rfl (jd_no HN.out (grow_set (grow_set (grow_set (grow_set HB.out (Nat.le_add_right _ 1) _) (Nat.le_add_right _ 1) _) (Nat.le_add_right _ 1) _) (Nat.le_add_right _ 1) _))
  have HG3 := Lib.hid (Hi3.out.1 rfl)
  clear Hi3 hX3
  obtain ⟨ad, rfl, hC⟩ := strs_el HR.out hl1
  have Hr0 : Hid (l[0]? = some l[0]) := Lib.hid (List.getElem?_eq_getElem hl1)
  have hrs := (HG2.out.2 0 hl1).1.1
  obtain ⟨r, hr⟩ : ∃ r, r = l[0] := ⟨_, rfl⟩
  rw [← hr] at hC Hr0 hrs
  have HC := Lib.hid hC
  clear hC hr
  go_upto_region 4 with fail
  refine box1 (C := fun W => Code.wp _ _ _ _ W) ?_
  intro w4 hw4 k4 hB4
  obtain ⟨td, hD⟩ : ∃ t, B4 w4 w3.heap.size (.int .i64 0) (.int .i64 0) (.int .i64 0) (.int .i64 0) t := ⟨_, k4⟩
  have HD := Lib.hid hD
  have Hw4 := Lib.hid hw4
  obtain ⟨J, hJ⟩ : ∃ J, J = jdOf b l st s := ⟨_, rfl⟩
  have HJ := Lib.hid hJ
  have hJ0 : J 0 = ⟨0, 0, 0, 0, -1⟩ := by rw [hJ]; rfl
  clear hD hw4 k4 hB4 hJ
  go_wp2_with fail
  go_loopw [11, 12] (fun mo be wr => ∃ k : Nat, k ≤ r.size ∧ mo = .int .i64 (J k).p ∧ be = .int .i64 ((k : Int) + 1) ∧ Hid (B4 wr w3.heap.size (.int .i64 (J k).m) (.int .i64 (J k).e) (.int .i64 (J k).f) (.int .i64 (J k).w) td) ∧ Below w3.heap.size w3 wr ∧ Hid (∀ i : Nat, i < k → GoodJ b l st ((i : Int) + 1) s)) (fun _ be _ => r.size + 1 - (intOf be).toNat)
  case atStart => exact ⟨0, by omega, by rw [hJ0], rfl, by rw [hJ0]; exact HD, Hw4.out, Lib.hid (fun i hi => absurd hi (by omega))⟩
  case round =>
    obtain ⟨k, hk, rfl, rfl, HDk, hB, HGk⟩ := hrel
    have hbr := bw_to hb3 hB
    have q := HC.out wr (bw_to hwb hbr)
    have q0 := q
    rw [add_zero'] at q0
    have a0 := R1 wr 0 hbr
    have a1 := R1 wr 1 hbr
    have a2 := R1 wr 2 hbr
    have HBR := Lib.hid hbr
    have hzD := HDk.out.blk
    have hz3 : w.heap.size + 1 < w3.heap.size := by have := hb3.size; omega
    have hrs8 := hrs.2
    have wk : IntKind.i64.wrap ((k : Int) + 1 + 1) = ((k + 1 : Nat) : Int) + 1 := by rw [IntWalk.i64_in _ ⟨by omega, by omega⟩]; omega
    have hXr := hX.to hbr hz
    clear hb3
    by_cases hkl : k < r.size
    · have hkl' : (k : Int) + 1 ≤ (r.size : Int) := by omega
      have Hmb' := Lib.hid (Hmb.out wr ((k : Int) + 1) (bw_to hwb hbr))
      clear hbr
      go_wp2_with fail
      refine Hmb'.out.mono ?_; intro e w5 hp
      rcases hp with ⟨hg, A5, c5, rfl, hown5, hb5⟩ | ⟨hg, rfl, hb5⟩
      · obtain ⟨a, ha⟩ : ∃ a, a = ofL (idL b 0 l) ((k : Int) + 1) := ⟨_, rfl⟩
        obtain ⟨c, hc⟩ : ∃ c, c = ofL st ((k : Int) + 1) := ⟨_, rfl⟩
        have hst : st.length ≤ 10000000 := by have := HG3.out.1; omega
        have hgm := hg.2
        have hJk : J (k + 1) = jdOne a c s ((k : Int) + 1) (J k) := by rw [HJ.out, ha, hc]; rfl
        have hjr := jd_rng (A := ofL (idL b 0 l)) (C := ofL st) (s := s) k (fun i hi => (HGk.out i hi).2)
        have hjk : jd (ofL (idL b 0 l)) (ofL st) s k = J k := by rw [HJ.out]; rfl
        rw [hjk] at hjr
        rw [← ha, ← hc] at hown5 hgm ⊢
        obtain ⟨⟨g1, g2, g3⟩, ⟨g4, g5⟩, g6, g7⟩ := one_rng hgm
        have hfi := far_is s a c
        have hl60 : (matL s a c 0).length ≤ 60 := by rw [mat_len0]; exact g1
        have hall : ∀ x ∈ matL s a c 0, -1 ≤ x ∧ x ≤ 60 := fun x hx => by
          rcases mat_rng s a c 0 x hx with h | h <;> omega
        have hin5 : Ints w5 (.slice A5 a.length c5) (matL s a c 0) := by
          have h := hown5
          rw [← mat_len0 s a c 0] at h ⊢
          exact ints_of_own h
        obtain ⟨M, hM⟩ : ∃ M, M = matL s a c 0 := ⟨_, rfl⟩
        obtain ⟨P, hP⟩ : ∃ P, P = prL s a c := ⟨_, rfl⟩
        obtain ⟨F, hF⟩ : ∃ F, F = farL c a M := ⟨_, rfl⟩
        unfold jdOne at hJk
        rw [← hM] at hJk hfi g3 g4 g5 hl60 hall hin5
        rw [← hF] at hJk hfi g4 g5
        rw [← hP] at hJk hfi g6 g7 ⊢
        obtain ⟨m, hm⟩ : ∃ m, m = missN M := ⟨_, rfl⟩
        have Hmi := Lib.hid (fun W (hW : Below w5.heap.size w5 W) => MissedIn_any (.slice A5 a.length c5) M P W (hin5.to hW) hl60 hall)
        have Hof' := Lib.hid (fun W (hW : Below w.heap.size w W) => Hof.out W ((k : Int) + 1) hW hst)
        rw [← hc] at Hof'
        rw [← hm] at hJk hfi g3 Hmi
        have HJk := Lib.hid hJk
        have Hfi := Lib.hid hfi
        have Hg := Lib.hid hg
        have hb5' := bw_to HBR.out hb5
        obtain ⟨la, hla⟩ : ∃ n, n = a.length := ⟨_, rfl⟩
        obtain ⟨lc, hlc⟩ : ∃ n, n = c.length := ⟨_, rfl⟩
        rw [← hla] at g1 g3 Hmi HJk Hfi ⊢
        rw [← hlc] at g2 HJk Hfi Hof'
        clear hg hgm hM hP hF hm hown5 hin5 hall hl60 hJk hfi hst ha hc hla hlc hjk Hmb' Hmb Hgb Hgr Hgs
        clear q q0 a0 a1 a2 hXr
        go_upto_region 9 with fail
        refine box1 (C := fun W => Code.wp _ _ _ _ W) ?_
        intro w6 hw6 k6 hB6
        have R6 := boxRule k6
        have hz6 := blkE k6
        have m0 := R6 w6 0 hB6
        have m1 := R6 w6 1 hB6
        have hb6 := bw_to hb5' hw6
        have Hmi' := Lib.hid (Hmi.out w6 hw6)
        have hr6 := bw_to hb5 hw6
        have hD5 : w3.heap.size < w5.heap.size := Nat.lt_of_lt_of_le hzD hb5.size
        clear k6 hB6 Hmi hw6
        go_wp2_with fail
        refine Hmi'.out.mono ?_; rintro e w7 ⟨⟨A7, c7, rfl⟩, hb7⟩
        clear m0 m1 Hmi'
        have hb77 := bw_to hb6 hb7
        go_upto_region 12 with fail
        have hC0 : ∀ W, Below w7.heap.size w7 W → W.cell? ⟨w5.heap.size, 0, none⟩ = some (.slice A5 la c5) := fun W hW => R6 W 0 (bw_to hb7 hW)
        have hC1 : ∀ W, Below w7.heap.size w7 W → W.cell? ⟨w5.heap.size, 1, none⟩ = some (.int .i64 P) := fun W hW => R6 W 1 (bw_to hb7 hW)
        have hlow : ∀ W, Below w7.heap.size w7 W → Below w.heap.size w W := fun W hW => bw_to (bw_to hwb hb77) hW
        have hself : Below w7.heap.size w7 w7 := Below.refl _ _
        have hwc1 : IntKind.i64.wrap ((la : Int) - (m : Int)) = (la : Int) - m := IntWalk.i64_in _ ⟨by omega, by omega⟩
        have hwc2 : IntKind.i64.wrap ((lc : Int) - ((la : Int) - (m : Int))) = (lc : Int) - ((la : Int) - m) := IntWalk.i64_in _ ⟨by omega, by omega⟩
        go_cut [17] (fun x wx => x = .int .i64 ((lc : Int) - ((la : Int) - m)) ∧ Below w7.heap.size w7 wx)
        case first =>
          go_region_held3 (fun W => Below w7.heap.size w7 W) (first | with_reducible assumption | exact Below.drew (by assumption) | exact bw_to (by assumption) hb')
            (first | (go_at_call 19; refine (Hof'.out _ (hlow _ (by assumption))).mono ?_; rintro e w' ⟨A', c', rfl, _, hb'⟩))
          all_goals
            rename_i hHeld
            go_wp2_with fail
            go_meet
            exact ⟨rfl, hHeld⟩
        obtain ⟨rfl, hbc⟩ := hcut
        have hrc := bw_to (bw_to hr6 hb7) hbc
        have hDc := HDk.out.to hrc hzD
        have y1 := hC1 wc hbc
        obtain ⟨⟨d0, d1, d2, d3⟩, df0, df1, df2, df3⟩ := hDc.facts
        have HBc := Lib.hid (hB.trans (hrc.mono (Nat.le_of_lt hzD)))
        clear hC0 hC1 hlow hself hr6 hrc hbc hb7 hb77 hb6 hb5 hb5' R6 R1 hX Hof Hof' hwc1 hwc2 hB
        have hj1 := hjr.1
        have hj2 := hjr.2.1
        have hj3 := hjr.2.2.1
        have hj4 := hjr.2.2.2
        obtain ⟨x7, hx7⟩ : ∃ x, x = (lc : Int) - ((la : Int) - m) := ⟨_, rfl⟩
        rw [← hx7] at Hfi HJk ⊢
        have hxb : -60 ≤ x7 ∧ x7 ≤ 60 := by omega
        obtain ⟨Y, hY⟩ : ∃ Y, Y = s * ((m : Int) + x7) := ⟨_, rfl⟩
        rw [← hY] at Hfi
        have hYF : P - Y = F := Hfi.out
        have v13 : IntKind.i64.wrap ((J k).m + (m : Int)) = (J k).m + m := IntWalk.i64_in _ ⟨by omega, by omega⟩
        have v14 : IntKind.i64.wrap ((J k).e + x7) = (J k).e + x7 := IntWalk.i64_in _ ⟨by omega, by omega⟩
        have v15a : IntKind.i64.wrap ((m : Int) + x7) = (m : Int) + x7 := IntWalk.i64_in _ ⟨by omega, by omega⟩
        have v15b : IntKind.i64.wrap (s * ((m : Int) + x7)) = Y := by rw [← hY]; exact IntWalk.i64_in _ ⟨by omega, by omega⟩
        have v15c : IntKind.i64.wrap (P - Y) = F := by rw [hYF]; exact IntWalk.i64_in _ ⟨by omega, by omega⟩
        have v15d : IntKind.i64.wrap ((J k).f + F) = (J k).f + F := IntWalk.i64_in _ ⟨by omega, by omega⟩
        clear hYF hY hx7 hjr
        go_upto_region 14 with fail
        have hD1 := hDc.set0 (.int .i64 ((J k).m + m))
        have y2 : (wc.setCell ⟨w3.heap.size, 0, none⟩ (.int .i64 ((J k).m + m))).cell? ⟨w5.heap.size, 1, none⟩ = some (.int .i64 P) := (Go.World.cell?_setCell_other wc _ _ _ (fun e => by injection e with e _ _; omega)).trans y1
        have HB1 := Lib.hid (grow_set HBc.out (Nat.le_refl _) (j := 0) (.int .i64 ((J k).m + m)))
        obtain ⟨wd, hwd⟩ : ∃ wd, wd = wc.setCell ⟨w3.heap.size, 0, none⟩ (.int .i64 ((J k).m + m)) := ⟨_, rfl⟩
        rw [← hwd] at hD1 y2 HB1 ⊢
        clear hwd d0 d1 d2 d3 df0 df1 df2 df3 y1 hDc
        obtain ⟨⟨d0, d1, d2, d3⟩, df0, df1, df2, df3⟩ := hD1.facts
        go_upto_region 15 with fail
        have hD2 := hD1.set1 (.int .i64 ((J k).e + x7))
        have y3 : (wd.setCell ⟨w3.heap.size, 1, none⟩ (.int .i64 ((J k).e + x7))).cell? ⟨w5.heap.size, 1, none⟩ = some (.int .i64 P) := (Go.World.cell?_setCell_other wd _ _ _ (fun e => by injection e with e _ _; omega)).trans y2
        have HB2 := Lib.hid (grow_set HB1.out (Nat.le_refl _) (j := 1) (.int .i64 ((J k).e + x7)))
        obtain ⟨we, hwe⟩ : ∃ we, we = wd.setCell ⟨w3.heap.size, 1, none⟩ (.int .i64 ((J k).e + x7)) := ⟨_, rfl⟩
        rw [← hwe] at hD2 y3 HB2 ⊢
        clear hwe d0 d1 d2 d3 df0 df1 df2 df3 y2 hD1
        obtain ⟨⟨d0, d1, d2, d3⟩, df0, df1, df2, df3⟩ := hD2.facts
        go_upto_region 16 with fail
        have hD3 := hD2.set2 (.int .i64 ((J k).f + F))
        have y4 : (we.setCell ⟨w3.heap.size, 2, none⟩ (.int .i64 ((J k).f + F))).cell? ⟨w5.heap.size, 1, none⟩ = some (.int .i64 P) := (Go.World.cell?_setCell_other we _ _ _ (fun e => by injection e with e _ _; omega)).trans y3
        have HB3 := Lib.hid (grow_set HB2.out (Nat.le_refl _) (j := 2) (.int .i64 ((J k).f + F)))
        obtain ⟨wf, hwf⟩ : ∃ wf, wf = we.setCell ⟨w3.heap.size, 2, none⟩ (.int .i64 ((J k).f + F)) := ⟨_, rfl⟩
        rw [← hwf] at hD3 y4 HB3 ⊢
        clear hwf d0 d1 d2 d3 df0 df1 df2 df3 y3 hD2
        obtain ⟨⟨d0, d1, d2, d3⟩, df0, df1, df2, df3⟩ := hD3.facts
        have HG' : Hid (∀ i : Nat, i < k + 1 → GoodJ b l st ((i : Int) + 1) s) := Lib.hid (fun i hi => by
          by_cases h : i = k
          · subst h; exact Hg.out
          · exact HGk.out i (by omega))
        by_cases hpp : (J k).p < P
        · have HJ1 : Hid (J (k + 1) = ⟨(J k).m + m, (J k).e + x7, (J k).f + F, (k : Int) + 1, P⟩) := Lib.hid (by rw [HJk.out, if_pos hpp, if_pos hpp])
          go_wp2_with fail
          refine ⟨⟨k + 1, hkl, by rw [HJ1.out], rfl, Lib.hid (by rw [HJ1.out]; exact hD3.set3 _), grow_set HB3.out (Nat.le_refl _) _, HG'⟩, ?_⟩
          simp [intOf]; omega
        · have HJ1 : Hid (J (k + 1) = ⟨(J k).m + m, (J k).e + x7, (J k).f + F, (J k).w, (J k).p⟩) := Lib.hid (by rw [HJk.out, if_neg hpp, if_neg hpp])
          go_wp2_with fail
          refine ⟨⟨k + 1, hkl, by rw [HJ1.out], rfl, Lib.hid (by rw [HJ1.out]; exact hD3), HB3.out, HG'⟩, ?_⟩
          simp [intOf]; omega
      · have HN : Hid (¬ JOk b l st s) := Lib.hid (fun h => by
          obtain ⟨_, r', h3, h4⟩ := h
          rw [Hr0.out] at h3
          injection h3 with h3
          subst h3
          exact hg (h4 k hkl))
        have hb5' := bw_to HBR.out hb5
        clear hg hXr a0 a1 a2 q q0 R1
        go_upto_region 9 with fail
        refine box1 (C := fun W => Code.wp _ _ _ _ W) ?_
        intro w6 hw6 k6 hB6
        have hb6 := bw_to hb5' hw6
        have hX6 := hX.to hb6 hz
        clear k6 hB6 hb5 hb5' hw6
        obtain ⟨⟨x0, x1, x2, x3⟩, f0, f1, f2, f3⟩ := hX6.facts
        have e0 := Lib.hid (hX6.set0 (.int .i64 0)).facts.1.1
        have e1 := Lib.hid ((hX6.set0 (.int .i64 0)).set1 (.int .i64 0)).facts.1.2.1
        have e2 := Lib.hid (((hX6.set0 (.int .i64 0)).set1 (.int .i64 0)).set2 (.int .i64 0)).facts.1.2.2.1
        have e3 := Lib.hid ((((hX6.set0 (.int .i64 0)).set1 (.int .i64 0)).set2 (.int .i64 0)).set3 (.int .i64 0)).facts.1.2.2.2
        have HB := Lib.hid (bw_to hwb hb6)
        clear hX hb6 hX6
        go_wp2_with fail
        refine bodyPost_ret (v := .tuple #[.agg #[.int .i64 0, .int .i64 0, .int .i64 0, .int .i64 0], .bool false]) (by simp [results, go_sem, e0.out, e1.out, e2.out, e3.out]) rfl (jd_no HN.out (grow_set (grow_set (grow_set (grow_set HB.out (Nat.le_add_right _ 1) _) (Nat.le_add_right _ 1) _) (Nat.le_add_right _ 1) _) (Nat.le_add_right _ 1) _))
    · obtain rfl : k = r.size := by omega
      have HY : Hid (JOk b l st s) := Lib.hid ⟨HG2.out, r, Hr0.out, HGk.out⟩
      obtain ⟨⟨d0, d1, d2, d3⟩, _⟩ := HDk.out.facts
      obtain ⟨⟨x0, x1, x2, x3⟩, f0, f1, f2, f3⟩ := hXr.facts
      have e0 := Lib.hid (hXr.set0 (.int .i64 (J r.size).m)).facts.1.1
      have e1 := Lib.hid ((hXr.set0 (.int .i64 (J r.size).m)).set1 (.int .i64 (J r.size).e)).facts.1.2.1
      have e2 := Lib.hid (((hXr.set0 (.int .i64 (J r.size).m)).set1 (.int .i64 (J r.size).e)).set2 (.int .i64 (J r.size).f)).facts.1.2.2.1
      have e3 := Lib.hid ((((hXr.set0 (.int .i64 (J r.size).m)).set1 (.int .i64 (J r.size).e)).set2 (.int .i64 (J r.size).f)).set3 (.int .i64 (J r.size).w)).facts.1.2.2.2
      have HB := Lib.hid (bw_to hwb hbr)
      clear hX hXr a0 a1 a2 R1 hbr
      go_wp2_with fail
      refine bodyPost_ret (v := .tuple #[.agg #[.int .i64 (J r.size).m, .int .i64 (J r.size).e, .int .i64 (J r.size).f, .int .i64 (J r.size).w], .bool true]) (by simp [results, go_sem, e0.out, e1.out, e2.out, e3.out]) rfl ⟨.inl ⟨HY.out, r, Hr0.out, by rw [← HJ.out]; rfl⟩, grow_set (grow_set (grow_set (grow_set HB.out (Nat.le_add_right _ 1) _) (Nat.le_add_right _ 1) _) (Nat.le_add_right _ 1) _) (Nat.le_add_right _ 1) _⟩
end Go.Proofs.Ytimeecimaokldaa

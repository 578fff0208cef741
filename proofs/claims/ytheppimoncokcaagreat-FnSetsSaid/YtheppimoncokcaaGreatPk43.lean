/- The law on sets of bobs. -/
import Derived.Test.YtheppimoncokcaaGreatPk41
import Derived.Test.YtheppimoncokcaaGreatPk42
namespace Go.Proofs.YtheppimoncokcaaGreat
open Go Go.RowKit
set_option linter.unusedVariables false
set_option linter.unusedSimpArgs false

/-- All that the law on sets asks of a drawn method with bobs and a head. -/
structure SF (m : Mt) (k : Cl) (bobs : List ByteArray) (r : ByteArray) (G S : List ByteArray) (f : ByteArray → ByteArray) (q : ByteArray) : Prop where
  ni : ∀ x ∈ G, ∀ v Vb W, MethAt W m v → Strs W Vb bobs → Calls Tryz.prog 9 #[m.v v, k.v, Vb, .string x] W fun e w' => e = .returned (.tuple #[.string (f x), .bool true]) ∧ Below W.heap.size W w'
  ns : ∀ v Vb W, MethAt W m v → Strs W Vb bobs → Calls Tryz.prog 10 #[m.v v, k.v, Vb, .string r] W fun e w' => e = .returned (.tuple #[.string (f r), .bool true]) ∧ Below W.heap.size W w'
  lg : ∀ v W, MethAt W m v → Calls Tryz.prog 11 #[m.v v, k.v] W fun e w' => ∃ A q, e = .returned (.tuple #[.slice A G.length q, .bool true]) ∧ w'.ownsRow W.heap.size 9 1 (.slice A G.length q) G.length (G.map Value.string) ∧ Below W.heap.size W w'
  so : ∀ x ∈ S, ∀ v W, MethAt W m v → Calls Tryz.prog 14 #[m.v v, k.v, .string x] W fun e w' => ∃ A q, e = .returned (.tuple #[.slice A S.length q, .bool true]) ∧ w'.ownsRow W.heap.size 9 1 (.slice A S.length q) S.length (S.map Value.string) ∧ Below W.heap.size W w'
  sr : ∀ v W, MethAt W m v → Calls Tryz.prog 15 #[m.v v, k.v] W fun e w' => e = .returned (.tuple #[.string q, .bool true]) ∧ Below W.heap.size W w'
  oo : ∀ W, Calls Tryz.prog 16 #[.string q] W fun e w' => e = .returned (.tuple #[.int .i64 S.length, .bool true]) ∧ Below W.heap.size W w'
  rG : r ∈ G
  rS : r ∈ S
  gf : ∀ x ∈ G, f x ∈ G
  inj : ∀ x ∈ G, ∀ y ∈ G, f x = f y → x = y
  gd : G.Nodup
  sd : S.Nodup
  gl : G.length ≤ 130
  sl : S.length ≤ 16777216
theorem next_cases (m : Mt) (k : Cl) (bobs : List ByteArray) (r : ByteArray) (hs : MtSmall m) (hk : ClSmall k) (hbl : bobs.length ≤ 100000000) :
    ((∀ v Vb W, MethAt W m v → Strs W Vb bobs → Calls Tryz.prog 9 #[m.v v, k.v, Vb, .string r] W fun e w' => e = .returned (.tuple #[.string ⟨#[]⟩, .bool false]) ∧ Below W.heap.size W w') ∧ (∀ v Vb W, MethAt W m v → Strs W Vb bobs → Calls Tryz.prog 10 #[m.v v, k.v, Vb, .string r] W fun e w' => e = .returned (.tuple #[.string ⟨#[]⟩, .bool false]) ∧ Below W.heap.size W w')) ∨
    ∃ G S f q, SF m k bobs r G S f q := by
  rcases bob_cases m k bobs with hb | ⟨n, T, P, B, B', Q, hK, hF, hbg⟩
  · exact .inl ⟨fun v Vb W hm hV => implNextHead_no m v k Vb bobs r W hb hm hs hk hV hbl, fun v Vb W hm hV => specNextHead_no m v k Vb bobs r W hb hm hs hk hV hbl⟩
  · by_cases hr : r ∈ sortB (cloB n [P, B] T)
    · obtain ⟨K, hKb, hO⟩ := ord_ex hK.hn hK.invQ
      have hri := (bk_all hK).2.2 r ((sortB_mem _ _).1 hr)
      have hp := (bk_perm hK hbg.2).of_mem (fun x => sortB_mem (cloB n [P, B] T) x)
      have hSG : ∀ x ∈ sortB (setB n Q r K), x ∈ sortB (cloB n [P, B] T) := fun x hx => (sortB_mem _ _).2 (bk_setIn hK ((sortB_mem _ _).1 hr) x ((sortB_mem _ _).1 hx))
      have hSl : (sortB (setB n Q r K)).length = K := by rw [sortB_len, setB_len]
      refine .inr ⟨sortB (cloB n [P, B] T), sortB (setB n Q r K), nxB bobs P B, Q, ⟨fun x hx v Vb W hm hV => ?_, fun v Vb W hm hV => ?_, fun v W hm => implLeadGroup_yes m v k n T P B B' Q W hK hF hm hs hk, fun x hx v W hm => ?_, fun v W hm => implSetRow_yes m v k n T P B B' Q W hK hF hm hs hk, fun W => ?_, hr, (sortB_mem _ _).2 (setB_self hK.hn hri.1 hO), hp.1, hp.2, sortB_nodup (clo_nodup n [P, B] T), sortB_nodup (set_nodup hK.hn hK.invQ hri hO K (Nat.le_refl _)), by rw [sortB_len]; exact hF, by rw [hSl]; exact hKb⟩⟩
      · have h := implNextHead_yes m v k Vb n T P B B' Q x bobs W hK hF hbg hm hs hk hV
        unfold nextO at h
        rw [if_pos hx, decide_eq_true hx] at h
        exact h
      · have h := specNextHead_yes m v k Vb n T P B B' Q r bobs W hK hF hbg hm hs hk hV
        unfold nextO at h
        rw [if_pos hr, decide_eq_true hr] at h
        exact h
      · have h := implSetOf_yes m v k n T K P B B' Q x W hK hF hO hKb hm hs hk
        unfold setO at h
        rw [if_pos (hSG x hx), decide_eq_true (hSG x hx), set_same hK.hn hK.invQ hri hO ((sortB_mem _ _).1 hx)] at h
        exact h
      · rw [hSl]
        exact orderOf_yes n K Q W hK.hn hK.cg.m.lo ((bk_all hK).2.1 Q (bk_qin hK)) hK.invQ.1 hO hKb
    · refine .inl ⟨fun v Vb W hm hV => ?_, fun v Vb W hm hV => ?_⟩
      · have h := implNextHead_yes m v k Vb n T P B B' Q r bobs W hK hF hbg hm hs hk hV
        unfold nextO at h
        rw [if_neg hr, decide_eq_false hr] at h
        exact h
      · have h := specNextHead_yes m v k Vb n T P B B' Q r bobs W hK hF hbg hm hs hk hV
        unfold nextO at h
        rw [if_neg hr, decide_eq_false hr] at h
        exact h
theorem good_both (m : Mt) (k : Cl) (bobs : List ByteArray) (hs : MtSmall m) (hk : ClSmall k) : ∃ (a b : Bool),
    (∀ v Vb W, MethAt W m v → Strs W Vb bobs → Calls Tryz.prog 20 #[m.v v, k.v, Vb] W fun e w' => e = .returned (.tuple #[.bool a, .bool b]) ∧ Below W.heap.size W w') ∧ (∀ v Vb W, MethAt W m v → Strs W Vb bobs → Calls Tryz.prog 21 #[m.v v, k.v, Vb] W fun e w' => e = .returned (.tuple #[.bool a, .bool b]) ∧ Below W.heap.size W w') := by
  rcases blk_cases m k with hb | ⟨n, T, P, B, B', Q, hK, hF⟩
  · exact ⟨false, false, fun v Vb W hm hV => implGoodBobs_no m v k Vb bobs W hb hm hs hk hV, fun v Vb W hm hV => specGoodBobs_no m v k Vb bobs W hb hm hs hk hV⟩
  · exact ⟨_, _, fun v Vb W hm hV => implGoodBobs_yes m v k Vb n T P B B' Q bobs W hK hF hm hs hk hV, fun v Vb W hm hV => specGoodBobs_yes m v k Vb n T P B B' Q bobs W hK hF hm hs hk hV⟩
theorem setrow_both (m : Mt) (k : Cl) (hs : MtSmall m) (hk : ClSmall k) : ∃ (q : ByteArray) (b : Bool),
    (∀ v W, MethAt W m v → Calls Tryz.prog 15 #[m.v v, k.v] W fun e w' => e = .returned (.tuple #[.string q, .bool b]) ∧ Below W.heap.size W w') ∧ (∀ v W, MethAt W m v → Calls Tryz.prog 25 #[m.v v, k.v] W fun e w' => e = .returned (.tuple #[.string q, .bool b]) ∧ Below W.heap.size W w') := by
  rcases blk_cases m k with hb | ⟨n, T, P, B, B', Q, hK, hF⟩
  · exact ⟨_, _, fun v W hm => implSetRow_no m v k W hb hm hs hk, fun v W hm => specSetRow_no m v k W hb hm hs hk⟩
  · exact ⟨_, _, fun v W hm => implSetRow_yes m v k n T P B B' Q W hK hF hm hs hk, fun v W hm => specSetRow_yes m v k n T P B B' Q W hK hF hm hs hk⟩
/-- Each row that is met is the next one of an earlier one. -/
def Met (G : List ByteArray) (f : ByteArray → ByteArray) (j : Nat) (ms : List Bool) : Prop := ∀ p : Nat, ms[p]? = some true → ∃ i : Nat, i < j ∧ ∃ x, G[i]? = some x ∧ G[p]? = some (f x)
theorem met_new {G : List ByteArray} {f : ByteArray → ByteArray} {j p : Nat} {ms : List Bool} (h : Met G f j ms) (hl : ms.length = G.length) (hd : G.Nodup) (hi : ∀ x ∈ G, ∀ y ∈ G, f x = f y → x = y) (hj : j < G.length) (hp : p < G.length) (hpe : G[p]? = some (f G[j])) : ms[p]? = some false := by
  have hpm : p < ms.length := by omega
  rw [List.getElem?_eq_getElem hpm]
  cases hb : ms[p] with
  | false => rfl
  | true =>
    obtain ⟨i, hij, x, h1, h2⟩ := h p (by rw [List.getElem?_eq_getElem hpm, hb])
    rw [hpe] at h2
    injection h2 with h2
    obtain ⟨h3, h4⟩ := List.getElem?_eq_some_iff.1 h1
    have h5 := hi _ (List.getElem_mem hj) x (by rw [← h4]; exact List.getElem_mem h3) h2
    rw [← h4] at h5
    have h6 := (List.getElem_inj hd).1 h5
    omega
theorem met_step {G : List ByteArray} {f : ByteArray → ByteArray} {j p : Nat} {ms : List Bool} (h : Met G f j ms) (hl : ms.length = G.length) (hj : j < G.length) (hp : p < G.length) (hpe : G[p]? = some (f G[j])) : Met G f (j + 1) (ms.set p true) := by
  intro p' h1
  by_cases e : p = p'
  · subst e
    exact ⟨j, by omega, G[j], List.getElem?_eq_getElem hj, hpe⟩
  · rw [List.getElem?_set_ne e] at h1
    obtain ⟨i, hij, x, h2, h3⟩ := h p' h1
    exact ⟨i, by omega, x, h2, h3⟩
/-- Later worlds, with the cells of a row. -/
def BRowS (w : World) (g : Nat) (S : List ByteArray) (W : World) : Prop := Below w.heap.size w W ∧ ∀ i (hi : i < S.length), W.cell? ⟨g, i, none⟩ = some (.string S[i])
theorem brow_of {w W : World} {base g q : Nat} {S : List ByteArray} (h : w.ownsRow base 9 1 (.slice (some ⟨g, 0, none⟩) S.length q) S.length (S.map Value.string)) (hb : Below w.heap.size w W) : BRowS w g S W :=
  ⟨hb, fun i hi => by rw [(own_to h hb).cellAt i (by omega)]; simp [hi]⟩
set_option maxRecDepth 100000 in
set_option maxHeartbeats 8000000 in
theorem lawSets_any (V : Value) (zV : Nat) (U : Value) (zU : Nat) (w : World) (hV : BytesAt w w.heap.size V) (hU : BytesAt w w.heap.size U) : Calls Tryz.prog 3 #[V, U] w fun e w' => e = .returned (.bool true) ∧ Below w.heap.size w w' := by
  have HV := Lib.hid hV
  have HU := Lib.hid hU
  obtain ⟨A1, n1, c1, zs1, rfl, _, _, hm1, _⟩ := hV
  obtain ⟨A2, n2, c2, zs2, rfl, _, _, hm2, _⟩ := hU
  unfold maxLen at hm1 hm2
  go_enter Tryz.func3, Tryz.ntmps3
  go_wp2_with fail
  refine (bigB_any A1 A2 n1 c1 n2 c2 w (by omega) (by omega)).mono ?_; rintro e w0 ⟨bb, rfl, rfl⟩
  cases bb
  rotate_left
  · go_wp2_with fail
    go_ret
    exact ⟨rfl, Below.refl _ _⟩
  go_wp2_with fail
  refine (drawNextHead_any _ w HV.out).mono ?_; rintro e w1 ⟨m, v, k, Vb, bobs, r, rfl, hP, hB, hbl, hr⟩
  obtain ⟨hms, hks⟩ := hP.small
  have HM := Lib.hid hP.meth
  have HBo := Lib.hid hB.strs
  have W1 := Lib.hid hP.bw
  have hMs := Lib.hid hms
  have hKs := Lib.hid hks
  have hca := next_cases m k bobs r hms hks (by omega)
  obtain ⟨Ab, cb, rfl⟩ : ∃ A c, Vb = .slice A bobs.length c := by obtain ⟨A, c, e, _⟩ := hB.strs; exact ⟨A, c, e⟩
  obtain ⟨A, c9, ev⟩ := hP.meth.form
  subst ev
  clear hP hB hms hks
  unfold Mt.v Cl.v at *
  simp only
  go_upto_region 4 with fail
  refine box2 (C := fun W => Code.wp _ _ _ _ W) ?_
  intro w2 hw2 k1 k2 hB2
  have R1 := boxRule k1
  have R2 := boxRule k2
  have W2 := Lib.hid (bw_to W1.out hw2)
  have HM2 := Lib.hid (HM.out.to hw2)
  have HB2 := Lib.hid (HBo.out.to hw2)
  clear k1 k2 hw2 HM HBo W1
  rcases hca with ⟨hni, hns⟩ | ⟨G, S, f, q, hF⟩
  · have Hni := Lib.hid hni
    have Hns := Lib.hid hns
    clear hni hns
    go_wp2_with fail
    refine (Hni.out _ _ _ HM2.out HB2.out).mono ?_; rintro e w3 ⟨rfl, hb3⟩
    go_wp2_with fail
    refine (Hns.out _ _ _ (HM2.out.to hb3) (HB2.out.to hb3)).mono ?_; rintro e w4 ⟨rfl, hb4⟩
    have hB4 := bw_to hb3 hb4
    clear hb3 hb4
    go_upto_region 28 with fail
    have W7 := Lib.hid (bw_to W2.out hB4)
    have HU2 : BytesAt w4 w4.heap.size (.slice A2 n2 c2) := (HU.out.keep (fun p hp => W7.out.cell hp)).more W7.out.size
    clear R1 R2
    go_wp2_with fail
    refine (drawGoodBobs_any _ w4 HU2).mono ?_; rintro e w21 ⟨m1, v1, k1, Vb1, bobs1, rfl, hP1, hB1, hbl1⟩
    obtain ⟨hms1, hks1⟩ := hP1.small
    have HM21 := Lib.hid hP1.meth
    have HB21 := Lib.hid hB1.strs
    have W21 := Lib.hid (bw_to W7.out hP1.bw)
    obtain ⟨ga, gb, hgi, hgs⟩ := good_both m1 k1 bobs1 hms1 hks1
    have Hgi := Lib.hid hgi
    have Hgs := Lib.hid hgs
    obtain ⟨Ab1, cb1, rfl⟩ : ∃ A c, Vb1 = .slice A bobs1.length c := by obtain ⟨A, c, e, _⟩ := hB1.strs; exact ⟨A, c, e⟩
    obtain ⟨A21, c21, ev1⟩ := hP1.meth.form
    subst ev1
    clear hP1 hB1 hms1 hks1 hgi hgs HU2
    unfold Mt.v Cl.v at *
    simp only
    go_upto_region 29 with fail
    refine box2 (C := fun W => Code.wp _ _ _ _ W) ?_
    intro w22 hw22 k1' k2' hB22
    have R1 := boxRule k1'
    have R2 := boxRule k2'
    have W22 := Lib.hid (bw_to W21.out hw22)
    have HM22 := Lib.hid (HM21.out.to hw22)
    have HB22 := Lib.hid (HB21.out.to hw22)
    clear k1' k2' hw22 HM21 HB21 W21
    go_wp2_with fail
    refine (Hgi.out _ _ _ HM22.out HB22.out).mono ?_; rintro e w23 ⟨rfl, hb23⟩
    go_wp2_with fail
    refine (Hgs.out _ _ _ (HM22.out.to hb23) (HB22.out.to hb23)).mono ?_; rintro e w24 ⟨rfl, hb24⟩
    have W24 := Lib.hid (bw_to W22.out (bw_to hb23 hb24))
    have HU3 : BytesAt w24 w24.heap.size (.slice A2 n2 c2) := (HU.out.keep (fun p hp => W24.out.cell hp)).more W24.out.size
    clear R1 R2 hb23 hb24 hB22
    go_wp2_with fail
    refine (drawSetOf_any _ w24 HU3).mono ?_; rintro e w25 ⟨m3, v3, k3, r3, rfl, hP3, hr3⟩
    obtain ⟨hms3, hks3⟩ := hP3.small
    have HM25 := Lib.hid hP3.meth
    have W25 := Lib.hid (bw_to W24.out hP3.bw)
    obtain ⟨L3, b3, _, hsi3, hss3⟩ := set_both m3 k3 r3 hms3 hks3
    have Hsi3 := Lib.hid hsi3
    have Hss3 := Lib.hid hss3
    obtain ⟨A25, c25, ev3⟩ := hP3.meth.form
    subst ev3
    clear hP3 hms3 hks3 hsi3 hss3 HU3
    unfold Mt.v Cl.v at *
    simp only
    go_upto_region 32 with fail
    refine box2 (C := fun W => Code.wp _ _ _ _ W) ?_
    intro w26 hw26 k1' k2' hB26
    have R1 := boxRule k1'
    have R2 := boxRule k2'
    have W26 := Lib.hid (bw_to W25.out hw26)
    have HM26 := Lib.hid (HM25.out.to hw26)
    clear k1' k2' hw26 HM25 W25
    go_wp2_with fail
    refine (Hsi3.out _ _ HM26.out).mono ?_; rintro e w27 ⟨A27, q27, rfl, ho27, hb27⟩
    have HS27 := Lib.hid (strs_of_own ho27)
    clear ho27
    go_wp2_with fail
    refine (Hss3.out _ _ (HM26.out.to hb27)).mono ?_; rintro e w28 ⟨A28, q28, rfl, ho28, hb28⟩
    have HS28 := Lib.hid (strs_of_own ho28)
    have HS27b := Lib.hid (HS27.out.to hb28)
    have W28 := Lib.hid (bw_to W26.out (bw_to hb27 hb28))
    have HU4 : BytesAt w28 w28.heap.size (.slice A2 n2 c2) := (HU.out.keep (fun p hp => W28.out.cell hp)).more W28.out.size
    clear R1 R2 hb27 hb28 ho28 hB26 HS27
    go_wp2_with fail
    refine (drawSetRow_any _ w28 HU4).mono ?_; rintro e w29 ⟨m5, v5, k5, rfl, hP5⟩
    obtain ⟨hms5, hks5⟩ := hP5.small
    have HM29 := Lib.hid hP5.meth
    have W29 := Lib.hid (bw_to W28.out hP5.bw)
    have HS29 := Lib.hid (HS28.out.to hP5.bw)
    have HS29b := Lib.hid (HS27b.out.to hP5.bw)
    obtain ⟨q5, b5, hsi5, hss5⟩ := setrow_both m5 k5 hms5 hks5
    have Hsi5 := Lib.hid hsi5
    have Hss5 := Lib.hid hss5
    obtain ⟨A29, c29, ev5⟩ := hP5.meth.form
    subst ev5
    clear hP5 hms5 hks5 hsi5 hss5 HU4
    unfold Mt.v Cl.v at *
    simp only
    go_upto_region 35 with fail
    refine box2 (C := fun W => Code.wp _ _ _ _ W) ?_
    intro w30 hw30 k1' k2' hB30
    have R1 := boxRule k1'
    have R2 := boxRule k2'
    have W30 := Lib.hid (bw_to W29.out hw30)
    have HM30 := Lib.hid (HM29.out.to hw30)
    have HS30 := Lib.hid (HS29.out.to hw30)
    have HS30b := Lib.hid (HS29b.out.to hw30)
    clear k1' k2' hw30 HM29 W29 HS29 HS29b
    go_wp2_with fail
    refine (Hsi5.out _ _ HM30.out).mono ?_; rintro e w31 ⟨rfl, hb31⟩
    go_wp2_with fail
    refine (Hss5.out _ _ (HM30.out.to hb31)).mono ?_; rintro e w32 ⟨rfl, hb32⟩
    have hb3132 := bw_to hb31 hb32
    have W32 := Lib.hid (bw_to W30.out hb3132)
    have HS32 := Lib.hid (HS30.out.to hb3132)
    have HS32b := Lib.hid (HS30b.out.to hb3132)
    have hq5 : (q5.toList == q5.toList) = true := beq_self_eq_true _
    have hga : (ga == ga) = true := by cases ga <;> rfl
    have hgb : (gb == gb) = true := by cases gb <;> rfl
    have hb3b : (b3 == b3) = true := by cases b3 <;> rfl
    have hb5b : (b5 == b5) = true := by cases b5 <;> rfl
    clear hb31 hb32 hb3132 R1 R2 hB30
    go_wp2_with (go_at_call 18; refine (sameTexts_any _ _ _ _ w32 HS32b.out HS32.out).mono ?_; rintro e w33 ⟨rfl, hb33⟩; rw [decide_eq_true rfl])
    go_ret
    exact ⟨rfl, bw_to W32.out hb33⟩
  · have hni := Lib.hid hF.ni
    have hns := Lib.hid hF.ns
    have hlg := Lib.hid hF.lg
    have hso := Lib.hid hF.so
    have hsr := Lib.hid hF.sr
    have hoo := Lib.hid hF.oo
    have hrG := Lib.hid hF.rG
    have hrS := Lib.hid hF.rS
    have hgf := Lib.hid hF.gf
    have hinj := Lib.hid hF.inj
    have hgd := Lib.hid hF.gd
    have hsd := Lib.hid hF.sd
    have hgl := hF.gl
    have hsl := hF.sl
    have hG1 : 1 ≤ G.length := List.length_pos_of_mem hF.rG
    have hS1 : 1 ≤ S.length := List.length_pos_of_mem hF.rS
    have hrq : ((f r).toList == (f r).toList) = true := beq_self_eq_true _
    clear hF
    go_wp2_with fail
    refine (hni.out r hrG.out _ _ _ HM2.out HB2.out).mono ?_; rintro e w3 ⟨rfl, hb3⟩
    go_wp2_with fail
    refine (hns.out _ _ _ (HM2.out.to hb3) (HB2.out.to hb3)).mono ?_; rintro e w4 ⟨rfl, hb4⟩
    have hB4 := bw_to hb3 hb4
    clear hb3 hb4
    go_wp2_with fail
    refine (hlg.out _ _ (HM2.out.to hB4)).mono ?_; rintro e w5 ⟨A5, q5, rfl, ho5, hb5⟩
    have hB5 := bw_to hB4 hb5
    have HO5 := Lib.hid ho5
    clear hB4 hb5 ho5
    go_wp2_with fail
    refine (map0_any G.length w5 (by omega)).mono ?_; rintro e w6 ⟨A6, q6, rfl, ho6, hb6⟩
    obtain ⟨gm, rfl, hgm, _⟩ := own_addr ho6 hG1
    have hO6 := Lib.hid ho6
    obtain ⟨A', c', e', h1', h2', hrG2⟩ := strs_of_own HO5.out
    cases e'
    unfold maxLen at h2'
    have Q1 : ∀ W i, Below w5.heap.size w5 W → W.cell? ⟨w1.heap.size, i, none⟩ = _ := fun W i h => R1 W i (bw_to hB5 h)
    have Q2 : ∀ W i, Below w5.heap.size w5 W → W.cell? ⟨w1.heap.size + 1, i, none⟩ = _ := fun W i h => R2 W i (bw_to hB5 h)
    have HM5 := Lib.hid (HM2.out.to hB5)
    have HB5 := Lib.hid (HB2.out.to hB5)
    have W5 := Lib.hid (bw_to W2.out hB5)
    clear ho6 R1 R2 hB5 HM2 HB2 W2 hB2
    go_wp2_with fail
    go_loopw [95] (fun i wr => ∃ j : Nat, j ≤ G.length ∧ i = .int .i64 j ∧ Below w5.heap.size w5 wr ∧ ∃ ms : List Bool, ms.length = G.length ∧ wr.ownsRow w5.heap.size 4 1 (.slice (some ⟨gm, 0, none⟩) G.length q6) G.length (ms.map Value.bool) ∧ Met G f j ms) (fun i _ => G.length - (intOf i).toNat)
    case atStart => exact ⟨0, by omega, rfl, hb6, List.replicate G.length false, by simp, by rw [List.map_replicate]; exact hO6.out, fun p hp => by rw [List.getElem?_replicate] at hp; split at hp <;> cases hp⟩
    case round =>
      obtain ⟨j, hj, rfl, hB, ms, hml, hom, hmt⟩ := hrel
      have Hml := Lib.hid hml
      have Hom := Lib.hid hom
      have Hmt := Lib.hid hmt
      clear hml hom hmt
      by_cases hlt : j < G.length
      · obtain ⟨ad, rfl, hC⟩ := strs_el hrG2 hlt
        have hc0 := hC wr hB
        have hxm := Lib.hid (List.getElem_mem hlt)
        have Hnew := Lib.hid (fun (p : Nat) (hp : p < G.length) (hpe : G[p]? = some (f G[j])) => met_new Hmt.out Hml.out hgd.out hinj.out hlt hp hpe)
        have Hst := Lib.hid (fun (p : Nat) (hp : p < G.length) (hpe : G[p]? = some (f G[j])) => met_step Hmt.out Hml.out hlt hp hpe)
        obtain ⟨x, hx⟩ : ∃ x, x = G[j] := ⟨_, rfl⟩
        rw [← hx] at hc0 hxm Hnew Hst
        clear hC hx
        go_wp2_with fail
        refine (hni.out x hxm.out _ _ _ (HM5.out.to hB) (HB5.out.to hB)).mono ?_; rintro e w7 ⟨rfl, hb7⟩
        have hB7 := bw_to hB hb7
        have Hom7 := Lib.hid (own_to Hom.out hb7)
        clear hb7 Hom
        go_wp2_with fail
        refine (placeIn_any _ G (f x) w7 (strs_of_own (own_to HO5.out hB7)) hgd.out).mono ?_; rintro e wp ⟨hpl, rfl⟩
        rcases hpl with ⟨p, hp, hpe, rfl⟩ | ⟨hno, rfl⟩
        · have hfa := Hnew.out p hp hpe
          have hpm : p < ms.length := by have := Hml.out; omega
          have hcm : w7.cell? ⟨gm, p, none⟩ = some (.bool false) := by
            rw [Hom7.out.cellAt p (by omega), List.getElem?_map, hfa]; rfl
          have hfm := Hom7.out.frozenAt p
          have Hom8 := Lib.hid (own_set Hom7.out p (.bool true))
          have hB8 : Below w5.heap.size w5 (w7.setCell ⟨gm, p, none⟩ (.bool true)) := grow_setB9 hB7 hgm _
          have Hst2 := Lib.hid (Hst.out p hp hpe)
          have hp0 : (0 : Int) ≤ (p : Int) := by omega
          have hpI : (p : Int) < (G.length : Int) := by omega
          have hpN : ¬ (p : Int) < 0 := by omega
          have hpe2 := Lib.hid hpe
          clear hfa hpe Hom7
          go_wp2_with fail
          exact ⟨⟨j + 1, by omega, by go_num, hB8, ms.set p true, by rw [List.length_set]; exact Hml.out, by rw [List.map_set]; exact Hom8.out, Hst2.out⟩, by simp [intOf]; omega⟩
        · exact absurd (hgf.out x hxm.out) hno
      · have HMr := Lib.hid (HM5.out.to hB)
        have Hwr := Lib.hid (bw_to W5.out hB)
        clear HO5 HB5
        go_wp2_with fail
        refine (hso.out r hrS.out _ _ HMr.out).mono ?_; rintro e w7 ⟨A7, q7, rfl, ho7, hb7⟩
        have hB7 := bw_to hB hb7
        have HO7 := Lib.hid ho7
        obtain ⟨gs, rfl, hgs, _⟩ := own_addr ho7 hS1
        clear ho7
        go_wp2_with fail
        refine (hsr.out _ _ (HM5.out.to hB7)).mono ?_; rintro e w8 ⟨rfl, hb8⟩
        have hB8 := bw_to hB7 hb8
        have HO8 := Lib.hid (own_to HO7.out hb8)
        clear HO7 hb7 hb8 hB7
        go_wp2_with fail
        refine (hoo.out w8).mono ?_; rintro e w9 ⟨rfl, hb9⟩
        have hB9 := bw_to hB8 hb9
        have HO9 := Lib.hid (own_to HO8.out hb9)
        clear HO8 hb9 hB8
        go_wp2_with fail
        refine (placeIn_any _ S r w9 (strs_of_own HO9.out) hsd.out).mono ?_; rintro e wp ⟨hpl, rfl⟩
        rcases hpl with ⟨p, hp, hpe, rfl⟩ | ⟨hno, rfl⟩
        · have hpN : ¬ (p : Int) < 0 := by omega
          have W9 := Lib.hid (bw_to W5.out hB9)
          have Y1 : ∀ W i, Below w9.heap.size w9 W → W.cell? ⟨w1.heap.size, i, none⟩ = _ := fun W i h => Q1 W i (bw_to hB9 h)
          have Y2 : ∀ W i, Below w9.heap.size w9 W → W.cell? ⟨w1.heap.size + 1, i, none⟩ = _ := fun W i h => Q2 W i (bw_to hB9 h)
          have HM9 := Lib.hid (HM5.out.to hB9)
          have hx9 : BRowS w9 gs S w9.drew := brow_of HO9.out (Below.drew (Below.refl _ _))
          have HU9 := Lib.hid (show BytesAt w9.drew w9.drew.heap.size (.slice A2 n2 c2) from (HU.out.keep (fun p hp => (Below.drew W9.out).cell hp)).more (Below.drew W9.out).size)
          clear hpe Q1 Q2 hB hB9
          have hS0 : ¬ ((S.length : Int) = 0) := by omega
          have hS0n : ¬ (S.length = 0) := by omega
          have hS0p : (0 : Int) < (S.length : Int) := by omega
          go_upto_region 25 with fail
          go_region_held3 (fun W => Below w9.heap.size w9 W ∧ ∀ i (hi : i < S.length), W.cell? ⟨gs, i, none⟩ = some (.string S[i])) (first | with_reducible assumption | exact brow_of HO9.out (Below.drew (Below.refl _ _)) | exact brow_of HO9.out (by assumption)) (first | (go_at_call 17; refine (numberOf_any _ _ HU9.out).mono ?_; rintro e wn ⟨q9, rfl, hq9, rfl⟩; (obtain ⟨i, hi⟩ : ∃ i, i = q9 % S.length := ⟨_, rfl⟩); (have hiS : i < S.length := by rw [hi]; exact Nat.mod_lt _ (by omega)); (have hqm : Int.tmod (q9 : Int) (S.length : Int) = (i : Int) := by rw [hi]; rfl); (have hqe : (q9 : Int) % (S.length : Int) = (i : Int) := by rw [hi]; rfl); (have hzi : (i : Int) < (S.length : Int) := by omega); (have hwi : IntKind.i64.wrap (i : Int) = (i : Int) := IntWalk.i64_in _ (by omega)); clear hi) | (go_at_call 14; refine (hso.out _ (List.getElem_mem hiS) _ _ (HM9.out.to (Below.drew (Below.refl w9.heap.size w9)))).mono ?_; rintro e w10 ⟨A10, q10, rfl, ho10, hb10⟩; (have hB10 : Below w9.heap.size w9 w10 := bw_to (Below.drew (Below.refl w9.heap.size w9)) hb10); (have HO10 := Lib.hid ho10); clear ho10 hb10))
          have HSa := Lib.hid (strs_of_own (own_to HO9.out hB10))
          have HSb := Lib.hid (strs_of_own HO10.out)
          go_upto_region 28 with (go_at_call 18; refine (sameTexts_any _ _ _ _ w10 HSa.out HSb.out).mono ?_; rintro e w11 ⟨rfl, hb11⟩; rw [decide_eq_true rfl]; (have hB11 := bw_to hB10 hb11))
          clear Y1 Y2
          have W7 := Lib.hid (bw_to W9.out hB11)
          have HU2 : BytesAt w11 w11.heap.size (.slice A2 n2 c2) := (HU.out.keep (fun p hp => W7.out.cell hp)).more W7.out.size
          go_wp2_with fail
          refine (drawGoodBobs_any _ w11 HU2).mono ?_; rintro e w21 ⟨m1, v1, k1, Vb1, bobs1, rfl, hP1, hB1, hbl1⟩
          obtain ⟨hms1, hks1⟩ := hP1.small
          have HM21 := Lib.hid hP1.meth
          have HB21 := Lib.hid hB1.strs
          have W21 := Lib.hid (bw_to W7.out hP1.bw)
          obtain ⟨ga, gb, hgi, hgs⟩ := good_both m1 k1 bobs1 hms1 hks1
          have Hgi := Lib.hid hgi
          have Hgs := Lib.hid hgs
          obtain ⟨Ab1, cb1, rfl⟩ : ∃ A c, Vb1 = .slice A bobs1.length c := by obtain ⟨A, c, e, _⟩ := hB1.strs; exact ⟨A, c, e⟩
          obtain ⟨A21, c21, ev1⟩ := hP1.meth.form
          subst ev1
          clear hP1 hB1 hms1 hks1 hgi hgs HU2
          unfold Mt.v Cl.v at *
          simp only
          go_upto_region 29 with fail
          refine box2 (C := fun W => Code.wp _ _ _ _ W) ?_
          intro w22 hw22 k1' k2' hB22
          have R1 := boxRule k1'
          have R2 := boxRule k2'
          have W22 := Lib.hid (bw_to W21.out hw22)
          have HM22 := Lib.hid (HM21.out.to hw22)
          have HB22 := Lib.hid (HB21.out.to hw22)
          clear k1' k2' hw22 HM21 HB21 W21
          go_wp2_with fail
          refine (Hgi.out _ _ _ HM22.out HB22.out).mono ?_; rintro e w23 ⟨rfl, hb23⟩
          go_wp2_with fail
          refine (Hgs.out _ _ _ (HM22.out.to hb23) (HB22.out.to hb23)).mono ?_; rintro e w24 ⟨rfl, hb24⟩
          have W24 := Lib.hid (bw_to W22.out (bw_to hb23 hb24))
          have HU3 : BytesAt w24 w24.heap.size (.slice A2 n2 c2) := (HU.out.keep (fun p hp => W24.out.cell hp)).more W24.out.size
          clear R1 R2 hb23 hb24 hB22
          go_wp2_with fail
          refine (drawSetOf_any _ w24 HU3).mono ?_; rintro e w25 ⟨m3, v3, k3, r3, rfl, hP3, hr3⟩
          obtain ⟨hms3, hks3⟩ := hP3.small
          have HM25 := Lib.hid hP3.meth
          have W25 := Lib.hid (bw_to W24.out hP3.bw)
          obtain ⟨L3, b3, _, hsi3, hss3⟩ := set_both m3 k3 r3 hms3 hks3
          have Hsi3 := Lib.hid hsi3
          have Hss3 := Lib.hid hss3
          obtain ⟨A25, c25, ev3⟩ := hP3.meth.form
          subst ev3
          clear hP3 hms3 hks3 hsi3 hss3 HU3
          unfold Mt.v Cl.v at *
          simp only
          go_upto_region 32 with fail
          refine box2 (C := fun W => Code.wp _ _ _ _ W) ?_
          intro w26 hw26 k1' k2' hB26
          have R1 := boxRule k1'
          have R2 := boxRule k2'
          have W26 := Lib.hid (bw_to W25.out hw26)
          have HM26 := Lib.hid (HM25.out.to hw26)
          clear k1' k2' hw26 HM25 W25
          go_wp2_with fail
          refine (Hsi3.out _ _ HM26.out).mono ?_; rintro e w27 ⟨A27, q27, rfl, ho27, hb27⟩
          have HS27 := Lib.hid (strs_of_own ho27)
          clear ho27
          go_wp2_with fail
          refine (Hss3.out _ _ (HM26.out.to hb27)).mono ?_; rintro e w28 ⟨A28, q28, rfl, ho28, hb28⟩
          have HS28 := Lib.hid (strs_of_own ho28)
          have HS27b := Lib.hid (HS27.out.to hb28)
          have W28 := Lib.hid (bw_to W26.out (bw_to hb27 hb28))
          have HU4 : BytesAt w28 w28.heap.size (.slice A2 n2 c2) := (HU.out.keep (fun p hp => W28.out.cell hp)).more W28.out.size
          clear R1 R2 hb27 hb28 ho28 hB26 HS27
          go_wp2_with fail
          refine (drawSetRow_any _ w28 HU4).mono ?_; rintro e w29 ⟨m5, v5, k5, rfl, hP5⟩
          obtain ⟨hms5, hks5⟩ := hP5.small
          have HM29 := Lib.hid hP5.meth
          have W29 := Lib.hid (bw_to W28.out hP5.bw)
          have HS29 := Lib.hid (HS28.out.to hP5.bw)
          have HS29b := Lib.hid (HS27b.out.to hP5.bw)
          obtain ⟨q5, b5, hsi5, hss5⟩ := setrow_both m5 k5 hms5 hks5
          have Hsi5 := Lib.hid hsi5
          have Hss5 := Lib.hid hss5
          obtain ⟨A29, c29, ev5⟩ := hP5.meth.form
          subst ev5
          clear hP5 hms5 hks5 hsi5 hss5 HU4
          unfold Mt.v Cl.v at *
          simp only
          go_upto_region 35 with fail
          refine box2 (C := fun W => Code.wp _ _ _ _ W) ?_
          intro w30 hw30 k1' k2' hB30
          have R1 := boxRule k1'
          have R2 := boxRule k2'
          have W30 := Lib.hid (bw_to W29.out hw30)
          have HM30 := Lib.hid (HM29.out.to hw30)
          have HS30 := Lib.hid (HS29.out.to hw30)
          have HS30b := Lib.hid (HS29b.out.to hw30)
          clear k1' k2' hw30 HM29 W29 HS29 HS29b
          go_wp2_with fail
          refine (Hsi5.out _ _ HM30.out).mono ?_; rintro e w31 ⟨rfl, hb31⟩
          go_wp2_with fail
          refine (Hss5.out _ _ (HM30.out.to hb31)).mono ?_; rintro e w32 ⟨rfl, hb32⟩
          have hb3132 := bw_to hb31 hb32
          have W32 := Lib.hid (bw_to W30.out hb3132)
          have HS32 := Lib.hid (HS30.out.to hb3132)
          have HS32b := Lib.hid (HS30b.out.to hb3132)
          have hq5 : (q5.toList == q5.toList) = true := beq_self_eq_true _
          have hga : (ga == ga) = true := by cases ga <;> rfl
          have hgb : (gb == gb) = true := by cases gb <;> rfl
          have hb3b : (b3 == b3) = true := by cases b3 <;> rfl
          have hb5b : (b5 == b5) = true := by cases b5 <;> rfl
          clear hb31 hb32 hb3132 R1 R2 hB30
          go_wp2_with (go_at_call 18; refine (sameTexts_any _ _ _ _ w32 HS32b.out HS32.out).mono ?_; rintro e w33 ⟨rfl, hb33⟩; rw [decide_eq_true rfl])
          go_ret
          exact ⟨rfl, bw_to W32.out hb33⟩
        · exact absurd hrS.out hno
end Go.Proofs.YtheppimoncokcaaGreat

/- Contract: the rows that a new band rings for a touch, the reference's. -/
import Derived.Test.YtimeecimaokldaaGreatDoorPk30
import Derived.Test.YtimeecimaokldaaGreatDoorPk18
namespace Go.Proofs.YtimeecimaokldaaGreatDoor
open Go Go.RowKit
set_option linter.unusedVariables false
set_option linter.unusedSimpArgs false

set_option maxHeartbeats 1000000 in
theorem specGoodCallsR_any (m : Mt) (v : Value) (k : Cl) (w : World) (h : MethAt w m v) (hs : MtSmall m) (hk : ClSmall k) : Calls Tryz.prog 90 #[m.v v, k.v] w fun e w' => e = .returned (.bool (callsB m k)) ∧ Below w.heap.size w w' := by
  have HM := Lib.hid (fun W (hW : Below w.heap.size w W) => l8Good_any m v k W (h.to hW) hs hk)
  obtain ⟨A, q, hv⟩ := h.form
  subst hv
  obtain ⟨p, hp⟩ : ∃ p, p = callsB m k := ⟨_, rfl⟩
  rw [← hp] at HM ⊢
  clear h hp
  unfold Mt.v Cl.v at *
  go_enter Tryz.func90, Tryz.ntmps90
  go_wp2_with fail
  refine box2 (C := fun W => Calls _ _ _ W _) ?_
  intro wb hw k1 k2 hB0
  have R1 := boxRule k1
  have R2 := boxRule k2
  clear k1 k2
  refine (HM.out _ hw).mono ?_; rintro e w1 ⟨rfl, hb1⟩
  go_wp2_with fail
  go_ret
  exact ⟨rfl, bw_to hw hb1⟩
set_option maxHeartbeats 1000000 in
theorem specGoodTouchR_any (s : ByteArray) (w : World) (hs : s.size ≤ maxLen) : Calls Tryz.prog 91 #[.string s] w fun e w' => e = .returned (.bool (touchB s.data.toList)) ∧ w = w' := by
  have H := Lib.hid (fun W => l9Good_any s W hs)
  obtain ⟨p, hp⟩ : ∃ p, p = touchB s.data.toList := ⟨_, rfl⟩
  simp only [← hp] at H ⊢
  clear hp
  go_enter Tryz.func91, Tryz.ntmps91
  go_wp2_with (go_at_call 132; refine (H.out _).mono ?_; rintro e w' ⟨rfl, rfl⟩)
  go_ret
  exact ⟨rfl, rfl⟩
set_option maxRecDepth 10000 in
set_option maxHeartbeats 8000000 in
theorem specRingTouch_any (m : Mt) (v : Value) (k : Cl) (t : ByteArray) (w : World) (h : MethAt w m v) (hn : NilOk v) (hs : MtSmall m) (hk : ClSmall k) (ht : t.size ≤ 1048576) : Calls Tryz.prog 42 #[m.v v, k.v, .string t] w (RtPost w m k t) := by
  have Hl4 := Lib.hid (fun W (hW : Below w.heap.size w W) => l4Good_any m v W (h.to hW) hs)
  have Hgc := Lib.hid (fun W (hW : Below w.heap.size w W) => specGoodCallsR_any m v k W (h.to hW) hs hk)
  have Hgt := Lib.hid (fun W => specGoodTouchR_any t W (Nat.le_trans ht (by unfold maxLen; omega)))
  have H := Lib.hid h
  obtain ⟨A, q, rfl, _⟩ := h.1
  clear h
  have hmc : callsB m k = true → methB m = true := fun x => by unfold callsB at x; rw [Bool.and_eq_true] at x; exact x.1
  cases hok : callsB m k && touchB t.data.toList
  · have HN : Hid (¬ RtOk m k t) := Lib.hid (fun x => by have := x.1; unfold rtB at this; rw [hok] at this; cases this)
    cases hm : methB m
    · rw [hm] at Hl4
      clear hok hm hmc
      unfold Mt.v Cl.v at *
      go_enter Tryz.func42, Tryz.ntmps42
      go_wp2_with fail
      refine box2 (C := fun W => Calls _ _ _ W _) ?_
      intro wb hw k1 k2 hB0
      clear k1 k2
      refine (Hl4.out _ hw).mono ?_; rintro e w1 ⟨rfl, hb1⟩
      go_wp2_with fail
      go_ret2
      exact ⟨.inr ⟨HN.out, rfl⟩, bw_to hw hb1⟩
    · rw [hm] at Hl4
      cases hc : callsB m k
      · rw [hc] at Hgc
        clear hok hm hc hmc
        unfold Mt.v Cl.v at *
        go_enter Tryz.func42, Tryz.ntmps42
        go_wp2_with fail
        refine box2 (C := fun W => Calls _ _ _ W _) ?_
        intro wb hw k1 k2 hB0
        have h1 : Bc wb w.heap.size [.string m.name, .int .i64 m.stage, .slice A m.l.length q] 29 := k1
        have h2 : Bc wb (w.heap.size + 1) [.string k.bob, .string k.single] 30 := k2
        clear k1 k2
        refine (Hl4.out _ hw).mono ?_; rintro e w1 ⟨rfl, hb1⟩
        have r1 := h1.to hb1 h1.blk
        have r2 := h2.to hb1 h2.blk
        obtain ⟨x0, x1, x2⟩ : _ ∧ _ ∧ _ := ⟨r1.at_ 0 rfl, r1.at_ 1 rfl, r1.at_ 2 rfl⟩
        obtain ⟨z0, z1⟩ : _ ∧ _ := ⟨r2.at_ 0 rfl, r2.at_ 1 rfl⟩
        go_wp2_with fail
        refine (Hgc.out _ (bw_to hw hb1)).mono ?_; rintro e w2 ⟨rfl, hb2⟩
        clear x0 x1 x2 z0 z1 r1 r2 h1 h2
        go_wp2_with fail
        go_ret2
        exact ⟨.inr ⟨HN.out, rfl⟩, bw_to hw (bw_to hb1 hb2)⟩
      · rw [hc] at Hgc
        have htf : touchB t.data.toList = false := by rw [hc] at hok; simpa using hok
        rw [htf] at Hgt
        clear hok hm hc hmc htf
        unfold Mt.v Cl.v at *
        go_enter Tryz.func42, Tryz.ntmps42
        go_wp2_with fail
        refine box2 (C := fun W => Calls _ _ _ W _) ?_
        intro wb hw k1 k2 hB0
        have h1 : Bc wb w.heap.size [.string m.name, .int .i64 m.stage, .slice A m.l.length q] 29 := k1
        have h2 : Bc wb (w.heap.size + 1) [.string k.bob, .string k.single] 30 := k2
        clear k1 k2
        refine (Hl4.out _ hw).mono ?_; rintro e w1 ⟨rfl, hb1⟩
        have r1 := h1.to hb1 h1.blk
        have r2 := h2.to hb1 h2.blk
        obtain ⟨x0, x1, x2⟩ : _ ∧ _ ∧ _ := ⟨r1.at_ 0 rfl, r1.at_ 1 rfl, r1.at_ 2 rfl⟩
        obtain ⟨z0, z1⟩ : _ ∧ _ := ⟨r2.at_ 0 rfl, r2.at_ 1 rfl⟩
        go_wp2_with fail
        refine (Hgc.out _ (bw_to hw hb1)).mono ?_; rintro e w2 ⟨rfl, hb2⟩
        have hb12 := bw_to hb1 hb2
        clear x0 x1 x2 z0 z1 r1 r2 h1 h2
        go_wp2_with (go_at_call 91; refine (Hgt.out _).mono ?_; rintro e w' ⟨rfl, rfl⟩)
        go_ret2
        exact ⟨.inr ⟨HN.out, rfl⟩, bw_to hw hb12⟩
  have hokk := hok
  rw [Bool.and_eq_true] at hokk
  obtain ⟨hcb, htb⟩ := hokk
  rw [hcb] at Hgc
  rw [htb] at Hgt
  rw [hmc hcb] at Hl4
  obtain ⟨n, hg⟩ := cgood_of hcb
  have hn8 := hg.m.hi
  have hl := hg.m.len
  have hst : m.stage.toNat = n := by rw [hg.m.st]; rfl
  have ht60 := touch_len htb
  have Hac := Lib.hid (fun W (hW : Below w.heap.size w W) => l24Acts_any m (.slice A m.l.length q) t W (H.out.1.to hW) hl.2 ht60)
  have Hnb := Lib.hid (fun W (hW : Below w.heap.size w W) => l24New_any m (.slice A m.l.length q) k n W hg (H.out.1.to hW) hn)
  have Hok : Hid (rtB m k t = true) := Lib.hid hok
  have Hao := Lib.hid (touch_acts (n := n) (N := m.l.length) (ah := []) htb (fun a ha => by cases ha))
  have Hg := Lib.hid hg
  have Hrr : Hid (rtRows m k t = (playB m k n (newB n) (actsL m.l.length [] t.data.toList)).2) := Lib.hid (by unfold rtRows; rw [hst])
  have Hqo : Hid ((actsL m.l.length [] t.data.toList).length ≤ 400 → RtOk m k t) := Lib.hid (fun h => ⟨hok, h⟩)
  have Hqn : Hid (¬ (actsL m.l.length [] t.data.toList).length ≤ 400 → ¬ RtOk m k t) := Lib.hid (fun h x => h x.2)
  have hfew := actsL_few (N := m.l.length) (ah := []) (l := t.data.toList) hl.2 (by simp) (by rw [bytes_len]; exact ht60)
  unfold Mt.v Cl.v at *
  obtain ⟨acts, hacts⟩ : ∃ a, a = actsL m.l.length [] t.data.toList := ⟨_, rfl⟩
  rw [← hacts] at hfew Hqo Hqn Hrr Hao
  simp only [← hacts] at Hac
  clear hok hcb htb hg hst hacts
  clear hmc
  go_enter Tryz.func42, Tryz.ntmps42
  go_wp2_with fail
  refine box2 (C := fun W => Calls _ _ _ W _) ?_
  intro wb hw k1 k2 hB0
  have h1 : Bc wb w.heap.size [.string m.name, .int .i64 m.stage, .slice A m.l.length q] 29 := k1
  have h2 : Bc wb (w.heap.size + 1) [.string k.bob, .string k.single] 30 := k2
  clear k1 k2
  refine (Hl4.out _ hw).mono ?_; rintro e w1 ⟨rfl, hb1⟩
  have r1 := h1.to hb1 h1.blk
  have r2 := h2.to hb1 h2.blk
  obtain ⟨x0, x1, x2⟩ : _ ∧ _ ∧ _ := ⟨r1.at_ 0 rfl, r1.at_ 1 rfl, r1.at_ 2 rfl⟩
  obtain ⟨z0, z1⟩ : _ ∧ _ := ⟨r2.at_ 0 rfl, r2.at_ 1 rfl⟩
  go_wp2_with fail
  refine (Hgc.out _ (bw_to hw hb1)).mono ?_; rintro e w2 ⟨rfl, hb2⟩
  have hb12 := bw_to hb1 hb2
  clear x0 x1 x2 z0 z1 r1 r2
  have r1 := h1.to hb12 h1.blk
  obtain ⟨x0, x1, x2⟩ : _ ∧ _ ∧ _ := ⟨r1.at_ 0 rfl, r1.at_ 1 rfl, r1.at_ 2 rfl⟩
  go_wp2_with (go_at_call 91; refine (Hgt.out _).mono ?_; rintro e w' ⟨rfl, rfl⟩)
  refine (Hac.out _ (bw_to hw hb12)).mono ?_; rintro e w3 ⟨Aa, qa, rfl, hoa, hb3⟩
  have hb13 := bw_to hb12 hb3
  clear x0 x1 x2 r1 hoa
  by_cases hfit : acts.length ≤ 400
  · have d1 : ¬ ((400 : Int) < (acts.length : Int)) := by omega
    have HY := Lib.hid (Hqo.out hfit)
    have Hh1 := Lib.hid (h1.to hb13 h1.blk)
    have Hh2 := Lib.hid (h2.to hb13 h2.blk)
    have Hw := Lib.hid (bw_to hw hb13)
    have Hle := Lib.hid (Nat.le_trans hw.size hb13.size)
    clear hfit h1 h2 hb1 hb2 hb3 hb12 hb13 hw hB0
    go_upto_region 3 with fail
    have R0 : ∀ W, Below w3.heap.size w3 W → W.cell? ⟨w.heap.size, 0, none⟩ = some (.string m.name) := fun W hW => (Hh1.out.to hW Hh1.out.blk).at_ 0 rfl
    have R1 : ∀ W, Below w3.heap.size w3 W → W.cell? ⟨w.heap.size, 1, none⟩ = some (.int .i64 m.stage) := fun W hW => (Hh1.out.to hW Hh1.out.blk).at_ 1 rfl
    have R2 : ∀ W, Below w3.heap.size w3 W → W.cell? ⟨w.heap.size, 2, none⟩ = some (.slice A m.l.length q) := fun W hW => (Hh1.out.to hW Hh1.out.blk).at_ 2 rfl
    have S0 : ∀ W, Below w3.heap.size w3 W → W.cell? ⟨w.heap.size + 1, 0, none⟩ = some (.string k.bob) := fun W hW => (Hh2.out.to hW Hh2.out.blk).at_ 0 rfl
    have S1 : ∀ W, Below w3.heap.size w3 W → W.cell? ⟨w.heap.size + 1, 1, none⟩ = some (.string k.single) := fun W hW => (Hh2.out.to hW Hh2.out.blk).at_ 1 rfl
    have hst : Below w3.heap.size w3 w3 := Below.refl _ _
    have Hpl := Lib.hid (fun V1 V2 Va W h1 h2 h3 h4 h5 => l24Play_any m k n (newB n) V1 V2 Va acts W (newB_good Hg.out) Hao.out h1 h2 h3 h4 h5 (by have := HY.out.2; omega))
    unfold Bd.v at Hpl
    clear Hgc Hgt Hl4 d1
    go_cut [9] (fun x wx => ∃ C3 f3, x = .slice C3 (playB m k n (newB n) acts).2.length f3 ∧ Hid (wx.ownsRow w3.heap.size 9 1 (.slice C3 (playB m k n (newB n) acts).2.length f3) (playB m k n (newB n) acts).2.length ((playB m k n (newB n) acts).2.map Value.string)) ∧ Hid (Below w3.heap.size w3 wx))
    case first =>
      go_region_held3 (fun W => Below w3.heap.size w3 W) (first | with_reducible assumption | with_reducible exact Below.drew (by assumption) | with_reducible exact hkP | with_reducible exact hkA | with_reducible exact hkN | with_reducible exact bw_al (by assumption) _ | with_reducible exact bw9 hkP (Nat.le_refl _) | with_reducible exact bw9 hkP hkN.size | with_reducible exact bw9 hkP hkA.size | with_reducible exact bw9 (bw_al hkP _) hkP.size | exact bw_al (Below.drew (Below.refl _ _)) _ | exact bw_al (by assumption) _)
        (first | (go_at_call 46; refine (Hnb.out _ (bw_to Hw.out (by assumption))).mono ?_; intro e w' hq; (obtain ⟨B1, d1, B2, d2, heN, n1, n2, hb'⟩ := hq); (have hkN := bw_to (by assumption : Below w3.heap.size w3 _) hb'); (unfold Bd.v at heN); subst heN; (try (have kbN := box_inD (X := w3) hb'))) | (go_at_call 44; refine (Hac.out _ (bw_to Hw.out (by assumption))).mono ?_; intro e w'' hq; (obtain ⟨Aa, qa, heA, hoa, hb'⟩ := hq); subst heA; (have hkA := bw_to (by assumption : Below w3.heap.size w3 _) hb'); (first | have hNA := hb' | skip); (have n1A : World.ownsRow w'' _ _ _ _ _ _ := (by first | with_reducible exact own_to n1 hb' | exact own_to n1 (bw_to (bw_al (Below.refl _ _) _) hb'))); (have n2A : World.ownsRow w'' _ _ _ _ _ _ := (by first | with_reducible exact own_to n2 hb' | exact own_to n2 (bw_to (bw_al (Below.refl _ _) _) hb'))); (try (first | have kbA := box_in hb' | have kbA := (hb'.block _ (blk_lt kbN)).trans kbN))) | (go_at_call 45; refine (Hpl.out _ _ _ _ ?_ ?_ ?_ ?_ ?_).mono ?_; (· first | with_reducible exact strs_of_own n1A | exact strs_of_own (own_to n1A (bw_al (Below.refl _ _) _))); (· exact nilok_own n1A); (· first | with_reducible exact sl_of_own n2A | exact sl_of_own (own_to n2A (bw_al (Below.refl _ _) _))); (· exact nilok_own n2A); (· first | with_reducible exact sl_of_own hoa | exact sl_of_own (own_to hoa (bw_al (Below.refl _ _) _))); intro e w4 hq; (obtain ⟨C1, f1, C2, f2, C3, f3, heP, _, _, p3, hb'⟩ := hq); (unfold Bd.v at heP); subst heP; (have hkP := bw_to (by assumption : Below w3.heap.size w3 _) hb'); (have p3' : World.ownsRow _ w3.heap.size _ _ _ _ _ := own_base p3 (Below.size (by assumption))); (try ((first | have kb := box_in hb' | have kb := (hb'.block _ (blk_lt kbA)).trans kbA); (obtain ⟨⟨c0, c1, c2, c3, c4, c5, c6, c7, c8⟩, g0, g1, g2, g3, g4, g5, g6, g7, g8⟩ := Bc.all9 (bc_of kb))))))
      · go_wp2_with fail
        go_meet
        exact ⟨C3, f3, rfl, Lib.hid (own_to p3' (bw_al (Below.refl _ _) _)), Lib.hid (bw_al hkP _)⟩
      · go_wp2_with fail
        go_meet
        exact ⟨C3, f3, rfl, Lib.hid (own_base (own9 p3 (by simp)) (Nat.le_trans hkA.size (by simp))), Lib.hid (bw9 hkP hkA.size)⟩
      · go_wp2_with fail
        go_meet
        exact ⟨C3, f3, rfl, Lib.hid (own_base (own9 p3 (blk_lt kbA)) hkA.size), Lib.hid (bw9 hkP hkN.size)⟩
      · go_wp2_with fail
        go_meet
        exact ⟨C3, f3, rfl, Lib.hid (own_base (own9 p3 (blk_lt kbA)) hkA.size), Lib.hid (bw9 hkP (Nat.le_refl _))⟩
    case rest =>
    obtain ⟨C3, f3, rfl, Ho3, Hb3⟩ := hcut
    go_wp2_with fail
    go_ret2
    unfold RtPost
    rw [Hrr.out]
    exact ⟨.inl ⟨HY.out, C3, f3, rfl, own_base Ho3.out Hle.out⟩, bw_to Hw.out Hb3.out⟩
  · have d1 : (400 : Int) < (acts.length : Int) := by omega
    have HN := Lib.hid (Hqn.out hfit)
    clear hfit
    go_wp2_with fail
    go_ret2
    exact ⟨.inr ⟨HN.out, rfl⟩, bw_to hw hb13⟩
end Go.Proofs.YtimeecimaokldaaGreatDoor

/- Contracts: the ideal strikes of the rows that a band rings; both sides. -/
namespace Go.Proofs.YtimeecimaokldaaGreatDoor
open Go Go.RowKit
set_option linter.unusedVariables false
set_option linter.unusedSimpArgs false

theorem playB_small {m : Mt} {k : Cl} {n : Nat} (hn : n ≤ 8) : ∀ {l : List Act3} {b : Bd}, BGood m k n b → (∀ a ∈ l, a.ok n) → ∀ x ∈ (playB m k n b l).2, x.size ≤ 1000
  | [], b, h, _, x, hx => by cases hx
  | a :: l, b, h, ha, x, hx => by
    rw [playB] at hx
    rcases List.mem_append.1 hx with hx | hx
    · have hr : x = rowOf b := by
        split at hx
        · exact List.mem_singleton.1 hx
        · cases hx
      rw [hr]
      unfold rowOf
      have hl := h.len
      have := rowsPl_size (rs := b.rs) (by omega) b.rs.length
      omega
    · exact playB_small hn (h.done (ha a (List.mem_cons_self ..))) (fun y hy => ha y (List.mem_cons_of_mem _ hy)) x hx
theorem rt_fits {m : Mt} {k : Cl} {t : ByteArray} (h : rtB m k t = true) : Fits (rtRows m k t) := by
  unfold rtB at h
  rw [Bool.and_eq_true] at h
  obtain ⟨n, hg⟩ := cgood_of h.1
  have hst : m.stage.toNat = n := by rw [hg.m.st]; rfl
  intro x hx
  unfold rtRows at hx
  rw [hst] at hx
  have := playB_small hg.m.hi (newB_good hg) (touch_acts h.2 (fun a ha => by cases ha)) x hx
  unfold maxLen
  omega
/-- What RecordTouch leaves. -/
def RecPost (w : World) (b : Bt) (m : Mt) (k : Cl) (t : ByteArray) (e : Ending) (w' : World) : Prop := ∃ (ok : Bool) (L : List (Int × Int)) (A : Option Addr) (c : Nat), e = .returned (.tuple #[.slice A L.length c, .bool ok]) ∧
  w'.ownsRow w.heap.size 95 2 (.slice A L.length c) L.length (L.flatMap skC) ∧ Below w.heap.size w w' ∧ (ok = true ↔ RtOk m k t ∧ (GoodB b ∧ GoodRs (rtRows m k t) ∧ GoodS (idL b 0 (rtRows m k t)))) ∧ L = if ok then idL b 0 (rtRows m k t) else []

set_option maxRecDepth 10000 in
set_option maxHeartbeats 4000000 in
theorem recordTouch_any (b : Bt) (m : Mt) (v : Value) (k : Cl) (t : ByteArray) (w : World) (h : MethAt w m v) (hn : NilOk v) (hs : MtSmall m) (hk : ClSmall k) (ht : t.size ≤ 1048576) (htab : Tab10 w) : Calls Tryz.prog 20 #[b.v, m.v v, k.v, .string t] w (RecPost w b m k t) := by
  have Hrt := Lib.hid (fun W (hW : Below w.heap.size w W) => ringTouch_any m v k t W (h.to hW) hn hs hk ht (htab.to hW))
  have Hid1 := Lib.hid (fun V W h1 h2 => implIdeal_any b V (rtRows m k t) W h1 h2)
  obtain ⟨A, q, rfl, _⟩ := h.1
  clear h htab
  unfold Mt.v Cl.v Bt.v at *
  go_enter Tryz.func20, Tryz.ntmps20
  go_wp2_with fail
  refine box3 (C := fun W => Calls _ _ _ W _) ?_
  intro wb hw k1 k2 k3 hB0
  have h1 : Bc wb w.heap.size [.int .i64 b.st, .int .i64 b.gap, .int .i64 b.hand] 48 := k1
  clear k1 k2 k3
  refine (Hrt.out _ hw).mono ?_; rintro e w1 ⟨hq, hb1⟩
  have Hb1 := Lib.hid (bw_to hw hb1)
  rcases hq with ⟨hok, C3, f3, rfl, hown⟩ | ⟨hno, rfl⟩
  · have HY := Lib.hid hok
    have Hle := Lib.hid (Nat.le_trans hw.size hb1.size)
    have Hi := Lib.hid (Hid1.out _ w1 (strs_of_own hown) (rt_fits hok.1))
    have r1 := h1.to hb1 h1.blk
    obtain ⟨x0, x1, x2⟩ : _ ∧ _ ∧ _ := ⟨r1.at_ 0 rfl, r1.at_ 1 rfl, r1.at_ 2 rfl⟩
    clear hok hown r1 hb1 hw h1 hB0
    go_wp2_with fail
    refine Hi.out.mono ?_; intro e w2 hq; obtain ⟨ok, L, A2, c2, rfl, ho2, hb2, hiff, hL⟩ := hq
    have HE := Lib.hid (And.intro ho2 (And.intro hb2 (And.intro hiff hL)))
    clear ho2 hb2 hiff hL x0 x1 x2
    go_wp2_with fail
    go_ret2
    exact ⟨ok, L, A2, c2, rfl, own_base HE.out.1 Hle.out, bw_to Hb1.out HE.out.2.1, ⟨fun h => ⟨HY.out, HE.out.2.2.1.1 h⟩, fun h => HE.out.2.2.1.2 h.2⟩, HE.out.2.2.2⟩
  · have HN := Lib.hid hno
    clear hno hb1 hw h1 hB0
    go_wp2_with fail
    go_ret2
    exact ⟨false, [], none, 0, rfl, World.ownsRow_nil _ _ _ _, Hb1.out, ⟨fun h => (by cases h), fun h => absurd h.1 HN.out⟩, rfl⟩
set_option maxRecDepth 10000 in
set_option maxHeartbeats 4000000 in
theorem specRecordTouch_any (b : Bt) (m : Mt) (v : Value) (k : Cl) (t : ByteArray) (w : World) (h : MethAt w m v) (hn : NilOk v) (hs : MtSmall m) (hk : ClSmall k) (ht : t.size ≤ 1048576) : Calls Tryz.prog 18 #[b.v, m.v v, k.v, .string t] w (RecPost w b m k t) := by
  have Hrt := Lib.hid (fun W (hW : Below w.heap.size w W) => specRingTouch_any m v k t W (h.to hW) hn hs hk ht)
  have Hid1 := Lib.hid (fun V W h1 h2 => specIdeal_any b V (rtRows m k t) W h1 h2)
  obtain ⟨A, q, rfl, _⟩ := h.1
  clear h
  unfold Mt.v Cl.v Bt.v at *
  go_enter Tryz.func18, Tryz.ntmps18
  go_wp2_with fail
  refine box3 (C := fun W => Calls _ _ _ W _) ?_
  intro wb hw k1 k2 k3 hB0
  have h1 : Bc wb w.heap.size [.int .i64 b.st, .int .i64 b.gap, .int .i64 b.hand] 48 := k1
  clear k1 k2 k3
  refine (Hrt.out _ hw).mono ?_; rintro e w1 ⟨hq, hb1⟩
  have Hb1 := Lib.hid (bw_to hw hb1)
  rcases hq with ⟨hok, C3, f3, rfl, hown⟩ | ⟨hno, rfl⟩
  · have HY := Lib.hid hok
    have Hle := Lib.hid (Nat.le_trans hw.size hb1.size)
    have Hi := Lib.hid (Hid1.out _ w1 (strs_of_own hown) (rt_fits hok.1))
    have r1 := h1.to hb1 h1.blk
    obtain ⟨x0, x1, x2⟩ : _ ∧ _ ∧ _ := ⟨r1.at_ 0 rfl, r1.at_ 1 rfl, r1.at_ 2 rfl⟩
    clear hok hown r1 hb1 hw h1 hB0
    go_wp2_with fail
    refine Hi.out.mono ?_; intro e w2 hq; obtain ⟨ok, L, A2, c2, rfl, ho2, hb2, hiff, hL⟩ := hq
    have HE := Lib.hid (And.intro ho2 (And.intro hb2 (And.intro hiff hL)))
    clear ho2 hb2 hiff hL x0 x1 x2
    go_wp2_with fail
    go_ret2
    exact ⟨ok, L, A2, c2, rfl, own_base HE.out.1 Hle.out, bw_to Hb1.out HE.out.2.1, ⟨fun h => ⟨HY.out, HE.out.2.2.1.1 h⟩, fun h => HE.out.2.2.1.2 h.2⟩, HE.out.2.2.2⟩
  · have HN := Lib.hid hno
    clear hno hb1 hw h1 hB0
    go_wp2_with fail
    go_ret2
    exact ⟨false, [], none, 0, rfl, World.ownsRow_nil _ _ _ _, Hb1.out, ⟨fun h => (by cases h), fun h => absurd h.1 HN.out⟩, rfl⟩
end Go.Proofs.YtimeecimaokldaaGreatDoor

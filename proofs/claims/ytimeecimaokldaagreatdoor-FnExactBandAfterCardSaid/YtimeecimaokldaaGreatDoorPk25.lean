/- Contract: an act of a band, the reference's (the three kinds that a touch makes). (Printed by a program: tools/mkBX7.py.) -/
import Derived.Test.YtimeecimaokldaaGreatDoorPk24
namespace Go.Proofs.YtimeecimaokldaaGreatDoor
open Go Go.RowKit
set_option linter.unusedVariables false
set_option linter.unusedSimpArgs false
theorem Kp.drew {wz W : World} {g : Nat} (h : Kp wz g W) : Kp wz g W.drew := ⟨h.sz, h.blk⟩
theorem Kp.put9 {wz W : World} {B : Nat} {x0 x1 x2 x3 x4 x5 x6 x7 x8 : Value} (h : Kp wz B W) : Kp wz B (((((((((W.setCell ⟨B, 0, none⟩ x0).setCell ⟨B, 1, none⟩ x1).setCell ⟨B, 2, none⟩ x2).setCell ⟨B, 3, none⟩ x3).setCell ⟨B, 4, none⟩ x4).setCell ⟨B, 5, none⟩ x5).setCell ⟨B, 6, none⟩ x6).setCell ⟨B, 7, none⟩ x7).setCell ⟨B, 8, none⟩ x8) :=
  ((((((((h.set 0 x0).set 1 x1).set 2 x2).set 3 x3).set 4 x4).set 5 x5).set 6 x6).set 7 x7).set 8 x8
theorem l24Call_any (s : ByteArray) (w : World) : Calls Tryz.prog 119 #[.string s] w fun e w' => e = .returned (.bool (callS s)) ∧ w = w' := by
  cases e1 : (s.toList == [112]) <;> cases e2 : (s.toList == [98]) <;> cases e3 : (s.toList == [115])
  all_goals
    have h := callS_def s
    rw [e1, e2, e3] at h
    have H := Lib.hid h
    clear h
    go_enter Tryz.func119, Tryz.ntmps119
    go_wp2_with fail
    go_ret
    exact ⟨by rw [H.out]; rfl, rfl⟩

set_option maxRecDepth 100000 in
set_option maxHeartbeats 8000000 in
theorem l24Do_any (m : Mt) (k : Cl) (n : Nat) (b : Bd) (a : Act3) (v r : Value) (w : World) (hg : BGood m k n b) (ha : a.ok n) (hv : Strs w v m.l) (hn : NilOk v) (hr : Sl w 2 r b.rs.length (b.rs.flatMap rsC)) (hnr : NilOk r) : Calls Tryz.prog 93 #[b.v m k v r, a.v] w (DoPost w m k (doB m k n b a)) := by
  have hl := hg.c.m.len
  have hn8 := hg.c.m.hi
  have hn3 := hg.c.m.lo
  have hbl := hg.len
  have hsg := hg.c.m.st
  have Hcp := Lib.hid (fun W (hW : Below w.heap.size w W) => l24Own_any m k b v r W (hv.to hW) hn (hr.to hW) hnr (by omega) (by omega))
  have Hst := Lib.hid (fun W (hW : Below w.heap.size w W) => l24Step_any m k n b v r W hg (hv.to hW) hn (hr.to hW) hnr)
  clear hg
  subst hbl
  obtain ⟨A, q, rfl, _⟩ := hv
  obtain ⟨Ar, qr, rfl, _⟩ := hr
  unfold Bd.v at *
  rw [hsg] at Hcp Hst ⊢
  have Hsg := Lib.hid hsg
  cases a with
  | step =>
    unfold Act3.v Act3.c
    go_enter Tryz.func93, Tryz.ntmps93
    go_wp2_with fail
    refine box3 (C := fun W => Calls _ _ _ W _) ?_
    intro wb hw k1 k2 k3 hB0
    have hb : Bc wb w.heap.size [.string m.name, .int .i64 b.rs.length, .slice A m.l.length q, .string k.bob, .string k.single, .int .i64 b.st, .string b.call, .string b.tr, .slice Ar b.rs.length qr] 33 := k1
    have ha2 : Bc wb (w.heap.size + 1) [.int .i64 1, .int .i64 0, .int .i64 0, .string ⟨#[]⟩] 82 := k2
    obtain ⟨t2, h2⟩ : ∃ t, Bc wb (w.heap.size + 2) [.string ⟨#[]⟩, .int .i64 0, .slice none 0 0, .string ⟨#[]⟩, .string ⟨#[]⟩, .int .i64 0, .string ⟨#[]⟩, .string ⟨#[]⟩, .slice none 0 0] t := ⟨_, k3⟩
    clear k1 k2 k3
    have hz1 := hb.blk
    have hz2 := ha2.blk
    have hz3 := h2.blk
    refine (Hcp.out _ hw).mono ?_; intro e w1 hq1; obtain ⟨A1, c1, A2, c2, he1, ho1, ho2, hb1⟩ := hq1
    unfold Bd.v at he1
    rw [hsg] at he1
    subst he1
    clear hsg
    obtain ⟨g1, rfl, hg1, hg1l⟩ := own_ptrB ho1 (by omega)
    obtain ⟨g2, rfl, hg2, hg2l⟩ := own_ptrB ho2 (by omega)
    have hne : g1 ≠ g2 := by
      rcases own_kinds' ho1 ho2 (by decide) with h | h
      · simp [Value.ownBlock] at h
      · simpa [Value.ownBlock] using h
    have hw1 := bw_to hw hb1
    have P1 := hb.to hb1 hz1
    have P2 := ha2.to hb1 hz2
    have P3 := h2.to hb1 hz3
    clear hb ha2 h2
    go_upto_region 2 with fail
    refine box1 (C := fun W => Code.wp _ _ _ _ W) ?_
    intro w2 hw2 k4 hB02
    have Q4 : Bc w2 w1.heap.size [.string m.name, .int .i64 b.rs.length, .slice (some ⟨g1, 0, none⟩) m.l.length c1, .string k.bob, .string k.single, .int .i64 b.st, .string b.call, .string b.tr, .slice (some ⟨g2, 0, none⟩) b.rs.length c2] 33 := k4
    have Q1 := P1.to hw2 P1.blk
    have Q2 := P2.to hw2 P2.blk
    have Q3 := P3.to hw2 P3.blk
    have O1 := own_to ho1 hw2
    have O2 := own_to ho2 hw2
    have hww2 := bw_to hw1 hw2
    have hG := Q4.blk
    have i0 := Q2.at_ 0 rfl
    have i1 := Q2.at_ 1 rfl
    have i2 := Q2.at_ 2 rfl
    have i3 := Q2.at_ 3 rfl
    clear k4 P1 P2 P3 ho1 ho2 hb1 hB02 hB0
    have y1 := Q1.at_ 1 rfl
    go_upto_region 8 with (go_at_call 43; refine (l1In_any _ _ _ _).mono ?_; rintro e w' ⟨rfl, rfl⟩)
    have HQ1 := Lib.hid Q1
    have HQ2 := Lib.hid Q2
    have HQ3 := Lib.hid Q3
    have R0 : ∀ W, Below (w.heap.size + 2) w2 W → W.cell? ⟨w.heap.size, 0, none⟩ = some (.string m.name) := fun W hW => (HQ1.out.to hW (by omega)).at_ 0 rfl
    have R1 : ∀ W, Below (w.heap.size + 2) w2 W → W.cell? ⟨w.heap.size, 1, none⟩ = some (.int .i64 b.rs.length) := fun W hW => (HQ1.out.to hW (by omega)).at_ 1 rfl
    have R2 : ∀ W, Below (w.heap.size + 2) w2 W → W.cell? ⟨w.heap.size, 2, none⟩ = some (.slice A m.l.length q) := fun W hW => (HQ1.out.to hW (by omega)).at_ 2 rfl
    have R3 : ∀ W, Below (w.heap.size + 2) w2 W → W.cell? ⟨w.heap.size, 3, none⟩ = some (.string k.bob) := fun W hW => (HQ1.out.to hW (by omega)).at_ 3 rfl
    have R4 : ∀ W, Below (w.heap.size + 2) w2 W → W.cell? ⟨w.heap.size, 4, none⟩ = some (.string k.single) := fun W hW => (HQ1.out.to hW (by omega)).at_ 4 rfl
    have R5 : ∀ W, Below (w.heap.size + 2) w2 W → W.cell? ⟨w.heap.size, 5, none⟩ = some (.int .i64 b.st) := fun W hW => (HQ1.out.to hW (by omega)).at_ 5 rfl
    have R6 : ∀ W, Below (w.heap.size + 2) w2 W → W.cell? ⟨w.heap.size, 6, none⟩ = some (.string b.call) := fun W hW => (HQ1.out.to hW (by omega)).at_ 6 rfl
    have R7 : ∀ W, Below (w.heap.size + 2) w2 W → W.cell? ⟨w.heap.size, 7, none⟩ = some (.string b.tr) := fun W hW => (HQ1.out.to hW (by omega)).at_ 7 rfl
    have R8 : ∀ W, Below (w.heap.size + 2) w2 W → W.cell? ⟨w.heap.size, 8, none⟩ = some (.slice Ar b.rs.length qr) := fun W hW => (HQ1.out.to hW (by omega)).at_ 8 rfl
    have A1' : ∀ W, Below (w.heap.size + 2) w2 W → W.cell? ⟨w.heap.size + 1, 1, none⟩ = some (.int .i64 0) := fun W hW => (HQ2.out.to hW (by omega)).at_ 1 rfl
    have hB2 : w.heap.size + 2 ≤ w2.heap.size := by have := Q3.blk; omega
    have hself : Below (w.heap.size + 2) w2 w2 := Below.refl _ _
    have hd0 : Below w2.heap.size w2 w2.drew := Below.drew (Below.refl _ _)
    have Hww := Lib.hid hww2
    have hRb := Q3.blk
    clear Q1 Q2 Q3 Q4 O1 O2 i0 i1 i2 i3 hww2 hw hw1 hw2 y1
    go_region_held3 (fun W => Below (w.heap.size + 2) w2 W) (first | with_reducible assumption | with_reducible exact Below.drew (by assumption) | with_reducible exact bw9 (by assumption) (Nat.le_refl _) | with_reducible exact bwl (by assumption) hB2 hb3)
      (first | (go_at_call 133; refine (Hst.out _ (bw_to Hww.out hd0)).mono ?_; intro e w3 hq3; (obtain ⟨A3, c3, A4, c4, he3, ho3, ho4, hb3⟩ := hq3); (unfold Bd.v at he3); subst he3; (have R3 := HQ3.out.to (bw_to hd0 hb3) hRb); (obtain ⟨⟨z0, z1, z2, z3, z4, z5, z6, z7, z8⟩, f0, f1, f2, f3, f4, f5, f6, f7, f8⟩ := R3.all9)))
    all_goals
      clear R0 R1 R2 R4 R5 R6 R7 R8 A1'
      have R3 := HQ3.out.to (bw_to hd0 hb3) hRb
      obtain ⟨e0, e1, e2, e3, e4, e5, e6, e7, e8⟩ := R3.e9 (.string m.name) (.int .i64 m.stage) (.slice A3 m.l.length c3) (.string k.bob) (.string k.single) (.int .i64 (stepB m k b.rs.length b).st) (.string (stepB m k b.rs.length b).call) (.string (stepB m k b.rs.length b).tr) (.slice A4 (stepB m k b.rs.length b).rs.length c4)
      have E := Lib.hid (And.intro e0 (And.intro e1 (And.intro e2 (And.intro e3 (And.intro e4 (And.intro e5 (And.intro e6 (And.intro e7 e8))))))))
      have Hown := Lib.hid ho3
      have Hrow := Lib.hid ho4
      have Hbel := Lib.hid (bw_to (bw_to Hww.out hd0) hb3)
      clear e0 e1 e2 e3 e4 e5 e6 e7 e8 R3 z0 z1 z2 z3 z4 z5 z6 z7 z8 ho3 ho4
      go_wp2_with fail
      obtain ⟨e0, e1, e2, e3, e4, e5, e6, e7, e8⟩ := E.out
      refine bodyPost_ret (v := .tuple #[.agg #[.string m.name, .int .i64 m.stage, .slice A3 m.l.length c3, .string k.bob, .string k.single, .int .i64 (stepB m k b.rs.length b).st, .string (stepB m k b.rs.length b).call, .string (stepB m k b.rs.length b).tr, .slice A4 (stepB m k b.rs.length b).rs.length c4], .bool true]) (by simp [results, go_sem, e0, e1, e2, e3, e4, e5, e6, e7, e8]) rfl ⟨A3, c3, A4, c4, rfl, own_base (own9 Hown.out hRb) (by show w.heap.size ≤ w2.heap.size; omega), own_base (own9 Hrow.out hRb) (by show w.heap.size ≤ w2.heap.size; omega), bw9 Hbel.out (by omega)⟩
  | call c =>
    have hcs := callS_act ha
    have hc0 : ((callT c).toList == []) = false := by rw [callT_list]; rfl
    have HLc := Lib.hid (fun W => l24Call_any (callT c) W)
    rw [hcs] at HLc
    unfold Act3.v Act3.c
    go_enter Tryz.func93, Tryz.ntmps93
    go_wp2_with fail
    refine box3 (C := fun W => Calls _ _ _ W _) ?_
    intro wb hw k1 k2 k3 hB0
    have hb : Bc wb w.heap.size [.string m.name, .int .i64 b.rs.length, .slice A m.l.length q, .string k.bob, .string k.single, .int .i64 b.st, .string b.call, .string b.tr, .slice Ar b.rs.length qr] 33 := k1
    have ha2 : Bc wb (w.heap.size + 1) [.int .i64 2, .int .i64 0, .int .i64 0, .string (callT c)] 82 := k2
    obtain ⟨t2, h2⟩ : ∃ t, Bc wb (w.heap.size + 2) [.string ⟨#[]⟩, .int .i64 0, .slice none 0 0, .string ⟨#[]⟩, .string ⟨#[]⟩, .int .i64 0, .string ⟨#[]⟩, .string ⟨#[]⟩, .slice none 0 0] t := ⟨_, k3⟩
    clear k1 k2 k3
    have hz1 := hb.blk
    have hz2 := ha2.blk
    have hz3 := h2.blk
    refine (Hcp.out _ hw).mono ?_; intro e w1 hq1; obtain ⟨A1, c1, A2, c2, he1, ho1, ho2, hb1⟩ := hq1
    unfold Bd.v at he1
    rw [hsg] at he1
    subst he1
    clear hsg
    obtain ⟨g1, rfl, hg1, hg1l⟩ := own_ptrB ho1 (by omega)
    obtain ⟨g2, rfl, hg2, hg2l⟩ := own_ptrB ho2 (by omega)
    have hne : g1 ≠ g2 := by
      rcases own_kinds' ho1 ho2 (by decide) with h | h
      · simp [Value.ownBlock] at h
      · simpa [Value.ownBlock] using h
    have hw1 := bw_to hw hb1
    have P1 := hb.to hb1 hz1
    have P2 := ha2.to hb1 hz2
    have P3 := h2.to hb1 hz3
    clear hb ha2 h2
    go_upto_region 2 with fail
    refine box1 (C := fun W => Code.wp _ _ _ _ W) ?_
    intro w2 hw2 k4 hB02
    have Q4 : Bc w2 w1.heap.size [.string m.name, .int .i64 b.rs.length, .slice (some ⟨g1, 0, none⟩) m.l.length c1, .string k.bob, .string k.single, .int .i64 b.st, .string b.call, .string b.tr, .slice (some ⟨g2, 0, none⟩) b.rs.length c2] 33 := k4
    have Q1 := P1.to hw2 P1.blk
    have Q2 := P2.to hw2 P2.blk
    have Q3 := P3.to hw2 P3.blk
    have O1 := own_to ho1 hw2
    have O2 := own_to ho2 hw2
    have hww2 := bw_to hw1 hw2
    have hG := Q4.blk
    have i0 := Q2.at_ 0 rfl
    have i1 := Q2.at_ 1 rfl
    have i2 := Q2.at_ 2 rfl
    have i3 := Q2.at_ 3 rfl
    clear k4 P1 P2 P3 ho1 ho2 hb1 hB02 hB0
    have y1 := Q1.at_ 1 rfl
    have f6 := Q4.frz 6
    have x6 := Q4.at_ 6 rfl
    go_upto_region 11 with (go_at_call 43; refine (l1In_any _ _ _ _).mono ?_; rintro e w' ⟨rfl, rfl⟩)
    have U4 := Q4.set 6 (.string (callT c))
    have U2 := Q2.same (W' := w2.setCell ⟨w1.heap.size, 6, none⟩ (.string (callT c))) (set_othB (by omega))
    have U3 := Q3.same (W' := w2.setCell ⟨w1.heap.size, 6, none⟩ (.string (callT c))) (set_othB (by omega))
    have V1 := own_blkB (w' := w2.setCell ⟨w1.heap.size, 6, none⟩ (.string (callT c))) O1 (set_othB (by omega))
    have V2 := own_blkB (w' := w2.setCell ⟨w1.heap.size, 6, none⟩ (.string (callT c))) O2 (set_othB (by omega))
    have VB := grow_set (g := w1.heap.size) (j := 6) hww2 (by omega) (.string (callT c))
    obtain ⟨wa, hwa⟩ : ∃ wa, wa = w2.setCell ⟨w1.heap.size, 6, none⟩ (.string (callT c)) := ⟨_, rfl⟩
    rw [← hwa] at U4 U2 U3 V1 V2 VB ⊢
    have HU := Lib.hid (And.intro U4 (And.intro U2 (And.intro U3 (And.intro V1 (And.intro V2 VB)))))
    clear hwa f6 x6 y1 i0 i1 i2 i3 Q1 Q2 Q3 Q4 O1 O2 U4 U2 U3 V1 V2 VB
    have hRb := HU.out.2.2.1.blk
    have hGa := HU.out.1.blk
    have hAa := HU.out.2.1.blk
    have F0 : ∀ W, Kp wa (w.heap.size + 2) W → W.cell? ⟨w1.heap.size, 0, none⟩ = some (.string m.name) := fun W hW => (HU.out.1.same (hW.blk _ hGa (by omega))).at_ 0 rfl
    have F1 : ∀ W, Kp wa (w.heap.size + 2) W → W.cell? ⟨w1.heap.size, 1, none⟩ = some (.int .i64 b.rs.length) := fun W hW => (HU.out.1.same (hW.blk _ hGa (by omega))).at_ 1 rfl
    have F2 : ∀ W, Kp wa (w.heap.size + 2) W → W.cell? ⟨w1.heap.size, 2, none⟩ = some (.slice (some ⟨g1, 0, none⟩) m.l.length c1) := fun W hW => (HU.out.1.same (hW.blk _ hGa (by omega))).at_ 2 rfl
    have F3 : ∀ W, Kp wa (w.heap.size + 2) W → W.cell? ⟨w1.heap.size, 3, none⟩ = some (.string k.bob) := fun W hW => (HU.out.1.same (hW.blk _ hGa (by omega))).at_ 3 rfl
    have F4 : ∀ W, Kp wa (w.heap.size + 2) W → W.cell? ⟨w1.heap.size, 4, none⟩ = some (.string k.single) := fun W hW => (HU.out.1.same (hW.blk _ hGa (by omega))).at_ 4 rfl
    have F5 : ∀ W, Kp wa (w.heap.size + 2) W → W.cell? ⟨w1.heap.size, 5, none⟩ = some (.int .i64 b.st) := fun W hW => (HU.out.1.same (hW.blk _ hGa (by omega))).at_ 5 rfl
    have F6 : ∀ W, Kp wa (w.heap.size + 2) W → W.cell? ⟨w1.heap.size, 6, none⟩ = some (.string (callT c)) := fun W hW => (HU.out.1.same (hW.blk _ hGa (by omega))).at_ 6 rfl
    have F7 : ∀ W, Kp wa (w.heap.size + 2) W → W.cell? ⟨w1.heap.size, 7, none⟩ = some (.string b.tr) := fun W hW => (HU.out.1.same (hW.blk _ hGa (by omega))).at_ 7 rfl
    have F8 : ∀ W, Kp wa (w.heap.size + 2) W → W.cell? ⟨w1.heap.size, 8, none⟩ = some (.slice (some ⟨g2, 0, none⟩) b.rs.length c2) := fun W hW => (HU.out.1.same (hW.blk _ hGa (by omega))).at_ 8 rfl
    have G1 : ∀ W, Kp wa (w.heap.size + 2) W → W.cell? ⟨w.heap.size + 1, 1, none⟩ = some (.int .i64 0) := fun W hW => (HU.out.2.1.same (hW.blk _ hAa (by omega))).at_ 1 rfl
    have G3 : ∀ W, Kp wa (w.heap.size + 2) W → W.cell? ⟨w.heap.size + 1, 3, none⟩ = some (.string (callT c)) := fun W hW => (HU.out.2.1.same (hW.blk _ hAa (by omega))).at_ 3 rfl
    obtain ⟨⟨z0, z1, z2, z3, z4, z5, z6, z7, z8⟩, f0, f1, f2, f3, f4, f5, f6, f7, f8⟩ := HU.out.2.2.1.all9
    have hk0 : Kp wa (w.heap.size + 2) wa := Kp.refl _ _
    go_region_held3 (fun W => Kp wa (w.heap.size + 2) W) (first | with_reducible assumption | with_reducible exact Kp.drew (by assumption) | with_reducible exact Kp.put9 (by assumption) | with_reducible exact Kp.drew (Kp.put9 (by assumption)))
      (first | (go_at_call 119; refine (HLc.out _).mono ?_; rintro e w' ⟨rfl, rfl⟩))
    clear F0 F1 F2 F3 F4 F5 F6 F7 F8 G1 G3 z0 z1 z2 z3 z4 z5 z6 z7 z8 f0 f1 f2 f3 f4 f5 f6 f7 f8
    all_goals
      obtain ⟨e0, e1, e2, e3, e4, e5, e6, e7, e8⟩ := HU.out.2.2.1.e9 (.string m.name) (.int .i64 b.rs.length) (.slice (some ⟨g1, 0, none⟩) m.l.length c1) (.string k.bob) (.string k.single) (.int .i64 b.st) (.string (callT c)) (.string b.tr) (.slice (some ⟨g2, 0, none⟩) b.rs.length c2)
      have E := Lib.hid (And.intro e0 (And.intro e1 (And.intro e2 (And.intro e3 (And.intro e4 (And.intro e5 (And.intro e6 (And.intro e7 e8))))))))
      clear e0 e1 e2 e3 e4 e5 e6 e7 e8 hk0
      go_wp2_with fail
      obtain ⟨e0, e1, e2, e3, e4, e5, e6, e7, e8⟩ := E.out
      refine bodyPost_ret (v := .tuple #[.agg #[.string m.name, .int .i64 b.rs.length, .slice (some ⟨g1, 0, none⟩) m.l.length c1, .string k.bob, .string k.single, .int .i64 b.st, .string (callT c), .string b.tr, .slice (some ⟨g2, 0, none⟩) b.rs.length c2], .bool true]) (by simp [results, go_sem, e0, e1, e2, e3, e4, e5, e6, e7, e8]) rfl ⟨some ⟨g1, 0, none⟩, c1, some ⟨g2, 0, none⟩, c2, ?_, own_to (own_base (own9 HU.out.2.2.2.1 (by omega)) (by omega)) (Below.drew (Below.refl _ _)), ?_, Below.drew (bw9 HU.out.2.2.2.2.2 (by omega))⟩
      · unfold Bd.v doB callB; simp only; rw [Hsg.out]
      · unfold doB callB
        exact own_to (own_base (own9 HU.out.2.2.2.2.1 (by omega)) (by omega)) (Below.drew (Below.refl _ _))
  | deaf i =>
    obtain ⟨j, hj⟩ : ∃ j : Nat, (i : Int) = (j : Int) + 1 := ⟨i - 1, by have := ha.1; omega⟩
    have hjl : j < b.rs.length := by have := ha.2; omega
    have HB : Hid (deafB b i = { b with rs := b.rs.set j ((b.rs[j]).1, true) }) := Lib.hid (by
      unfold deafB
      rw [show i - 1 = j by omega, List.getD_eq_getElem?_getD, List.getElem?_eq_getElem hjl]
      rfl)
    have HE := Lib.hid (rs_set1 hjl true)
    have hib : decide (1 ≤ (i : Int) ∧ (i : Int) ≤ (b.rs.length : Int)) = true := decide_eq_true (by have := ha.1; have := ha.2; omega)
    have wi : IntKind.i64.wrap ((i : Int) - 1) = (j : Int) := by rw [IntWalk.i64_in _ ⟨by omega, by have := ha.2; omega⟩]; omega
    have bi : (j : Int) < (b.rs.length : Int) := by omega
    have Hj := Lib.hid hj
    clear hj ha
    unfold Act3.v Act3.c
    go_enter Tryz.func93, Tryz.ntmps93
    go_wp2_with fail
    refine box3 (C := fun W => Calls _ _ _ W _) ?_
    intro wb hw k1 k2 k3 hB0
    have hb : Bc wb w.heap.size [.string m.name, .int .i64 b.rs.length, .slice A m.l.length q, .string k.bob, .string k.single, .int .i64 b.st, .string b.call, .string b.tr, .slice Ar b.rs.length qr] 33 := k1
    have ha2 : Bc wb (w.heap.size + 1) [.int .i64 3, .int .i64 i, .int .i64 0, .string ⟨#[]⟩] 82 := k2
    obtain ⟨t2, h2⟩ : ∃ t, Bc wb (w.heap.size + 2) [.string ⟨#[]⟩, .int .i64 0, .slice none 0 0, .string ⟨#[]⟩, .string ⟨#[]⟩, .int .i64 0, .string ⟨#[]⟩, .string ⟨#[]⟩, .slice none 0 0] t := ⟨_, k3⟩
    clear k1 k2 k3
    have hz1 := hb.blk
    have hz2 := ha2.blk
    have hz3 := h2.blk
    refine (Hcp.out _ hw).mono ?_; intro e w1 hq1; obtain ⟨A1, c1, A2, c2, he1, ho1, ho2, hb1⟩ := hq1
    unfold Bd.v at he1
    rw [hsg] at he1
    subst he1
    clear hsg
    obtain ⟨g1, rfl, hg1, hg1l⟩ := own_ptrB ho1 (by omega)
    obtain ⟨g2, rfl, hg2, hg2l⟩ := own_ptrB ho2 (by omega)
    have hne : g1 ≠ g2 := by
      rcases own_kinds' ho1 ho2 (by decide) with h | h
      · simp [Value.ownBlock] at h
      · simpa [Value.ownBlock] using h
    have hw1 := bw_to hw hb1
    have P1 := hb.to hb1 hz1
    have P2 := ha2.to hb1 hz2
    have P3 := h2.to hb1 hz3
    clear hb ha2 h2
    go_upto_region 2 with fail
    refine box1 (C := fun W => Code.wp _ _ _ _ W) ?_
    intro w2 hw2 k4 hB02
    have Q4 : Bc w2 w1.heap.size [.string m.name, .int .i64 b.rs.length, .slice (some ⟨g1, 0, none⟩) m.l.length c1, .string k.bob, .string k.single, .int .i64 b.st, .string b.call, .string b.tr, .slice (some ⟨g2, 0, none⟩) b.rs.length c2] 33 := k4
    have Q1 := P1.to hw2 P1.blk
    have Q2 := P2.to hw2 P2.blk
    have Q3 := P3.to hw2 P3.blk
    have O1 := own_to ho1 hw2
    have O2 := own_to ho2 hw2
    have hww2 := bw_to hw1 hw2
    have hG := Q4.blk
    have i0 := Q2.at_ 0 rfl
    have i1 := Q2.at_ 1 rfl
    have i2 := Q2.at_ 2 rfl
    have i3 := Q2.at_ 3 rfl
    clear k4 P1 P2 P3 ho1 ho2 hb1 hB02 hB0
    have y1 := Q1.at_ 1 rfl
    have y8 := Q4.at_ 8 rfl
    obtain ⟨x0, hx0⟩ := own_some O2 (j := j * 2 + 1) (by omega)
    have f0 := O2.frozenAt (j * 2 + 1)
    go_upto_region 18 with (go_at_call 43; refine (l1In_any _ _ _ _).mono ?_; rintro e w' ⟨rfl, rfl⟩; rw [hib])
    have U4 := Q4.same (W' := w2.setCell ⟨g2, j * 2 + 1, none⟩ (.bool true)) (set_othB (by omega))
    have U3 := Q3.same (W' := w2.setCell ⟨g2, j * 2 + 1, none⟩ (.bool true)) (set_othB (by omega))
    have V1 := own_blkB (w' := w2.setCell ⟨g2, j * 2 + 1, none⟩ (.bool true)) O1 (set_othB hne)
    have V2 := own_set O2 (j * 2 + 1) (.bool true)
    rw [HE.out] at V2
    have VB := grow_set (g := g2) (j := j * 2 + 1) hww2 (by omega) (.bool true)
    obtain ⟨wa, hwa⟩ : ∃ wa, wa = w2.setCell ⟨g2, j * 2 + 1, none⟩ (.bool true) := ⟨_, rfl⟩
    rw [← hwa] at U4 U3 V1 V2 VB ⊢
    clear hwa f0 hx0 y8 y1 i0 i1 i2 i3 Q1 Q2 Q3 Q4 O1 O2
    have hls : (b.rs.set j ((b.rs[j]).1, true)).length = b.rs.length := List.length_set ..
    have HLs := Lib.hid hls
    clear hls
    obtain ⟨⟨y0, y1, y2, y3, y4, y5, y6, y7, y8⟩, _⟩ := U4.all9
    obtain ⟨_, f0, f1, f2, f3, f4, f5, f6, f7, f8⟩ := U3.all9
    obtain ⟨e0, e1, e2, e3, e4, e5, e6, e7, e8⟩ := U3.e9 (.string m.name) (.int .i64 b.rs.length) (.slice (some ⟨g1, 0, none⟩) m.l.length c1) (.string k.bob) (.string k.single) (.int .i64 b.st) (.string b.call) (.string b.tr) (.slice (some ⟨g2, 0, none⟩) b.rs.length c2)
    have E := Lib.hid (And.intro e0 (And.intro e1 (And.intro e2 (And.intro e3 (And.intro e4 (And.intro e5 (And.intro e6 (And.intro e7 e8))))))))
    have Hown := Lib.hid V1
    have Hrow := Lib.hid V2
    have Hbel := Lib.hid VB
    clear e0 e1 e2 e3 e4 e5 e6 e7 e8
    go_wp2_with fail
    obtain ⟨e0, e1, e2, e3, e4, e5, e6, e7, e8⟩ := E.out
    refine bodyPost_ret (v := .tuple #[.agg #[.string m.name, .int .i64 b.rs.length, .slice (some ⟨g1, 0, none⟩) m.l.length c1, .string k.bob, .string k.single, .int .i64 b.st, .string b.call, .string b.tr, .slice (some ⟨g2, 0, none⟩) b.rs.length c2], .bool true]) (by simp [results, go_sem, e0, e1, e2, e3, e4, e5, e6, e7, e8]) rfl ⟨some ⟨g1, 0, none⟩, c1, some ⟨g2, 0, none⟩, c2, ?_, own_base (own9 Hown.out (by omega)) (by omega), ?_, bw9 Hbel.out (by omega)⟩
    · unfold Bd.v doB; simp only; rw [HB.out]; simp only; rw [HLs.out, Hsg.out]
    · unfold doB; simp only; rw [HB.out]; simp only; rw [HLs.out]
      exact own_base (own9 Hrow.out (by omega)) (by omega)
end Go.Proofs.YtimeecimaokldaaGreatDoor

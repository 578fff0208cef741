/- Contract: an act of a band, the program's (the three kinds that a touch makes). (Printed by a program: tools/mkBX6.py.) -/
import Derived.Test.YtimeecimaokldaaGreatDoorPk23
import Derived.Laws.StructEq
namespace Go.Proofs.YtimeecimaokldaaGreatDoor
open Go Go.RowKit
set_option linter.unusedVariables false
set_option linter.unusedSimpArgs false

/-- What a function that does an act leaves. -/
def DoPost (w : World) (m : Mt) (k : Cl) (b : Bd) (e : Ending) (w' : World) : Prop :=
  ∃ A1 c1 A2 c2, e = .returned (.tuple #[b.v m k (.slice A1 m.l.length c1) (.slice A2 b.rs.length c2), .bool true]) ∧ w'.ownsRow w.heap.size 9 1 (.slice A1 m.l.length c1) m.l.length (m.l.map Value.string) ∧ w'.ownsRow w.heap.size 104 2 (.slice A2 b.rs.length c2) b.rs.length (b.rs.flatMap rsC) ∧ Below w.heap.size w w'
theorem callS_act {c : UInt8} (h : c = 112 ∨ c = 98 ∨ c = 115) : callS (callT c) = true := by
  rw [callS_def, callT_is, callT_is, callT_is]
  rcases h with rfl | rfl | rfl <;> decide
theorem isBellB_any (n b : Int) (w : World) : Calls Tryz.prog 49 #[.int .i64 n, .int .i64 b] w fun e w' => e = .returned (.bool (decide (1 ≤ b ∧ b ≤ n))) ∧ w = w' := by
  by_cases h1 : 1 ≤ b
  · by_cases h2 : b ≤ n
    all_goals
      go_enter Tryz.func49, Tryz.ntmps49
      go_wp2_with fail
      go_ret
      exact ⟨by simp [h1, h2], rfl⟩
  · go_enter Tryz.func49, Tryz.ntmps49
    go_wp2_with fail
    go_ret
    exact ⟨by rw [decide_eq_false (show ¬ 1 ≤ b by omega)]; rfl, rfl⟩
def Act3.v (a : Act3) : Value := .agg a.c.toArray

set_option maxRecDepth 100000 in
set_option maxHeartbeats 8000000 in
theorem done_any (m : Mt) (k : Cl) (n : Nat) (b : Bd) (a : Act3) (v r : Value) (w : World) (hg : BGood m k n b) (ha : a.ok n) (hv : Strs w v m.l) (hn : NilOk v) (hr : Sl w 2 r b.rs.length (b.rs.flatMap rsC)) (hnr : NilOk r) : Calls Tryz.prog 100 #[b.v m k v r, a.v] w (DoPost w m k (doB m k n b a)) := by
  have hl := hg.c.m.len
  have hn8 := hg.c.m.hi
  have hn3 := hg.c.m.lo
  have hbl := hg.len
  have hsg := hg.c.m.st
  have Hcp := Lib.hid (fun W (hW : Below w.heap.size w W) => copyBand_any m k b v r W (hv.to hW) hn (hr.to hW) hnr (by omega) (by omega))
  have Hst := Lib.hid (fun W (hW : Below w.heap.size w W) => stepped_any m k n b v r W hg (hv.to hW) hn (hr.to hW) hnr)
  clear hg
  subst hbl
  obtain ⟨A, q, rfl, _⟩ := hv
  obtain ⟨Ar, qr, rfl, _⟩ := hr
  unfold Bd.v at *
  rw [hsg] at Hcp Hst ⊢
  have Hsg := Lib.hid hsg
  cases a with
  | step =>
    unfold Act3.v Act3.c
    go_enter Tryz.func100, Tryz.ntmps100
    go_wp2_with fail
    refine box3 (C := fun W => Calls _ _ _ W _) ?_
    intro wb hw k1 k2 k3 hB0
    have hb : Bc wb w.heap.size [.string m.name, .int .i64 b.rs.length, .slice A m.l.length q, .string k.bob, .string k.single, .int .i64 b.st, .string b.call, .string b.tr, .slice Ar b.rs.length qr] 33 := k1
    have ha2 : Bc wb (w.heap.size + 1) [.int .i64 1, .int .i64 0, .int .i64 0, .string ⟨#[]⟩] 82 := k2
    obtain ⟨t2, h2⟩ : ∃ t, Bc wb (w.heap.size + 2) [.string ⟨#[]⟩, .int .i64 0, .slice none 0 0, .string ⟨#[]⟩, .string ⟨#[]⟩, .int .i64 0, .string ⟨#[]⟩, .string ⟨#[]⟩, .slice none 0 0] t := ⟨_, k3⟩
    clear k1 k2 k3
    have hz1 := hb.blk
    have hz2 := ha2.blk
    have hz3 := h2.blk
    refine (Hcp.out _ hw).mono ?_; intro e w1 hq1; obtain ⟨A1, c1, A2, c2, he1, ho1, ho2, hb1⟩ := hq1
    unfold Bd.v at he1
    rw [hsg] at he1
    subst he1
    clear hsg
    obtain ⟨g1, rfl, hg1, hg1l⟩ := own_ptrB ho1 (by omega)
    obtain ⟨g2, rfl, hg2, hg2l⟩ := own_ptrB ho2 (by omega)
    have hne : g1 ≠ g2 := by
      rcases own_kinds' ho1 ho2 (by decide) with h | h
      · simp [Value.ownBlock] at h
      · simpa [Value.ownBlock] using h
    have hw1 := bw_to hw hb1
    have P1 := hb.to hb1 hz1
    have P2 := ha2.to hb1 hz2
    have P3 := h2.to hb1 hz3
    clear hb ha2 h2
    go_upto_region 4 with fail
    refine box1 (C := fun W => Code.wp _ _ _ _ W) ?_
    intro w2 hw2 k4 hB02
    have Q4 : Bc w2 w1.heap.size [.string m.name, .int .i64 b.rs.length, .slice (some ⟨g1, 0, none⟩) m.l.length c1, .string k.bob, .string k.single, .int .i64 b.st, .string b.call, .string b.tr, .slice (some ⟨g2, 0, none⟩) b.rs.length c2] 33 := k4
    have Q1 := P1.to hw2 P1.blk
    have Q2 := P2.to hw2 P2.blk
    have Q3 := P3.to hw2 P3.blk
    have O1 := own_to ho1 hw2
    have O2 := own_to ho2 hw2
    have hww2 := bw_to hw1 hw2
    have hG := Q4.blk
    have i0 := Q2.at_ 0 rfl
    have i1 := Q2.at_ 1 rfl
    have i2 := Q2.at_ 2 rfl
    have i3 := Q2.at_ 3 rfl
    clear k4 P1 P2 P3 ho1 ho2 hb1 hB02 hB0
    obtain ⟨⟨y0, y1, y2, y3, y4, y5, y6, y7, y8⟩, _⟩ := Q1.all9
    go_wp2_with fail
    refine (Hst.out _ hww2).mono ?_; intro e w3 hq3; obtain ⟨A3, c3, A4, c4, he3, ho3, ho4, hb3⟩ := hq3
    unfold Bd.v at he3
    subst he3
    have R3 := Q3.to hb3 Q3.blk
    obtain ⟨_, f0, f1, f2, f3, f4, f5, f6, f7, f8⟩ := R3.all9
    obtain ⟨e0, e1, e2, e3, e4, e5, e6, e7, e8⟩ := R3.e9 (.string m.name) (.int .i64 m.stage) (.slice A3 m.l.length c3) (.string k.bob) (.string k.single) (.int .i64 (stepB m k b.rs.length b).st) (.string (stepB m k b.rs.length b).call) (.string (stepB m k b.rs.length b).tr) (.slice A4 (stepB m k b.rs.length b).rs.length c4)
    have E := Lib.hid (And.intro e0 (And.intro e1 (And.intro e2 (And.intro e3 (And.intro e4 (And.intro e5 (And.intro e6 (And.intro e7 e8))))))))
    have Hown := Lib.hid ho3
    have Hrow := Lib.hid ho4
    have Hbel := Lib.hid (bw_to hww2 hb3)
    have hRb := Q3.blk
    obtain ⟨z0, z1, z2, z3, z4, z5, z6, z7, z8⟩ := R3.all9.1
    clear e0 e1 e2 e3 e4 e5 e6 e7 e8 y0 y1 y2 y3 y4 y5 y6 y7 y8 i0 i1 i2 i3
    go_wp2_with fail
    obtain ⟨e0, e1, e2, e3, e4, e5, e6, e7, e8⟩ := E.out
    refine bodyPost_ret (v := .tuple #[.agg #[.string m.name, .int .i64 m.stage, .slice A3 m.l.length c3, .string k.bob, .string k.single, .int .i64 (stepB m k b.rs.length b).st, .string (stepB m k b.rs.length b).call, .string (stepB m k b.rs.length b).tr, .slice A4 (stepB m k b.rs.length b).rs.length c4], .bool true]) (by simp [results, go_sem, e0, e1, e2, e3, e4, e5, e6, e7, e8]) rfl ⟨A3, c3, A4, c4, rfl, own_base (own9 Hown.out hRb) (by omega), own_base (own9 Hrow.out hRb) (by omega), bw9 Hbel.out (by omega)⟩
  | call c =>
    have hcs := callS_act ha
    unfold Act3.v Act3.c
    go_enter Tryz.func100, Tryz.ntmps100
    go_wp2_with fail
    refine box3 (C := fun W => Calls _ _ _ W _) ?_
    intro wb hw k1 k2 k3 hB0
    have hb : Bc wb w.heap.size [.string m.name, .int .i64 b.rs.length, .slice A m.l.length q, .string k.bob, .string k.single, .int .i64 b.st, .string b.call, .string b.tr, .slice Ar b.rs.length qr] 33 := k1
    have ha2 : Bc wb (w.heap.size + 1) [.int .i64 2, .int .i64 0, .int .i64 0, .string (callT c)] 82 := k2
    obtain ⟨t2, h2⟩ : ∃ t, Bc wb (w.heap.size + 2) [.string ⟨#[]⟩, .int .i64 0, .slice none 0 0, .string ⟨#[]⟩, .string ⟨#[]⟩, .int .i64 0, .string ⟨#[]⟩, .string ⟨#[]⟩, .slice none 0 0] t := ⟨_, k3⟩
    clear k1 k2 k3
    have hz1 := hb.blk
    have hz2 := ha2.blk
    have hz3 := h2.blk
    refine (Hcp.out _ hw).mono ?_; intro e w1 hq1; obtain ⟨A1, c1, A2, c2, he1, ho1, ho2, hb1⟩ := hq1
    unfold Bd.v at he1
    rw [hsg] at he1
    subst he1
    clear hsg
    obtain ⟨g1, rfl, hg1, hg1l⟩ := own_ptrB ho1 (by omega)
    obtain ⟨g2, rfl, hg2, hg2l⟩ := own_ptrB ho2 (by omega)
    have hne : g1 ≠ g2 := by
      rcases own_kinds' ho1 ho2 (by decide) with h | h
      · simp [Value.ownBlock] at h
      · simpa [Value.ownBlock] using h
    have hw1 := bw_to hw hb1
    have P1 := hb.to hb1 hz1
    have P2 := ha2.to hb1 hz2
    have P3 := h2.to hb1 hz3
    clear hb ha2 h2
    go_upto_region 4 with fail
    refine box1 (C := fun W => Code.wp _ _ _ _ W) ?_
    intro w2 hw2 k4 hB02
    have Q4 : Bc w2 w1.heap.size [.string m.name, .int .i64 b.rs.length, .slice (some ⟨g1, 0, none⟩) m.l.length c1, .string k.bob, .string k.single, .int .i64 b.st, .string b.call, .string b.tr, .slice (some ⟨g2, 0, none⟩) b.rs.length c2] 33 := k4
    have Q1 := P1.to hw2 P1.blk
    have Q2 := P2.to hw2 P2.blk
    have Q3 := P3.to hw2 P3.blk
    have O1 := own_to ho1 hw2
    have O2 := own_to ho2 hw2
    have hww2 := bw_to hw1 hw2
    have hG := Q4.blk
    have i0 := Q2.at_ 0 rfl
    have i1 := Q2.at_ 1 rfl
    have i2 := Q2.at_ 2 rfl
    have i3 := Q2.at_ 3 rfl
    clear k4 P1 P2 P3 ho1 ho2 hb1 hB02 hB0
    have f6 := Q4.frz 6
    have x6 := Q4.at_ 6 rfl
    go_upto_region 16 with (go_at_call 114; refine (isCall_any _ _).mono ?_; rintro e w' ⟨rfl, rfl⟩; rw [hcs])
    have U4 := Q4.set 6 (.string (callT c))
    have U3 := Q3.same (W' := w2.setCell ⟨w1.heap.size, 6, none⟩ (.string (callT c))) (set_othB (by omega))
    have V1 := own_blkB (w' := w2.setCell ⟨w1.heap.size, 6, none⟩ (.string (callT c))) O1 (set_othB (by omega))
    have V2 := own_blkB (w' := w2.setCell ⟨w1.heap.size, 6, none⟩ (.string (callT c))) O2 (set_othB (by omega))
    have VB := grow_set (g := w1.heap.size) (j := 6) hww2 (by omega) (.string (callT c))
    obtain ⟨wa, hwa⟩ : ∃ wa, wa = w2.setCell ⟨w1.heap.size, 6, none⟩ (.string (callT c)) := ⟨_, rfl⟩
    rw [← hwa] at U4 U3 V1 V2 VB ⊢
    clear hwa f6 x6 i0 i1 i2 i3 Q1 Q2 Q3 Q4 O1 O2
    obtain ⟨⟨y0, y1, y2, y3, y4, y5, y6, y7, y8⟩, _⟩ := U4.all9
    obtain ⟨_, f0, f1, f2, f3, f4, f5, f6, f7, f8⟩ := U3.all9
    obtain ⟨e0, e1, e2, e3, e4, e5, e6, e7, e8⟩ := U3.e9 (.string m.name) (.int .i64 b.rs.length) (.slice (some ⟨g1, 0, none⟩) m.l.length c1) (.string k.bob) (.string k.single) (.int .i64 b.st) (.string (callT c)) (.string b.tr) (.slice (some ⟨g2, 0, none⟩) b.rs.length c2)
    have E := Lib.hid (And.intro e0 (And.intro e1 (And.intro e2 (And.intro e3 (And.intro e4 (And.intro e5 (And.intro e6 (And.intro e7 e8))))))))
    have Hown := Lib.hid V1
    have Hrow := Lib.hid V2
    have Hbel := Lib.hid VB
    clear e0 e1 e2 e3 e4 e5 e6 e7 e8
    go_wp2_with fail
    obtain ⟨e0, e1, e2, e3, e4, e5, e6, e7, e8⟩ := E.out
    refine bodyPost_ret (v := .tuple #[.agg #[.string m.name, .int .i64 b.rs.length, .slice (some ⟨g1, 0, none⟩) m.l.length c1, .string k.bob, .string k.single, .int .i64 b.st, .string (callT c), .string b.tr, .slice (some ⟨g2, 0, none⟩) b.rs.length c2], .bool true]) (by simp [results, go_sem, e0, e1, e2, e3, e4, e5, e6, e7, e8]) rfl ⟨some ⟨g1, 0, none⟩, c1, some ⟨g2, 0, none⟩, c2, ?_, own_base (own9 Hown.out (by omega)) (by omega), ?_, bw9 Hbel.out (by omega)⟩
    · unfold Bd.v doB callB; simp only; rw [Hsg.out]
    · unfold doB callB
      exact own_base (own9 Hrow.out (by omega)) (by omega)
  | deaf i =>
    obtain ⟨j, hj⟩ : ∃ j : Nat, (i : Int) = (j : Int) + 1 := ⟨i - 1, by have := ha.1; omega⟩
    have hjl : j < b.rs.length := by have := ha.2; omega
    have HB : Hid (deafB b i = { b with rs := b.rs.set j ((b.rs[j]).1, true) }) := Lib.hid (by
      unfold deafB
      rw [show i - 1 = j by omega, List.getD_eq_getElem?_getD, List.getElem?_eq_getElem hjl]
      rfl)
    have HE := Lib.hid (rs_set1 hjl true)
    have hib : decide (1 ≤ (i : Int) ∧ (i : Int) ≤ (b.rs.length : Int)) = true := decide_eq_true (by have := ha.1; have := ha.2; omega)
    have wi : IntKind.i64.wrap ((i : Int) - 1) = (j : Int) := by rw [IntWalk.i64_in _ ⟨by omega, by have := ha.2; omega⟩]; omega
    have bi : (j : Int) < (b.rs.length : Int) := by omega
    have Hha := Lib.hid ha
    clear ha
    have Hj := Lib.hid hj
    clear hj
    unfold Act3.v Act3.c
    go_enter Tryz.func100, Tryz.ntmps100
    go_wp2_with fail
    refine box3 (C := fun W => Calls _ _ _ W _) ?_
    intro wb hw k1 k2 k3 hB0
    have hb : Bc wb w.heap.size [.string m.name, .int .i64 b.rs.length, .slice A m.l.length q, .string k.bob, .string k.single, .int .i64 b.st, .string b.call, .string b.tr, .slice Ar b.rs.length qr] 33 := k1
    have ha2 : Bc wb (w.heap.size + 1) [.int .i64 3, .int .i64 i, .int .i64 0, .string ⟨#[]⟩] 82 := k2
    obtain ⟨t2, h2⟩ : ∃ t, Bc wb (w.heap.size + 2) [.string ⟨#[]⟩, .int .i64 0, .slice none 0 0, .string ⟨#[]⟩, .string ⟨#[]⟩, .int .i64 0, .string ⟨#[]⟩, .string ⟨#[]⟩, .slice none 0 0] t := ⟨_, k3⟩
    clear k1 k2 k3
    have hz1 := hb.blk
    have hz2 := ha2.blk
    have hz3 := h2.blk
    refine (Hcp.out _ hw).mono ?_; intro e w1 hq1; obtain ⟨A1, c1, A2, c2, he1, ho1, ho2, hb1⟩ := hq1
    unfold Bd.v at he1
    rw [hsg] at he1
    subst he1
    clear hsg
    obtain ⟨g1, rfl, hg1, hg1l⟩ := own_ptrB ho1 (by omega)
    obtain ⟨g2, rfl, hg2, hg2l⟩ := own_ptrB ho2 (by omega)
    have hne : g1 ≠ g2 := by
      rcases own_kinds' ho1 ho2 (by decide) with h | h
      · simp [Value.ownBlock] at h
      · simpa [Value.ownBlock] using h
    have hw1 := bw_to hw hb1
    have P1 := hb.to hb1 hz1
    have P2 := ha2.to hb1 hz2
    have P3 := h2.to hb1 hz3
    clear hb ha2 h2
    go_upto_region 4 with fail
    refine box1 (C := fun W => Code.wp _ _ _ _ W) ?_
    intro w2 hw2 k4 hB02
    have Q4 : Bc w2 w1.heap.size [.string m.name, .int .i64 b.rs.length, .slice (some ⟨g1, 0, none⟩) m.l.length c1, .string k.bob, .string k.single, .int .i64 b.st, .string b.call, .string b.tr, .slice (some ⟨g2, 0, none⟩) b.rs.length c2] 33 := k4
    have Q1 := P1.to hw2 P1.blk
    have Q2 := P2.to hw2 P2.blk
    have Q3 := P3.to hw2 P3.blk
    have O1 := own_to ho1 hw2
    have O2 := own_to ho2 hw2
    have hww2 := bw_to hw1 hw2
    have hG := Q4.blk
    have i0 := Q2.at_ 0 rfl
    have i1 := Q2.at_ 1 rfl
    have i2 := Q2.at_ 2 rfl
    have i3 := Q2.at_ 3 rfl
    clear k4 P1 P2 P3 ho1 ho2 hb1 hB02 hB0
    have y8 := Q4.at_ 8 rfl
    obtain ⟨x0, hx0⟩ := own_some O2 (j := j * 2 + 1) (by omega)
    have f0 := O2.frozenAt (j * 2 + 1)
    go_upto_region 16 with (go_at_call 49; refine (isBellB_any _ _ _).mono ?_; rintro e w' ⟨rfl, rfl⟩; rw [hib])
    have U4 := Q4.same (W' := w2.setCell ⟨g2, j * 2 + 1, none⟩ (.bool true)) (set_othB (by omega))
    have U3 := Q3.same (W' := w2.setCell ⟨g2, j * 2 + 1, none⟩ (.bool true)) (set_othB (by omega))
    have V1 := own_blkB (w' := w2.setCell ⟨g2, j * 2 + 1, none⟩ (.bool true)) O1 (set_othB hne)
    have V2 := own_set O2 (j * 2 + 1) (.bool true)
    rw [HE.out] at V2
    have VB := grow_set (g := g2) (j := j * 2 + 1) hww2 (by omega) (.bool true)
    obtain ⟨wa, hwa⟩ : ∃ wa, wa = w2.setCell ⟨g2, j * 2 + 1, none⟩ (.bool true) := ⟨_, rfl⟩
    rw [← hwa] at U4 U3 V1 V2 VB ⊢
    clear hwa f0 hx0 y8 i0 i1 i2 i3 Q1 Q2 Q3 Q4 O1 O2
    have hls : (b.rs.set j ((b.rs[j]).1, true)).length = b.rs.length := List.length_set ..
    have HLs := Lib.hid hls
    clear hls
    obtain ⟨⟨y0, y1, y2, y3, y4, y5, y6, y7, y8⟩, _⟩ := U4.all9
    obtain ⟨_, f0, f1, f2, f3, f4, f5, f6, f7, f8⟩ := U3.all9
    obtain ⟨e0, e1, e2, e3, e4, e5, e6, e7, e8⟩ := U3.e9 (.string m.name) (.int .i64 b.rs.length) (.slice (some ⟨g1, 0, none⟩) m.l.length c1) (.string k.bob) (.string k.single) (.int .i64 b.st) (.string b.call) (.string b.tr) (.slice (some ⟨g2, 0, none⟩) b.rs.length c2)
    have E := Lib.hid (And.intro e0 (And.intro e1 (And.intro e2 (And.intro e3 (And.intro e4 (And.intro e5 (And.intro e6 (And.intro e7 e8))))))))
    have Hown := Lib.hid V1
    have Hrow := Lib.hid V2
    have Hbel := Lib.hid VB
    clear e0 e1 e2 e3 e4 e5 e6 e7 e8
    go_wp2_with fail
    obtain ⟨e0, e1, e2, e3, e4, e5, e6, e7, e8⟩ := E.out
    refine bodyPost_ret (v := .tuple #[.agg #[.string m.name, .int .i64 b.rs.length, .slice (some ⟨g1, 0, none⟩) m.l.length c1, .string k.bob, .string k.single, .int .i64 b.st, .string b.call, .string b.tr, .slice (some ⟨g2, 0, none⟩) b.rs.length c2], .bool true]) (by simp [results, go_sem, e0, e1, e2, e3, e4, e5, e6, e7, e8]) rfl ⟨some ⟨g1, 0, none⟩, c1, some ⟨g2, 0, none⟩, c2, ?_, own_base (own9 Hown.out (by omega)) (by omega), ?_, bw9 Hbel.out (by omega)⟩
    · unfold Bd.v doB; simp only; rw [HB.out]; simp only; rw [HLs.out, Hsg.out]
    · unfold doB; simp only; rw [HB.out]; simp only; rw [HLs.out]
      exact own_base (own9 Hrow.out (by omega)) (by omega)
end Go.Proofs.YtimeecimaokldaaGreatDoor

/- Contract: the band behind a touch whose calls a bell does not hear, the reference's. -/
import Derived.Test.YtimeecimaokldaaGreatDoorPk32
namespace Go.Proofs.YtimeecimaokldaaGreatDoor
open Go Go.RowKit
set_option linter.unusedVariables false
set_option linter.unusedSimpArgs false

def isCallA : Act3 → Bool
  | .call _ => true
  | _ => false
/-- A deafness ahead of each call. -/
def insD (i : Nat) (l : List Act3) : List Act3 := l.flatMap fun a => (if isCallA a then [.deaf i] else []) ++ [a]
theorem insD_take {i : Nat} {l : List Act3} {p : Nat} (h : p < l.length) : insD i (l.take (p + 1)) = insD i (l.take p) ++ ((if isCallA l[p] then [.deaf i] else []) ++ [l[p]]) := by
  unfold insD
  rw [List.take_succ_eq_append_getElem h, List.flatMap_append]
  simp
theorem insD_rep (i : Nat) : ∀ N : Nat, (List.replicate N Act3.step).flatMap (fun a => (if isCallA a then [Act3.deaf i] else []) ++ [a]) = List.replicate N Act3.step
  | 0 => rfl
  | N + 1 => by rw [List.replicate_succ, List.flatMap_cons, insD_rep i N]; rfl
theorem insD_acts (i N : Nat) : ∀ (l : List UInt8), insD i (actsL N [] l) = actsL N [.deaf i] l
  | [] => rfl
  | c :: l => by
    have ih := insD_acts i N l
    unfold insD at ih ⊢
    rw [actsL, actsL, List.nil_append, List.flatMap_append, ih, List.flatMap_cons]
    congr 1
    rw [insD_rep]
    rfl
theorem insD_few {i : Nat} (l : List Act3) : (insD i l).length ≤ 2 * l.length := by
  unfold insD
  induction l with
  | nil => simp
  | cons a l ih =>
    rw [List.flatMap_cons, List.length_append, List.length_cons]
    have : ((if isCallA a then [Act3.deaf i] else []) ++ [a]).length ≤ 2 := by split <;> simp
    omega
theorem insD_more {i : Nat} (l : List Act3) : l.length ≤ (insD i l).length := by
  unfold insD
  induction l with
  | nil => simp
  | cons a l ih =>
    rw [List.flatMap_cons, List.length_append, List.length_cons, List.length_append, List.length_singleton]
    omega
theorem act_cells2 (a : Act3) : ∃ (K Bl By : Int) (C : ByteArray), a.c = [.int .i64 K, .int .i64 Bl, .int .i64 By, .string C] ∧ isCallA a = decide (K = 2) := by
  cases a
  · exact ⟨1, 0, 0, ⟨#[]⟩, rfl, rfl⟩
  · exact ⟨2, 0, 0, _, rfl, rfl⟩
  · exact ⟨3, _, 0, ⟨#[]⟩, rfl, rfl⟩
set_option maxRecDepth 10000 in
set_option maxHeartbeats 8000000 in
theorem specBandAfter_any (m : Mt) (v : Value) (k : Cl) (t : ByteArray) (bell : Int) (w : World) (h : MethAt w m v) (hn : NilOk v) (hs : MtSmall m) (hk : ClSmall k) (ht : t.size ≤ 1048576) : Calls Tryz.prog 9 #[m.v v, k.v, .string t, .int .i64 bell] w (BaPost w m k t bell) := by
  have Hrt := Lib.hid (fun W (hW : Below w.heap.size w W) => specRingTouch_any m v k t W (h.to hW) hn hs hk ht)
  have H := Lib.hid h
  obtain ⟨A, q, rfl, _⟩ := h.1
  clear h
  by_cases hrt : RtOk m k t
  · have hok := hrt.1
    have hokk := hok
    unfold rtB at hokk
    rw [Bool.and_eq_true] at hokk
    obtain ⟨hcb, htb⟩ := hokk
    obtain ⟨n, hg⟩ := cgood_of hcb
    have hn8 := hg.m.hi
    have hl := hg.m.len
    have hst : m.stage.toNat = n := by rw [hg.m.st]; rfl
    have hsg := hg.m.st
    have ht60 := touch_len htb
    by_cases hbell : 1 ≤ bell ∧ bell ≤ m.stage
    · have hib : decide (1 ≤ bell ∧ bell ≤ m.stage) = true := decide_eq_true hbell
      obtain ⟨i, hi⟩ : ∃ i : Nat, bell = (i : Int) := ⟨bell.toNat, by omega⟩
      subst hi
      have Hac := Lib.hid (fun W (hW : Below w.heap.size w W) => l24Acts_any m (.slice A m.l.length q) t W (H.out.1.to hW) hl.2 ht60)
      have Hnb := Lib.hid (fun W (hW : Below w.heap.size w W) => l24New_any m (.slice A m.l.length q) k n W hg (H.out.1.to hW) hn)
      have Hao := Lib.hid (touch_acts (n := n) (N := m.l.length) (ah := [.deaf i]) htb (fun a ha => by rw [List.mem_singleton.1 ha]; exact ⟨by omega, by omega⟩))
      have Hg := Lib.hid hg
      have HX0 : Hid (baB m k t (i : Int) = (playB m k n (newB n) (actsL m.l.length [.deaf i] t.data.toList)).1) := Lib.hid (by unfold baB; rw [hst]; rfl)
      have Hqo : Hid ((actsL m.l.length [.deaf i] t.data.toList).length ≤ 400 → BaOk m k t (i : Int)) := Lib.hid (fun h => ⟨hok, hbell, h⟩)
      have Hqn : Hid (¬ (actsL m.l.length [.deaf i] t.data.toList).length ≤ 400 → ¬ BaOk m k t (i : Int)) := Lib.hid (fun h x => h x.2.2)
      have Hins : Hid (insD i (actsL m.l.length [] t.data.toList) = actsL m.l.length [.deaf i] t.data.toList) := Lib.hid (insD_acts i m.l.length t.data.toList)
      have hpl := hrt.2
      have Hrt' : Hid (RtOk m k t) := Lib.hid hrt
      obtain ⟨acts, hacts⟩ : ∃ a, a = actsL m.l.length [.deaf i] t.data.toList := ⟨_, rfl⟩
      obtain ⟨pl, hplain⟩ : ∃ a, a = actsL m.l.length [] t.data.toList := ⟨_, rfl⟩
      rw [← hacts] at Hqo Hqn HX0 Hao Hins
      rw [← hplain] at hpl Hins
      simp only [← hplain] at Hac
      clear hrt hok hcb htb hg hst hacts hsg hbell hplain
      unfold Mt.v Cl.v at *
      go_enter Tryz.func9, Tryz.ntmps9
      go_wp2_with fail
      refine box3 (C := fun W => Calls _ _ _ W _) ?_
      intro wb hw k1 k2 k3 hB0
      have h1 : Bc wb w.heap.size [.string m.name, .int .i64 m.stage, .slice A m.l.length q] 29 := k1
      have h2 : Bc wb (w.heap.size + 1) [.string k.bob, .string k.single] 30 := k2
      obtain ⟨t3, h3⟩ : ∃ t, Bc wb (w.heap.size + 2) [.string ⟨#[]⟩, .int .i64 0, .slice none 0 0, .string ⟨#[]⟩, .string ⟨#[]⟩, .int .i64 0, .string ⟨#[]⟩, .string ⟨#[]⟩, .slice none 0 0] t := ⟨_, k3⟩
      clear k1 k2 k3
      refine (Hrt.out _ hw).mono ?_; rintro e w1 ⟨hq, hb1⟩
      rcases hq with ⟨_, C0, f0, rfl, _⟩ | ⟨hno, _⟩
      rotate_left
      · exact absurd Hrt'.out hno
      have r1 := h1.to hb1 h1.blk
      obtain ⟨x0, x1, x2⟩ : _ ∧ _ ∧ _ := ⟨r1.at_ 0 rfl, r1.at_ 1 rfl, r1.at_ 2 rfl⟩
      have hw1 := bw_to hw hb1
      clear r1
      go_upto_region 5 with (go_at_call 43; refine (l1In_any _ _ _ _).mono ?_; rintro e w' ⟨rfl, rfl⟩; rw [hib])
      clear hib
      go_wp2_with fail
      refine (Hac.out _ hw1).mono ?_; rintro e w2 ⟨Aa, qa, rfl, hoa, hb2⟩
      have hb12 := bw_to hb1 hb2
      have hsla := sl_of_own hoa
      obtain ⟨_, _, e9, ha1, ha2, har⟩ := hsla
      injection e9 with e9 _ e10
      subst e9 e10
      unfold maxLen at ha2
      have Har := Lib.hid har
      clear hoa har x0 x1 x2 hw1
      have HBx : Hid (Below w2.heap.size w2 w2) := Lib.hid (Below.refl _ _)
      have HO0 : Hid (w2.ownsRow w2.heap.size 82 4 (.slice none 0 0) (insD i (pl.take 0)).length ((insD i (pl.take 0)).flatMap Act3.c)) := Lib.hid ⟨rfl, .inl ⟨rfl, rfl⟩⟩
      go_wp2_with fail
      go_loopw [12, 38] (fun s j wx => ∃ (p : Nat) (A2 : Option Addr) (c2 : Nat), p ≤ pl.length ∧ s = .slice A2 (insD i (pl.take p)).length c2 ∧ j = .int .i64 p ∧ Hid (wx.ownsRow w2.heap.size 82 4 (.slice A2 (insD i (pl.take p)).length c2) (insD i (pl.take p)).length ((insD i (pl.take p)).flatMap Act3.c)) ∧ Hid (Below w2.heap.size w2 wx)) (fun _ j _ => pl.length - (intOf j).toNat)
      case atStart => exact ⟨0, none, 0, by omega, rfl, rfl, HO0, HBx⟩
      case round =>
        obtain ⟨p, A2, c2, hp, rfl, rfl, HO, HB⟩ := hrel
        by_cases hlt : p < pl.length
        · have Htk := Lib.hid (insD_take (i := i) hlt)
          have hfw := insD_few (i := i) (pl.take p)
          rw [List.length_take] at hfw
          obtain ⟨K, Bl, By, C, hc, hK⟩ := act_cells2 pl[p]
          obtain ⟨ad, rfl, hel⟩ := act_el Har.out hlt hc
          obtain ⟨z0, z1, z2, z3⟩ := hel wr HB.out
          obtain ⟨a, ha⟩ : ∃ a, a = pl[p] := ⟨_, rfl⟩
          rw [← ha] at Htk hc hK
          obtain ⟨X, hX⟩ : ∃ X, X = insD i (pl.take p) := ⟨_, rfl⟩
          rw [← hX] at Htk hfw HO ⊢
          have HK := Lib.hid hK
          have Hc := Lib.hid hc
          clear ha hX hK hc hel
          go_upto_region 8 with fail
          refine box1 (C := fun W => Code.wp _ _ _ _ W) ?_
          intro wq hwq kq hBq
          have hq : Bc wq wr.heap.size [.int .i64 K, .int .i64 Bl, .int .i64 By, .string C] 82 := kq
          obtain ⟨i0, i1, i2, i3⟩ : _ ∧ _ ∧ _ ∧ _ := ⟨hq.at_ 0 rfl, hq.at_ 1 rfl, hq.at_ 2 rfl, hq.at_ 3 rfl⟩
          have HOq := Lib.hid (own_to HO.out hwq)
          have HBq := Lib.hid (bw_to HB.out hwq)
          have Hq := Lib.hid hq
          have hzq := HBq.out.size
          have hrq := hq.blk
          clear z0 z1 z2 z3 kq hwq hBq hq
          by_cases hk2 : K = 2
          · subst hk2
            have d1 : isCallA a = true := by rw [HK.out]; rfl
            rw [d1, if_pos rfl] at Htk
            have hz5 := hzq
            have n9 : some wr.heap.size = (Value.slice A2 X.length c2).ownBlock → False := fun h => by have := (own_nb HO.out h.symm).2; omega
            clear d1 i0 i1 i2 i3
            have i0 := Hq.out.at_ 0 rfl
            go_upto_region 10 with (at_builtin; go_must (refine wpList_app _ rfl _ _ _ rfl w2.heap.size 82 _ 4 40 Tryz.underlying79 info_Ac rfl (by omega) HOq.out [.int .i64 3, .int .i64 i, .int .i64 0, .string ⟨#[]⟩] rfl rfl rfl (four_mem rfl rfl rfl rfl) (by omega) (by omega) hz5 ?_); intro v5 w5 hown5 hb5 hg5 _; (obtain ⟨A5, q5, rfl⟩ := nb_slE hown5); (have Hown5 := Lib.hid hown5); (have Hb5 := Lib.hid hb5); (have Q5 := Hq.out.same (hg5.block _ hrq n9)); clear hown5 hb5 hg5)
            clear i0
            obtain ⟨j0, j1, j2, j3⟩ : _ ∧ _ ∧ _ ∧ _ := ⟨Q5.at_ 0 rfl, Q5.at_ 1 rfl, Q5.at_ 2 rfl, Q5.at_ 3 rfl⟩
            have HB5 := Lib.hid (HBq.out.trans Hb5.out)
            have hz6 := HB5.out.size
            clear Q5 n9
            go_wp2_with (at_builtin; go_must (refine wpList_app _ rfl _ _ _ rfl w2.heap.size 82 _ 4 40 Tryz.underlying79 info_Ac rfl (by omega) Hown5.out [.int .i64 2, .int .i64 Bl, .int .i64 By, .string C] rfl rfl rfl (four_mem rfl rfl rfl rfl) (by omega) (by omega) hz6 ?_); intro v6 w6 hown6 hb6 hg6 _; (obtain ⟨A6, q6, rfl⟩ := nb_slE hown6); (have Hown6 := Lib.hid hown6); (have Hb6 := Lib.hid hb6); clear hown6 hb6 hg6)
            refine ⟨⟨p + 1, A6, q6, hlt, ?_, by go_num, Lib.hid ?_, Lib.hid (HB5.out.trans Hb6.out)⟩, by simp [intOf]; omega⟩
            · rw [Htk.out, List.length_append]; rfl
            · rw [Htk.out, List.length_append, List.flatMap_append, List.flatMap_append, ← List.append_assoc, show [a].flatMap Act3.c = [.int .i64 2, .int .i64 Bl, .int .i64 By, .string C] from by rw [List.flatMap_cons, Hc.out]; rfl]
              exact Hown6.out
          · have d1 : ((K : Int) == 2) = false := by simp; exact hk2
            have d2 : isCallA a = false := by rw [HK.out]; exact decide_eq_false hk2
            rw [d2, if_neg (by decide), List.nil_append] at Htk
            have hz6 := hzq
            clear hk2 d2
            go_wp2_with (at_builtin; go_must (refine wpList_app _ rfl _ _ _ rfl w2.heap.size 82 _ 4 40 Tryz.underlying79 info_Ac rfl (by omega) HOq.out [.int .i64 K, .int .i64 Bl, .int .i64 By, .string C] rfl rfl rfl (four_mem rfl rfl rfl rfl) (by omega) (by omega) hz6 ?_); intro v6 w6 hown6 hb6 hg6 _; (obtain ⟨A6, q6, rfl⟩ := nb_slE hown6); (have Hown6 := Lib.hid hown6); (have Hb6 := Lib.hid hb6); clear hown6 hb6 hg6)
            refine ⟨⟨p + 1, A6, q6, hlt, ?_, by go_num, Lib.hid ?_, Lib.hid (HBq.out.trans Hb6.out)⟩, by simp [intOf]; omega⟩
            · rw [Htk.out, List.length_append]; rfl
            · rw [Htk.out, List.length_append, List.flatMap_append, List.flatMap_cons, Hc.out]
              exact Hown6.out
        · obtain rfl : p = pl.length := by omega
          rw [List.take_length, Hins.out] at HO
          rw [List.take_length, Hins.out]
          have hfew : acts.length ≤ 800 := by rw [← Hins.out]; exact Nat.le_trans (insD_few pl) (by omega)
          have hb1p := bw_to hb12 HB.out
          have Hoa := HO
          by_cases hfit : acts.length ≤ 400
          · have d1 : ¬ ((400 : Int) < (acts.length : Int)) := by omega
            have r1 := h1.to hb1p h1.blk
            have r2 := h2.to hb1p h2.blk
            obtain ⟨x0, x1, x2⟩ : _ ∧ _ ∧ _ := ⟨r1.at_ 0 rfl, r1.at_ 1 rfl, r1.at_ 2 rfl⟩
            obtain ⟨z0, z1⟩ : _ ∧ _ := ⟨r2.at_ 0 rfl, r2.at_ 1 rfl⟩
            have HY := Lib.hid (Hqo.out hfit)
            have Hfit := Lib.hid hfit
            clear hfit
            go_wp2_with fail
            refine (Hnb.out _ (bw_to hw hb1p)).mono ?_; intro e w4 hq3; obtain ⟨B1, d1, B2, d2, he3, n1, n2, hb4⟩ := hq3
            unfold Bd.v at he3
            subst he3
            have hb14 := bw_to hb1p hb4
            have Hpl := Lib.hid (l24Play_any m k n (newB n) (.slice B1 m.l.length d1) (.slice B2 (newB n).rs.length d2) (.slice A2 acts.length c2) acts w4 (newB_good Hg.out) Hao.out (strs_of_own n1) (nilok_own n1) (sl_of_own n2) (nilok_own n2) (sl_of_own (own_to Hoa.out hb4)) Hfit.out)
            clear n1 n2 x0 x1 x2 z0 z1 r1 r2 h1 h2
            unfold Bd.v at Hpl
            go_wp2_with fail
            refine Hpl.out.mono ?_; intro e w5 hq4; obtain ⟨C1, f1, C2, f2, C3, f3, he4, p1, p2, _, hb5⟩ := hq4
            unfold Bd.v at he4
            subst he4
            have hb15 := bw_to hb14 hb5
            obtain ⟨X, hX⟩ : ∃ X, X = (playB m k n (newB n) acts).1 := ⟨_, rfl⟩
            rw [← hX] at HX0 p2 ⊢
            have HX := HX0
            clear hX
            have hz3 := h3.blk
            have hsz4 := hb14.size
            go_upto_region 15 with fail
            refine box1 (C := fun W => Code.wp _ _ _ _ W) ?_
            intro w6 hw6 k6 hB6
            have t6 : Bc w6 w5.heap.size [.string m.name, .int .i64 m.stage, .slice C1 m.l.length f1, .string k.bob, .string k.single, .int .i64 X.st, .string X.call, .string X.tr, .slice C2 X.rs.length f2] 33 := k6
            obtain ⟨y0, y1, y2, y3, y4, y5, y6, y7, y8⟩ := t6.all9.1
            have RR := h3.to (bw_to hb15 hw6) h3.blk
            have BW := bw_to hw (bw_to hb15 hw6)
            have O1 := own_to p1 hw6
            have O2 := own_to p2 hw6
            have hRb : w.heap.size + 2 < w4.heap.size := by omega
            clear k6 t6 hw6 hB6 p1 p2 h3 hb15 hb14 hb1p hb1 hb12
            obtain ⟨⟨q0, q1, q2, q3, q4, q5, q6, q7, q8⟩, g0, g1, g2, g3, g4, g5, g6, g7, g8⟩ := RR.all9
            obtain ⟨e0, e1, e2, e3, e4, e5, e6, e7, e8⟩ := RR.e9 (.string m.name) (.int .i64 m.stage) (.slice C1 m.l.length f1) (.string k.bob) (.string k.single) (.int .i64 X.st) (.string X.call) (.string X.tr) (.slice C2 X.rs.length f2)
            have E := Lib.hid (And.intro e0 (And.intro e1 (And.intro e2 (And.intro e3 (And.intro e4 (And.intro e5 (And.intro e6 (And.intro e7 e8))))))))
            have HBW := Lib.hid BW
            have HO1 := Lib.hid O1
            have HO2 := Lib.hid O2
            clear e0 e1 e2 e3 e4 e5 e6 e7 e8 RR BW O1 O2
            go_wp2_with fail
            obtain ⟨e0, e1, e2, e3, e4, e5, e6, e7, e8⟩ := E.out
            refine bodyPost_ret (v := .tuple #[.agg #[.string m.name, .int .i64 m.stage, .slice C1 m.l.length f1, .string k.bob, .string k.single, .int .i64 X.st, .string X.call, .string X.tr, .slice C2 X.rs.length f2], .bool true]) (by simp [results, go_sem, e0, e1, e2, e3, e4, e5, e6, e7, e8]) rfl ⟨.inl ⟨HY.out, C1, f1, C2, f2, ?_, ?_, ?_⟩, bw9 HBW.out (by omega)⟩
            · rw [HX.out]; rfl
            · exact own_base (own9 HO1.out hRb) (by omega)
            · rw [HX.out]; exact own_base (own9 HO2.out hRb) (by omega)
          · have d1 : (400 : Int) < (acts.length : Int) := by omega
            have HN := Lib.hid (Hqn.out hfit)
            have RR := h3.to hb1p h3.blk
            have BW := bw_to hw hb1p
            clear hfit h1 h2
            obtain ⟨⟨q0, q1, q2, q3, q4, q5, q6, q7, q8⟩, g0, g1, g2, g3, g4, g5, g6, g7, g8⟩ := RR.all9
            obtain ⟨e0, e1, e2, e3, e4, e5, e6, e7, e8⟩ := RR.e9 (.string ⟨#[]⟩) (.int .i64 0) (.slice none 0 0) (.string ⟨#[]⟩) (.string ⟨#[]⟩) (.int .i64 0) (.string ⟨#[]⟩) (.string ⟨#[]⟩) (.slice none 0 0)
            have E := Lib.hid (And.intro e0 (And.intro e1 (And.intro e2 (And.intro e3 (And.intro e4 (And.intro e5 (And.intro e6 (And.intro e7 e8))))))))
            have HBW := Lib.hid BW
            clear e0 e1 e2 e3 e4 e5 e6 e7 e8 RR BW
            go_wp2_with fail
            obtain ⟨e0, e1, e2, e3, e4, e5, e6, e7, e8⟩ := E.out
            refine bodyPost_ret (v := .tuple #[.agg #[.string ⟨#[]⟩, .int .i64 0, .slice none 0 0, .string ⟨#[]⟩, .string ⟨#[]⟩, .int .i64 0, .string ⟨#[]⟩, .string ⟨#[]⟩, .slice none 0 0], .bool false]) (by simp [results, go_sem, e0, e1, e2, e3, e4, e5, e6, e7, e8]) rfl ⟨.inr ⟨HN.out, rfl⟩, bw9 HBW.out (by omega)⟩
    · have hib : decide (1 ≤ bell ∧ bell ≤ m.stage) = false := decide_eq_false hbell
      have HN : Hid (¬ BaOk m k t bell) := Lib.hid (fun x => hbell x.2.1)
      have Hrt' : Hid (RtOk m k t) := Lib.hid hrt
      clear hrt hok hcb htb hg hst hsg hbell
      unfold Mt.v Cl.v at *
      go_enter Tryz.func9, Tryz.ntmps9
      go_wp2_with fail
      refine box3 (C := fun W => Calls _ _ _ W _) ?_
      intro wb hw k1 k2 k3 hB0
      have h1 : Bc wb w.heap.size [.string m.name, .int .i64 m.stage, .slice A m.l.length q] 29 := k1
      obtain ⟨t3, h3⟩ : ∃ t, Bc wb (w.heap.size + 2) [.string ⟨#[]⟩, .int .i64 0, .slice none 0 0, .string ⟨#[]⟩, .string ⟨#[]⟩, .int .i64 0, .string ⟨#[]⟩, .string ⟨#[]⟩, .slice none 0 0] t := ⟨_, k3⟩
      clear k1 k2 k3
      refine (Hrt.out _ hw).mono ?_; rintro e w1 ⟨hq, hb1⟩
      rcases hq with ⟨_, C0, f0, rfl, _⟩ | ⟨hno, _⟩
      rotate_left
      · exact absurd Hrt'.out hno
      have r1 := h1.to hb1 h1.blk
      have x1 := r1.at_ 1 rfl
      have RR := h3.to hb1 h3.blk
      have BW := bw_to hw hb1
      clear r1 h1
      obtain ⟨⟨q0, q1, q2, q3, q4, q5, q6, q7, q8⟩, g0, g1, g2, g3, g4, g5, g6, g7, g8⟩ := RR.all9
      obtain ⟨e0, e1, e2, e3, e4, e5, e6, e7, e8⟩ := RR.e9 (.string ⟨#[]⟩) (.int .i64 0) (.slice none 0 0) (.string ⟨#[]⟩) (.string ⟨#[]⟩) (.int .i64 0) (.string ⟨#[]⟩) (.string ⟨#[]⟩) (.slice none 0 0)
      have E := Lib.hid (And.intro e0 (And.intro e1 (And.intro e2 (And.intro e3 (And.intro e4 (And.intro e5 (And.intro e6 (And.intro e7 e8))))))))
      have HBW := Lib.hid BW
      clear e0 e1 e2 e3 e4 e5 e6 e7 e8 RR BW
      go_wp2_with (go_at_call 43; refine (l1In_any _ _ _ _).mono ?_; rintro e w' ⟨rfl, rfl⟩; rw [hib])
      obtain ⟨e0, e1, e2, e3, e4, e5, e6, e7, e8⟩ := E.out
      refine bodyPost_ret (v := .tuple #[.agg #[.string ⟨#[]⟩, .int .i64 0, .slice none 0 0, .string ⟨#[]⟩, .string ⟨#[]⟩, .int .i64 0, .string ⟨#[]⟩, .string ⟨#[]⟩, .slice none 0 0], .bool false]) (by simp [results, go_sem, e0, e1, e2, e3, e4, e5, e6, e7, e8]) rfl ⟨.inr ⟨HN.out, rfl⟩, bw9 HBW.out (by omega)⟩
  · have HN : Hid (¬ BaOk m k t bell) := Lib.hid (fun x => hrt ⟨x.1, Nat.le_trans (insD_more (i := bell.toNat) _) (by rw [insD_acts]; exact x.2.2)⟩)
    unfold Mt.v Cl.v at *
    go_enter Tryz.func9, Tryz.ntmps9
    go_wp2_with fail
    refine box3 (C := fun W => Calls _ _ _ W _) ?_
    intro wb hw k1 k2 k3 hB0
    obtain ⟨t3, h3⟩ : ∃ t, Bc wb (w.heap.size + 2) [.string ⟨#[]⟩, .int .i64 0, .slice none 0 0, .string ⟨#[]⟩, .string ⟨#[]⟩, .int .i64 0, .string ⟨#[]⟩, .string ⟨#[]⟩, .slice none 0 0] t := ⟨_, k3⟩
    clear k1 k2 k3
    refine (Hrt.out _ hw).mono ?_; rintro e w1 ⟨hq, hb1⟩
    rcases hq with ⟨hy, _⟩ | ⟨_, rfl⟩
    · exact absurd hy hrt
    have RR := h3.to hb1 h3.blk
    have BW := bw_to hw hb1
    clear hrt
    obtain ⟨⟨q0, q1, q2, q3, q4, q5, q6, q7, q8⟩, g0, g1, g2, g3, g4, g5, g6, g7, g8⟩ := RR.all9
    obtain ⟨e0, e1, e2, e3, e4, e5, e6, e7, e8⟩ := RR.e9 (.string ⟨#[]⟩) (.int .i64 0) (.slice none 0 0) (.string ⟨#[]⟩) (.string ⟨#[]⟩) (.int .i64 0) (.string ⟨#[]⟩) (.string ⟨#[]⟩) (.slice none 0 0)
    have E := Lib.hid (And.intro e0 (And.intro e1 (And.intro e2 (And.intro e3 (And.intro e4 (And.intro e5 (And.intro e6 (And.intro e7 e8))))))))
    have HBW := Lib.hid BW
    clear e0 e1 e2 e3 e4 e5 e6 e7 e8 RR BW
    go_wp2_with fail
    obtain ⟨e0, e1, e2, e3, e4, e5, e6, e7, e8⟩ := E.out
    refine bodyPost_ret (v := .tuple #[.agg #[.string ⟨#[]⟩, .int .i64 0, .slice none 0 0, .string ⟨#[]⟩, .string ⟨#[]⟩, .int .i64 0, .string ⟨#[]⟩, .string ⟨#[]⟩, .slice none 0 0], .bool false]) (by simp [results, go_sem, e0, e1, e2, e3, e4, e5, e6, e7, e8]) rfl ⟨.inr ⟨HN.out, rfl⟩, bw9 HBW.out (by omega)⟩
end Go.Proofs.YtimeecimaokldaaGreatDoor

/- Contract: the band behind a touch whose calls a bell does not hear, the program's. -/
import Derived.Test.YtimeecimaokldaaGreatDoorPk31
namespace Go.Proofs.YtimeecimaokldaaGreatDoor
open Go Go.RowKit
set_option linter.unusedVariables false
set_option linter.unusedSimpArgs false

def BaOk (m : Mt) (k : Cl) (t : ByteArray) (bell : Int) : Prop := rtB m k t = true ∧ (1 ≤ bell ∧ bell ≤ m.stage) ∧ (actsL m.l.length [.deaf bell.toNat] t.data.toList).length ≤ 400
def baB (m : Mt) (k : Cl) (t : ByteArray) (bell : Int) : Bd := (playB m k m.stage.toNat (newB m.stage.toNat) (actsL m.l.length [.deaf bell.toNat] t.data.toList)).1
/-- What BandAfter leaves. -/
def BaPost (w : World) (m : Mt) (k : Cl) (t : ByteArray) (bell : Int) (e : Ending) (w' : World) : Prop :=
  ((BaOk m k t bell ∧ ∃ A1 c1 A2 c2, e = .returned (.tuple #[(baB m k t bell).v m k (.slice A1 m.l.length c1) (.slice A2 (baB m k t bell).rs.length c2), .bool true]) ∧ w'.ownsRow w.heap.size 9 1 (.slice A1 m.l.length c1) m.l.length (m.l.map Value.string) ∧ w'.ownsRow w.heap.size 104 2 (.slice A2 (baB m k t bell).rs.length c2) (baB m k t bell).rs.length ((baB m k t bell).rs.flatMap rsC)) ∨
    (¬ BaOk m k t bell ∧ e = .returned (.tuple #[.agg #[.string ⟨#[]⟩, .int .i64 0, .slice none 0 0, .string ⟨#[]⟩, .string ⟨#[]⟩, .int .i64 0, .string ⟨#[]⟩, .string ⟨#[]⟩, .slice none 0 0], .bool false]))) ∧ Below w.heap.size w w'
set_option maxRecDepth 10000 in
set_option maxHeartbeats 8000000 in
theorem bandAfter_any (m : Mt) (v : Value) (k : Cl) (t : ByteArray) (bell : Int) (w : World) (h : MethAt w m v) (hn : NilOk v) (hs : MtSmall m) (hk : ClSmall k) (ht : t.size ≤ 1048576) (htab : Tab10 w) : Calls Tryz.prog 12 #[m.v v, k.v, .string t, .int .i64 bell] w (BaPost w m k t bell) := by
  have Hgf := Lib.hid (fun W (hW : Below w.heap.size w W) => goodFor_any m v k t W (h.to hW) hs hk (Nat.le_trans ht (by unfold maxLen; omega)))
  have H := Lib.hid h
  have Htab := Lib.hid htab
  obtain ⟨A, q, rfl, _⟩ := h.1
  clear h htab
  cases hok : callsB m k && touchB t.data.toList
  · have HN : Hid (¬ BaOk m k t bell) := Lib.hid (fun x => by have := x.1; unfold rtB at this; rw [hok] at this; cases this)
    rw [hok] at Hgf
    clear hok
    unfold Mt.v Cl.v at *
    go_enter Tryz.func12, Tryz.ntmps12
    go_wp2_with fail
    refine box3 (C := fun W => Calls _ _ _ W _) ?_
    intro wb hw k1 k2 k3 hB0
    obtain ⟨t3, h3⟩ : ∃ t, Bc wb (w.heap.size + 2) [.string ⟨#[]⟩, .int .i64 0, .slice none 0 0, .string ⟨#[]⟩, .string ⟨#[]⟩, .int .i64 0, .string ⟨#[]⟩, .string ⟨#[]⟩, .slice none 0 0] t := ⟨_, k3⟩
    clear k1 k2 k3
    refine (Hgf.out _ hw).mono ?_; rintro e w1 ⟨rfl, hb1⟩
    have RR := h3.to hb1 h3.blk
    have BW := bw_to hw hb1
    obtain ⟨⟨q0, q1, q2, q3, q4, q5, q6, q7, q8⟩, g0, g1, g2, g3, g4, g5, g6, g7, g8⟩ := RR.all9
    obtain ⟨e0, e1, e2, e3, e4, e5, e6, e7, e8⟩ := RR.e9 (.string ⟨#[]⟩) (.int .i64 0) (.slice none 0 0) (.string ⟨#[]⟩) (.string ⟨#[]⟩) (.int .i64 0) (.string ⟨#[]⟩) (.string ⟨#[]⟩) (.slice none 0 0)
    have E := Lib.hid (And.intro e0 (And.intro e1 (And.intro e2 (And.intro e3 (And.intro e4 (And.intro e5 (And.intro e6 (And.intro e7 e8))))))))
    have HBW := Lib.hid BW
    clear e0 e1 e2 e3 e4 e5 e6 e7 e8 RR BW
    go_wp2_with fail
    obtain ⟨e0, e1, e2, e3, e4, e5, e6, e7, e8⟩ := E.out
    refine bodyPost_ret (v := .tuple #[.agg #[.string ⟨#[]⟩, .int .i64 0, .slice none 0 0, .string ⟨#[]⟩, .string ⟨#[]⟩, .int .i64 0, .string ⟨#[]⟩, .string ⟨#[]⟩, .slice none 0 0], .bool false]) (by simp [results, go_sem, e0, e1, e2, e3, e4, e5, e6, e7, e8]) rfl ⟨.inr ⟨HN.out, rfl⟩, bw9 HBW.out (by omega)⟩
  rw [hok] at Hgf
  have hokk := hok
  rw [Bool.and_eq_true] at hokk
  obtain ⟨hcb, htb⟩ := hokk
  obtain ⟨n, hg⟩ := cgood_of hcb
  have hn8 := hg.m.hi
  have hl := hg.m.len
  have hsg := hg.m.st
  have hst : m.stage.toNat = n := by rw [hg.m.st]; rfl
  have ht60 := touch_len htb
  by_cases hbell : 1 ≤ bell ∧ bell ≤ m.stage
  · have hib : decide (1 ≤ bell ∧ bell ≤ m.stage) = true := decide_eq_true hbell
    obtain ⟨i, hi⟩ : ∃ i : Nat, bell = (i : Int) := ⟨bell.toNat, by omega⟩
    subst hi
    have Hac := Lib.hid (fun va W (hW : Below w.heap.size w W) ha hna => actsFor_any m (.slice A m.l.length q) va t [.deaf i] W (H.out.1.to hW) hl.2 ht60 ha hna (by simp))
    have Hnb := Lib.hid (fun W (hW : Below w.heap.size w W) => newBand_any m (.slice A m.l.length q) k n W hg (H.out.1.to hW) hn)
    have Hao := Lib.hid (touch_acts (n := n) (N := m.l.length) (ah := [.deaf i]) htb (fun a ha => by rw [List.mem_singleton.1 ha]; exact ⟨by omega, by omega⟩))
    have Hg := Lib.hid hg
    have HX0 : Hid (baB m k t (i : Int) = (playB m k n (newB n) (actsL m.l.length [.deaf i] t.data.toList)).1) := Lib.hid (by unfold baB; rw [hst]; rfl)
    have Hqo : Hid ((actsL m.l.length [.deaf i] t.data.toList).length ≤ 400 → BaOk m k t (i : Int)) := Lib.hid (fun h => ⟨hok, hbell, h⟩)
    have Hqn : Hid (¬ (actsL m.l.length [.deaf i] t.data.toList).length ≤ 400 → ¬ BaOk m k t (i : Int)) := Lib.hid (fun h x => h x.2.2)
    have hfew := actsL_few (N := m.l.length) (ah := [.deaf i]) (l := t.data.toList) hl.2 (by simp) (by rw [bytes_len]; exact ht60)
    obtain ⟨acts, hacts⟩ : ∃ a, a = actsL m.l.length [.deaf i] t.data.toList := ⟨_, rfl⟩
    rw [← hacts] at hfew Hqo Hqn HX0 Hao
    simp only [← hacts] at Hac
    clear hok hcb htb hg hst hacts hsg hbell
    unfold Mt.v Cl.v at *
    go_enter Tryz.func12, Tryz.ntmps12
    go_wp2_with fail
    refine box3 (C := fun W => Calls _ _ _ W _) ?_
    intro wb hw k1 k2 k3 hB0
    have h1 : Bc wb w.heap.size [.string m.name, .int .i64 m.stage, .slice A m.l.length q] 29 := k1
    have h2 : Bc wb (w.heap.size + 1) [.string k.bob, .string k.single] 30 := k2
    obtain ⟨t3, h3⟩ : ∃ t, Bc wb (w.heap.size + 2) [.string ⟨#[]⟩, .int .i64 0, .slice none 0 0, .string ⟨#[]⟩, .string ⟨#[]⟩, .int .i64 0, .string ⟨#[]⟩, .string ⟨#[]⟩, .slice none 0 0] t := ⟨_, k3⟩
    clear k1 k2 k3
    refine (Hgf.out _ hw).mono ?_; rintro e w1 ⟨rfl, hb1⟩
    have r1 := h1.to hb1 h1.blk
    obtain ⟨x0, x1, x2⟩ : _ ∧ _ ∧ _ := ⟨r1.at_ 0 rfl, r1.at_ 1 rfl, r1.at_ 2 rfl⟩
    have hw1 := bw_to hw hb1
    clear r1
    go_upto_region 3 with (go_at_call 49; refine (isBellB_any _ _ _).mono ?_; rintro e w' ⟨rfl, rfl⟩; rw [hib])
    clear hib
    go_wp2_with fail
    refine box1 (C := fun W => Calls _ _ _ W _) ?_
    intro w2 hw2 k4 hB2
    have hsl : Sl w2 4 (.slice (some ⟨w1.heap.size, 0, none⟩) 1 1) [Act3.deaf i].length ([Act3.deaf i].flatMap Act3.c) := sl_of_own (base := 0) (e := 82) (own_of_heap (cs := #[.int .i64 3, .int .i64 i, .int .i64 0, .string ⟨#[]⟩]) k4 (Nat.zero_le _) (by unfold maxLen; omega) rfl)
    have hb12 := bw_to hb1 hw2
    refine (Hac.out _ _ (bw_to hw hb12) hsl (nilok_own (own_of_heap (base := 0) (size := 4) (cs := #[.int .i64 3, .int .i64 i, .int .i64 0, .string ⟨#[]⟩]) k4 (Nat.zero_le _) (by unfold maxLen; omega) rfl))).mono ?_; rintro e w3 ⟨Aa, qa, rfl, hoa, hb3⟩
    have hb13 := bw_to hb12 hb3
    have Hoa := Lib.hid hoa
    clear x0 x1 x2 hoa hsl k4 hw2 hB2 hw1 hb12 hb3
    by_cases hfit : acts.length ≤ 400
    · have d1 : ¬ ((400 : Int) < (acts.length : Int)) := by omega
      have r1 := h1.to hb13 h1.blk
      have r2 := h2.to hb13 h2.blk
      obtain ⟨x0, x1, x2⟩ : _ ∧ _ ∧ _ := ⟨r1.at_ 0 rfl, r1.at_ 1 rfl, r1.at_ 2 rfl⟩
      obtain ⟨z0, z1⟩ : _ ∧ _ := ⟨r2.at_ 0 rfl, r2.at_ 1 rfl⟩
      have HY := Lib.hid (Hqo.out hfit)
      have Hfit := Lib.hid hfit
      clear hfit
      go_wp2_with fail
      refine (Hnb.out _ (bw_to hw hb13)).mono ?_; intro e w4 hq3; obtain ⟨B1, d1, B2, d2, he3, n1, n2, hb4⟩ := hq3
      unfold Bd.v at he3
      subst he3
      have hb14 := bw_to hb13 hb4
      have Hpl := Lib.hid (played_any m k n (newB n) (.slice B1 m.l.length d1) (.slice B2 (newB n).rs.length d2) (.slice Aa acts.length qa) acts w4 (newB_good Hg.out) Hao.out (strs_of_own n1) (nilok_own n1) (sl_of_own n2) (nilok_own n2) (sl_of_own (own_to Hoa.out hb4)) Hfit.out (Htab.out.to (bw_to hw hb14)))
      clear n1 n2 x0 x1 x2 z0 z1 r1 r2 h1 h2
      unfold Bd.v at Hpl
      go_wp2_with fail
      refine Hpl.out.mono ?_; intro e w5 hq4; obtain ⟨C1, f1, C2, f2, C3, f3, he4, p1, p2, _, hb5⟩ := hq4
      unfold Bd.v at he4
      subst he4
      have hb15 := bw_to hb14 hb5
      obtain ⟨X, hX⟩ : ∃ X, X = (playB m k n (newB n) acts).1 := ⟨_, rfl⟩
      rw [← hX] at HX0 p2 ⊢
      have HX := HX0
      clear hX
      have hz3 := h3.blk
      have hsz4 := hb14.size
      go_upto_region 7 with fail
      refine box1 (C := fun W => Code.wp _ _ _ _ W) ?_
      intro w6 hw6 k6 hB6
      have t6 : Bc w6 w5.heap.size [.string m.name, .int .i64 m.stage, .slice C1 m.l.length f1, .string k.bob, .string k.single, .int .i64 X.st, .string X.call, .string X.tr, .slice C2 X.rs.length f2] 33 := k6
      obtain ⟨y0, y1, y2, y3, y4, y5, y6, y7, y8⟩ := t6.all9.1
      have RR := h3.to (bw_to hb15 hw6) h3.blk
      have BW := bw_to hw (bw_to hb15 hw6)
      have O1 := own_to p1 hw6
      have O2 := own_to p2 hw6
      have hRb : w.heap.size + 2 < w4.heap.size := by omega
      clear k6 t6 hw6 hB6 p1 p2 h3 hb15 hb14 hb13 hb1
      obtain ⟨⟨q0, q1, q2, q3, q4, q5, q6, q7, q8⟩, g0, g1, g2, g3, g4, g5, g6, g7, g8⟩ := RR.all9
      obtain ⟨e0, e1, e2, e3, e4, e5, e6, e7, e8⟩ := RR.e9 (.string m.name) (.int .i64 m.stage) (.slice C1 m.l.length f1) (.string k.bob) (.string k.single) (.int .i64 X.st) (.string X.call) (.string X.tr) (.slice C2 X.rs.length f2)
      have E := Lib.hid (And.intro e0 (And.intro e1 (And.intro e2 (And.intro e3 (And.intro e4 (And.intro e5 (And.intro e6 (And.intro e7 e8))))))))
      have HBW := Lib.hid BW
      have HO1 := Lib.hid O1
      have HO2 := Lib.hid O2
      clear e0 e1 e2 e3 e4 e5 e6 e7 e8 RR BW O1 O2
      go_wp2_with fail
      obtain ⟨e0, e1, e2, e3, e4, e5, e6, e7, e8⟩ := E.out
      refine bodyPost_ret (v := .tuple #[.agg #[.string m.name, .int .i64 m.stage, .slice C1 m.l.length f1, .string k.bob, .string k.single, .int .i64 X.st, .string X.call, .string X.tr, .slice C2 X.rs.length f2], .bool true]) (by simp [results, go_sem, e0, e1, e2, e3, e4, e5, e6, e7, e8]) rfl ⟨.inl ⟨HY.out, C1, f1, C2, f2, ?_, ?_, ?_⟩, bw9 HBW.out (by omega)⟩
      · rw [HX.out]; rfl
      · exact own_base (own9 HO1.out hRb) (by omega)
      · rw [HX.out]; exact own_base (own9 HO2.out hRb) (by omega)
    · have d1 : (400 : Int) < (acts.length : Int) := by omega
      have HN := Lib.hid (Hqn.out hfit)
      have RR := h3.to hb13 h3.blk
      have BW := bw_to hw hb13
      clear hfit h1 h2
      obtain ⟨⟨q0, q1, q2, q3, q4, q5, q6, q7, q8⟩, g0, g1, g2, g3, g4, g5, g6, g7, g8⟩ := RR.all9
      obtain ⟨e0, e1, e2, e3, e4, e5, e6, e7, e8⟩ := RR.e9 (.string ⟨#[]⟩) (.int .i64 0) (.slice none 0 0) (.string ⟨#[]⟩) (.string ⟨#[]⟩) (.int .i64 0) (.string ⟨#[]⟩) (.string ⟨#[]⟩) (.slice none 0 0)
      have E := Lib.hid (And.intro e0 (And.intro e1 (And.intro e2 (And.intro e3 (And.intro e4 (And.intro e5 (And.intro e6 (And.intro e7 e8))))))))
      have HBW := Lib.hid BW
      clear e0 e1 e2 e3 e4 e5 e6 e7 e8 RR BW
      go_wp2_with fail
      obtain ⟨e0, e1, e2, e3, e4, e5, e6, e7, e8⟩ := E.out
      refine bodyPost_ret (v := .tuple #[.agg #[.string ⟨#[]⟩, .int .i64 0, .slice none 0 0, .string ⟨#[]⟩, .string ⟨#[]⟩, .int .i64 0, .string ⟨#[]⟩, .string ⟨#[]⟩, .slice none 0 0], .bool false]) (by simp [results, go_sem, e0, e1, e2, e3, e4, e5, e6, e7, e8]) rfl ⟨.inr ⟨HN.out, rfl⟩, bw9 HBW.out (by omega)⟩
  · have hib : decide (1 ≤ bell ∧ bell ≤ m.stage) = false := decide_eq_false hbell
    have HN : Hid (¬ BaOk m k t bell) := Lib.hid (fun x => hbell x.2.1)
    clear hok hcb htb hg hst hsg hbell
    unfold Mt.v Cl.v at *
    go_enter Tryz.func12, Tryz.ntmps12
    go_wp2_with fail
    refine box3 (C := fun W => Calls _ _ _ W _) ?_
    intro wb hw k1 k2 k3 hB0
    have h1 : Bc wb w.heap.size [.string m.name, .int .i64 m.stage, .slice A m.l.length q] 29 := k1
    obtain ⟨t3, h3⟩ : ∃ t, Bc wb (w.heap.size + 2) [.string ⟨#[]⟩, .int .i64 0, .slice none 0 0, .string ⟨#[]⟩, .string ⟨#[]⟩, .int .i64 0, .string ⟨#[]⟩, .string ⟨#[]⟩, .slice none 0 0] t := ⟨_, k3⟩
    clear k1 k2 k3
    refine (Hgf.out _ hw).mono ?_; rintro e w1 ⟨rfl, hb1⟩
    have r1 := h1.to hb1 h1.blk
    have x1 := r1.at_ 1 rfl
    have RR := h3.to hb1 h3.blk
    have BW := bw_to hw hb1
    clear r1 h1
    obtain ⟨⟨q0, q1, q2, q3, q4, q5, q6, q7, q8⟩, g0, g1, g2, g3, g4, g5, g6, g7, g8⟩ := RR.all9
    obtain ⟨e0, e1, e2, e3, e4, e5, e6, e7, e8⟩ := RR.e9 (.string ⟨#[]⟩) (.int .i64 0) (.slice none 0 0) (.string ⟨#[]⟩) (.string ⟨#[]⟩) (.int .i64 0) (.string ⟨#[]⟩) (.string ⟨#[]⟩) (.slice none 0 0)
    have E := Lib.hid (And.intro e0 (And.intro e1 (And.intro e2 (And.intro e3 (And.intro e4 (And.intro e5 (And.intro e6 (And.intro e7 e8))))))))
    have HBW := Lib.hid BW
    clear e0 e1 e2 e3 e4 e5 e6 e7 e8 RR BW
    go_wp2_with (go_at_call 49; refine (isBellB_any _ _ _).mono ?_; rintro e w' ⟨rfl, rfl⟩; rw [hib])
    obtain ⟨e0, e1, e2, e3, e4, e5, e6, e7, e8⟩ := E.out
    refine bodyPost_ret (v := .tuple #[.agg #[.string ⟨#[]⟩, .int .i64 0, .slice none 0 0, .string ⟨#[]⟩, .string ⟨#[]⟩, .int .i64 0, .string ⟨#[]⟩, .string ⟨#[]⟩, .slice none 0 0], .bool false]) (by simp [results, go_sem, e0, e1, e2, e3, e4, e5, e6, e7, e8]) rfl ⟨.inr ⟨HN.out, rfl⟩, bw9 HBW.out (by omega)⟩
end Go.Proofs.YtimeecimaokldaaGreatDoor

/- Contracts: the next head, the ring of a head, both sides. (Printed by a program: mkHH.) -/
import Derived.Test.YthgadnhkbmimiaaPk31
namespace Go.Proofs.Ythgadnhkbmimiaa
open Go Go.RowKit
set_option linter.unusedVariables false
set_option linter.unusedSimpArgs false

set_option maxHeartbeats 2000000 in
theorem nextI_any (n : Nat) (P B Q h : ByteArray) (gv Vb : Value) (bobs : List ByteArray) (w : World) (hn : n ≤ 8) (hP : RowIn n P) (hB : RowIn n B) (hh : RowIn n h) (hV : Strs w Vb bobs) (hs : SortedS bobs) (hbl : bobs.length ≤ 1000000) :
    Calls Try.prog 133 #[.agg #[.string P, .string B, gv, .string Q], Vb, .string h] w fun e w' => e = .returned (.string (nxB bobs P B h)) ∧ Below w.heap.size w w' := by
  have Hb := Lib.hid (fun W (hW : Below w.heap.size w W) => hV.to hW)
  have Hs := Lib.hid hs
  have Htb := Lib.hid (fun W => times_any h B W (by rw [hh.1]; omega) (by rw [hB.1]; omega) (row_hin hh.1 hB))
  have Htp := Lib.hid (fun W => times_any h P W (by rw [hh.1]; omega) (by rw [hP.1]; omega) (row_hin hh.1 hP))
  have Hy : Hid (h ∈ bobs → nxB bobs P B h = timesB h B) := Lib.hid (fun e => by unfold nxB; rw [if_pos e])
  have Hn : Hid (h ∉ bobs → nxB bobs P B h = timesB h P) := Lib.hid (fun e => by unfold nxB; rw [if_neg e])
  clear hV hs hP hB hh
  by_cases hm : h ∈ bobs
  · have Hd := Lib.hid (decide_eq_true hm)
    have HE := Lib.hid (Hy.out hm)
    clear hm
    go_enter Try.func133, Try.ntmps133
    go_wp2_with fail
    refine box1 (C := fun W => Calls _ _ _ W _) ?_
    intro wb hw k1 hB0
    have R1 := boxRule k1
    clear k1
    (try refine (has_any Vb bobs h wb (Hb.out wb hw) Hs.out hbl).mono ?_; rintro e w' ⟨rfl, rfl⟩; rw [Hd.out]; go_wp2_with fail)
    refine (Htb.out _).mono ?_; rintro e w2 ⟨rfl, hb2⟩
    go_wp2_with fail
    go_ret
    exact ⟨ret_str HE.out.symm, bw_to hw hb2⟩
  · have Hd := Lib.hid (decide_eq_false hm)
    have HE := Lib.hid (Hn.out hm)
    clear hm
    go_enter Try.func133, Try.ntmps133
    go_wp2_with fail
    refine box1 (C := fun W => Calls _ _ _ W _) ?_
    intro wb hw k1 hB0
    have R1 := boxRule k1
    clear k1
    (try refine (has_any Vb bobs h wb (Hb.out wb hw) Hs.out hbl).mono ?_; rintro e w' ⟨rfl, rfl⟩; rw [Hd.out]; go_wp2_with fail)
    refine (Htp.out _).mono ?_; rintro e w2 ⟨rfl, hb2⟩
    go_wp2_with fail
    go_ret
    exact ⟨ret_str HE.out.symm, bw_to hw hb2⟩
set_option maxHeartbeats 2000000 in
theorem nextS_any (n : Nat) (P B Q h : ByteArray) (gv Vb : Value) (bobs : List ByteArray) (w : World) (hn : n ≤ 8) (hP : RowIn n P) (hB : RowIn n B) (hh : RowIn n h) (hV : Strs w Vb bobs) (hs : SortedS bobs) (hbl : bobs.length ≤ 1000000) :
    Calls Try.prog 149 #[.agg #[.string P, .string B, .string Q, gv], Vb, .string h] w fun e w' => e = .returned (.string (nxB bobs P B h)) ∧ Below w.heap.size w w' := by
  have Hb := Lib.hid (fun W (hW : Below w.heap.size w W) => hV.to hW)
  have Hs := Lib.hid hs
  have Htb := Lib.hid (fun W => l1Times_any h B W (by rw [hh.1]; omega) (by rw [hB.1]; omega) (row_hin hh.1 hB))
  have Htp := Lib.hid (fun W => l1Times_any h P W (by rw [hh.1]; omega) (by rw [hP.1]; omega) (row_hin hh.1 hP))
  have Hy : Hid (h ∈ bobs → nxB bobs P B h = timesB h B) := Lib.hid (fun e => by unfold nxB; rw [if_pos e])
  have Hn : Hid (h ∉ bobs → nxB bobs P B h = timesB h P) := Lib.hid (fun e => by unfold nxB; rw [if_neg e])
  clear hV hs hP hB hh
  by_cases hm : h ∈ bobs
  · have Hd := Lib.hid (decide_eq_true hm)
    have HE := Lib.hid (Hy.out hm)
    clear hm
    go_enter Try.func149, Try.ntmps149
    go_wp2_with fail
    refine box1 (C := fun W => Calls _ _ _ W _) ?_
    intro wb hw k1 hB0
    have R1 := boxRule k1
    clear k1
    (try refine (l1HasS_any Vb bobs h wb (Hb.out wb hw)).mono ?_; rintro e w' ⟨rfl, rfl⟩; rw [Hd.out]; go_wp2_with fail)
    refine (Htb.out _).mono ?_; rintro e w2 ⟨rfl, rfl⟩
    go_wp2_with fail
    go_ret
    exact ⟨ret_str HE.out.symm, hw⟩
  · have Hd := Lib.hid (decide_eq_false hm)
    have HE := Lib.hid (Hn.out hm)
    clear hm
    go_enter Try.func149, Try.ntmps149
    go_wp2_with fail
    refine box1 (C := fun W => Calls _ _ _ W _) ?_
    intro wb hw k1 hB0
    have R1 := boxRule k1
    clear k1
    (try refine (l1HasS_any Vb bobs h wb (Hb.out wb hw)).mono ?_; rintro e w' ⟨rfl, rfl⟩; rw [Hd.out]; go_wp2_with fail)
    refine (Htp.out _).mono ?_; rintro e w2 ⟨rfl, rfl⟩
    go_wp2_with fail
    go_ret
    exact ⟨ret_str HE.out.symm, hw⟩
set_option maxRecDepth 10000 in
set_option maxHeartbeats 4000000 in
theorem ringI_any (n R : Nat) (P B Q h : ByteArray) (gv Vb : Value) (bobs : List ByteArray) (w : World) (hn : n ≤ 8) (hP : RowIn n P) (hB : RowIn n B) (hit : ∀ j, RowIn n (iterB (nxB bobs P B) h j)) (hV : Strs w Vb bobs) (hs : SortedS bobs) (hbl : bobs.length ≤ 1000000) (hR : IsRing (nxB bobs P B) h R) (hRb : R ≤ 1000000) :
    Calls Try.prog 96 #[.agg #[.string P, .string B, gv, .string Q], Vb, .string h] w fun e w' => ∃ A q, e = .returned (.slice A R q) ∧ w'.ownsRow w.heap.size 9 1 (.slice A R q) R ((ringL (nxB bobs P B) h R).map Value.string) ∧ Below w.heap.size w w' := by
  have Hnx := Lib.hid (fun j W (hW : Below w.heap.size w W) => nextI_any n P B Q (iterB (nxB bobs P B) h j) gv Vb bobs W hn hP hB (hit j) (hV.to hW) hs hbl)
  have HR := Lib.hid hR
  have hR1 := hR.1
  obtain ⟨nx, hnx⟩ : ∃ f, f = nxB bobs P B := ⟨_, rfl⟩
  have Hit : Hid (∀ j, nxB bobs P B (iterB nx h j) = iterB nx h (j + 1)) := Lib.hid (fun j => by rw [hnx]; rfl)
  simp only [← hnx] at Hnx HR Hit ⊢
  have H0 : Hid (iterB nx h 0 = h) := Lib.hid rfl
  clear hV hs hP hB hit hR hnx
  go_enter Try.func96, Try.ntmps96
  go_wp2_with fail
  refine box2 (C := fun W => Calls _ _ _ W _) ?_
  intro wb hw k1 k2 hB0
  have R1 := boxRule k1
  have hown0 : wb.ownsRow (w.heap.size + 1) 9 1 (.slice (some ⟨w.heap.size + 1, 0, none⟩) 1 1) 1 ((ringL nx h 1).map Value.string) := own_of_heap k2 (Nat.le_refl _) (by unfold maxLen; omega) rfl
  have hl2 := blk_lt k2
  have RB := fun i W (hW : Below (w.heap.size + 1) wb W) => boxRuleB k1 (by omega) W i hW
  have hlow : ∀ W, Below (w.heap.size + 1) wb W → Below w.heap.size w W := fun W hW => hw.trans (hW.mono (by omega))
  have Hlow := Lib.hid hlow
  have hn0 := Hnx.out 0 wb hw
  rw [H0.out] at hn0
  have e0 := Hit.out 0
  rw [H0.out] at e0
  rw [e0] at hn0
  have Hn0 := Lib.hid hn0
  clear k1 k2 hlow hn0 e0 H0 R1
  refine Hn0.out.mono ?_; rintro e w1 ⟨rfl, hb1⟩
  have hown1 := own_to hown0 hb1
  have hL1 : Below (w.heap.size + 1) wb w1 := hb1.mono (by omega)
  have hz1 : wb.heap.size ≤ w1.heap.size := hb1.size
  clear hown0 Hn0
  go_wp2_with fail
  go_loopw [7, 8] (fun o r wr => ∃ (j : Nat) (A : Option Addr) (q : Nat), 1 ≤ j ∧ j ≤ R ∧ r = .string (iterB nx h j) ∧ o = .slice A j q ∧ wr.ownsRow (w.heap.size + 1) 9 1 (.slice A j q) j ((ringL nx h j).map Value.string) ∧ Below (w.heap.size + 1) wb wr ∧ wb.heap.size ≤ wr.heap.size) (fun o _ _ => R - lenV o)
  case atStart => exact ⟨1, _, 1, by omega, by omega, rfl, rfl, hown1, hL1, hz1⟩
  case round =>
    obtain ⟨j, A, q, h1j, hj, rfl, rfl, hown, hL, hz⟩ := hrel
    have R2 := fun i => RB i wr hL
    have Hst := Lib.hid (ring_stop HR.out h1j hj)
    have Hgo := Lib.hid (ring_go HR.out hj)
    have Hs : Hid (ringL nx h (j + 1) = ringL nx h j ++ [iterB nx h j]) := Lib.hid (ringL_succ nx h j)
    have Hnj := Lib.hid (fun W hW => Hnx.out j W hW)
    have Hij := Lib.hid (Hit.out j)
    rw [Hij.out] at Hnj
    have Hx1 : Hid (iterB nx h (j + 1) = iterB nx h (j + 1)) := Lib.hid rfl
    obtain ⟨y, hy⟩ : ∃ y, y = iterB nx h (j + 1) := ⟨_, rfl⟩
    have Hy := Lib.hid hy
    rw [← hy] at Hnj
    obtain ⟨x, hx⟩ : ∃ x, x = iterB nx h j := ⟨_, rfl⟩
    rw [← hx] at Hst Hgo Hs Hnj ⊢
    clear hx hy Hij Hx1
    have He := Lib.hid (sl_beq x h)
    cases hb : (x.toList == h.toList)
    · have hlt := Hgo.out (fun e => by rw [He.out, decide_eq_true e] at hb; cases hb)
      go_wp2_with (at_builtin; go_must (refine wpList_app _ rfl _ _ _ rfl (w.heap.size + 1) 9 _ 1 16 Try.underlying22 info_str rfl (by omega) hown [.string x] rfl rfl rfl (one_mem rfl) (by omega) (by omega) (by omega) ?_); intro v2 w3 hown3 hb3 hg3 _; (have hL3 := hL.trans hb3); (have R3 := fun i => RB i w3 hL3))
      refine (Hnj.out _ (Hlow.out _ hL3)).mono ?_; rintro e w4 ⟨rfl, hb4⟩
      have hz3 : wb.heap.size ≤ w3.heap.size := by have := hg3.size; omega
      have hown4 := own_to hown3 hb4
      have hL4 : Below (w.heap.size + 1) wb w4 := hL3.trans (hb4.mono (by omega))
      have hz4 : wb.heap.size ≤ w4.heap.size := Nat.le_trans hz3 hb4.size
      obtain ⟨A2, q2, e2, _⟩ := sl_of_own hown4
      subst e2
      rw [str_snoc Hs.out] at hown4
      clear hown hown3 R2 R3
      go_wp2_with fail
      exact ⟨⟨j + 1, A2, q2, by omega, by omega, by rw [Hy.out], rfl, hown4, hL4, hz4⟩, by simp [lenV]; omega⟩
    · obtain rfl := Hst.out (by rw [He.out] at hb; exact of_decide_eq_true hb)
      go_wp2_with fail
      go_ret
      exact ⟨A, q, rfl, own_base hown (by omega), Hlow.out _ hL⟩
set_option maxRecDepth 10000 in
set_option maxHeartbeats 4000000 in
theorem ringS_any (n R : Nat) (P B Q h : ByteArray) (gv Vb : Value) (bobs : List ByteArray) (w : World) (hn : n ≤ 8) (hP : RowIn n P) (hB : RowIn n B) (hit : ∀ j, RowIn n (iterB (nxB bobs P B) h j)) (hV : Strs w Vb bobs) (hs : SortedS bobs) (hbl : bobs.length ≤ 1000000) (hR : IsRing (nxB bobs P B) h R) (hRb : R ≤ 1000000) :
    Calls Try.prog 129 #[.agg #[.string P, .string B, .string Q, gv], Vb, .string h] w fun e w' => ∃ A q, e = .returned (.slice A R q) ∧ w'.ownsRow w.heap.size 9 1 (.slice A R q) R ((ringL (nxB bobs P B) h R).map Value.string) ∧ Below w.heap.size w w' := by
  have Hnx := Lib.hid (fun j W (hW : Below w.heap.size w W) => nextS_any n P B Q (iterB (nxB bobs P B) h j) gv Vb bobs W hn hP hB (hit j) (hV.to hW) hs hbl)
  have HR := Lib.hid hR
  have hR1 := hR.1
  obtain ⟨nx, hnx⟩ : ∃ f, f = nxB bobs P B := ⟨_, rfl⟩
  have Hit : Hid (∀ j, nxB bobs P B (iterB nx h j) = iterB nx h (j + 1)) := Lib.hid (fun j => by rw [hnx]; rfl)
  simp only [← hnx] at Hnx HR Hit ⊢
  have H0 : Hid (iterB nx h 0 = h) := Lib.hid rfl
  clear hV hs hP hB hit hR hnx
  go_enter Try.func129, Try.ntmps129
  go_wp2_with fail
  refine box2 (C := fun W => Calls _ _ _ W _) ?_
  intro wb hw k1 k2 hB0
  have R1 := boxRule k1
  have hown0 : wb.ownsRow (w.heap.size + 1) 9 1 (.slice (some ⟨w.heap.size + 1, 0, none⟩) 1 1) 1 ((ringL nx h 1).map Value.string) := own_of_heap k2 (Nat.le_refl _) (by unfold maxLen; omega) rfl
  have hl2 := blk_lt k2
  have RB := fun i W (hW : Below (w.heap.size + 1) wb W) => boxRuleB k1 (by omega) W i hW
  have hlow : ∀ W, Below (w.heap.size + 1) wb W → Below w.heap.size w W := fun W hW => hw.trans (hW.mono (by omega))
  have Hlow := Lib.hid hlow
  have hn0 := Hnx.out 0 wb hw
  rw [H0.out] at hn0
  have e0 := Hit.out 0
  rw [H0.out] at e0
  rw [e0] at hn0
  have Hn0 := Lib.hid hn0
  clear k1 k2 hlow hn0 e0 H0 R1
  refine Hn0.out.mono ?_; rintro e w1 ⟨rfl, hb1⟩
  have hown1 := own_to hown0 hb1
  have hL1 : Below (w.heap.size + 1) wb w1 := hb1.mono (by omega)
  have hz1 : wb.heap.size ≤ w1.heap.size := hb1.size
  clear hown0 Hn0
  go_wp2_with fail
  go_loopw [7, 8] (fun o r wr => ∃ (j : Nat) (A : Option Addr) (q : Nat), 1 ≤ j ∧ j ≤ R ∧ r = .string (iterB nx h j) ∧ o = .slice A j q ∧ wr.ownsRow (w.heap.size + 1) 9 1 (.slice A j q) j ((ringL nx h j).map Value.string) ∧ Below (w.heap.size + 1) wb wr ∧ wb.heap.size ≤ wr.heap.size) (fun o _ _ => R - lenV o)
  case atStart => exact ⟨1, _, 1, by omega, by omega, rfl, rfl, hown1, hL1, hz1⟩
  case round =>
    obtain ⟨j, A, q, h1j, hj, rfl, rfl, hown, hL, hz⟩ := hrel
    have R2 := fun i => RB i wr hL
    have Hst := Lib.hid (ring_stop HR.out h1j hj)
    have Hgo := Lib.hid (ring_go HR.out hj)
    have Hs : Hid (ringL nx h (j + 1) = ringL nx h j ++ [iterB nx h j]) := Lib.hid (ringL_succ nx h j)
    have Hnj := Lib.hid (fun W hW => Hnx.out j W hW)
    have Hij := Lib.hid (Hit.out j)
    rw [Hij.out] at Hnj
    have Hx1 : Hid (iterB nx h (j + 1) = iterB nx h (j + 1)) := Lib.hid rfl
    obtain ⟨y, hy⟩ : ∃ y, y = iterB nx h (j + 1) := ⟨_, rfl⟩
    have Hy := Lib.hid hy
    rw [← hy] at Hnj
    obtain ⟨x, hx⟩ : ∃ x, x = iterB nx h j := ⟨_, rfl⟩
    rw [← hx] at Hst Hgo Hs Hnj ⊢
    clear hx hy Hij Hx1
    have He := Lib.hid (sl_beq x h)
    cases hb : (x.toList == h.toList)
    · have hlt := Hgo.out (fun e => by rw [He.out, decide_eq_true e] at hb; cases hb)
      go_wp2_with (at_builtin; go_must (refine wpList_app _ rfl _ _ _ rfl (w.heap.size + 1) 9 _ 1 16 Try.underlying22 info_str rfl (by omega) hown [.string x] rfl rfl rfl (one_mem rfl) (by omega) (by omega) (by omega) ?_); intro v2 w3 hown3 hb3 hg3 _; (have hL3 := hL.trans hb3); (have R3 := fun i => RB i w3 hL3))
      refine (Hnj.out _ (Hlow.out _ hL3)).mono ?_; rintro e w4 ⟨rfl, hb4⟩
      have hz3 : wb.heap.size ≤ w3.heap.size := by have := hg3.size; omega
      have hown4 := own_to hown3 hb4
      have hL4 : Below (w.heap.size + 1) wb w4 := hL3.trans (hb4.mono (by omega))
      have hz4 : wb.heap.size ≤ w4.heap.size := Nat.le_trans hz3 hb4.size
      obtain ⟨A2, q2, e2, _⟩ := sl_of_own hown4
      subst e2
      rw [str_snoc Hs.out] at hown4
      clear hown hown3 R2 R3
      go_wp2_with fail
      exact ⟨⟨j + 1, A2, q2, by omega, by omega, by rw [Hy.out], rfl, hown4, hL4, hz4⟩, by simp [lenV]; omega⟩
    · obtain rfl := Hst.out (by rw [He.out] at hb; exact of_decide_eq_true hb)
      go_wp2_with fail
      go_ret
      exact ⟨A, q, rfl, own_base hown (by omega), Hlow.out _ hL⟩
end Go.Proofs.Ythgadnhkbmimiaa

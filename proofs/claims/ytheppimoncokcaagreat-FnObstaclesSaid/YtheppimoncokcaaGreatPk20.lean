/- Contracts: is a row among rising rows, is it among rows; the next head; the ring of a head. -/
import Derived.Test.YtheppimoncokcaaGreatPk19
namespace Go.Proofs.YtheppimoncokcaaGreat
open Go Go.RowKit
set_option linter.unusedVariables false
set_option linter.unusedSimpArgs false

theorem isNaNs_any (x : ByteArray) (w : World) : Calls Tryz.prog 117 #[.string x] w fun e w' => e = .returned (.bool false) ∧ w = w' := by
  go_enter Tryz.func117, Tryz.ntmps117
  go_wp2_with fail
  go_ret
  exact ⟨ret_bool (by simp), rfl⟩
theorem isNaNc_any (x : ByteArray) (w : World) : Calls Tryz.prog 136 #[.string x] w fun e w' => e = .returned (.bool false) ∧ w = w' := by
  go_enter Tryz.func136, Tryz.ntmps136
  go_wp2_with fail
  go_ret
  exact ⟨ret_bool (by simp), rfl⟩
theorem lessStr_any (x y : ByteArray) (w : World) : Calls Tryz.prog 116 #[.string x, .string y] w fun e w' => e = .returned (.bool (nmLt x y)) ∧ w = w' := by
  unfold nmLt
  go_enter Tryz.func116, Tryz.ntmps116
  go_wp2_with (go_at_call 136; refine (isNaNc_any _ _).mono ?_; rintro e w' ⟨rfl, rfl⟩)
  go_ret
  exact ⟨rfl, rfl⟩
theorem bs_up {l : List ByteArray} {r : ByteArray} {h : Nat} (hs : SortedS l) (hh : h < l.length) (e : nmLt l[h] r = true) : ∀ k (hk : k < l.length), k < h + 1 → nmLt l[k] r = true := by
  intro k hk hk2
  rcases Nat.lt_or_ge k h with h3 | h3
  · cases hx : nmLt l[k] r
    · have h5 := (List.pairwise_iff_getElem.1 hs) k h hk hh h3
      rw [le_trans' hx h5] at e
      cases e
    · rfl
  · obtain rfl : k = h := by omega
    exact e
theorem bs_dn {l : List ByteArray} {r : ByteArray} {h : Nat} (hs : SortedS l) (hh : h < l.length) (e : nmLt l[h] r = false) : ∀ k (hk : k < l.length), h ≤ k → nmLt l[k] r = false := by
  intro k hk hk2
  rcases Nat.eq_or_lt_of_le hk2 with e2 | h4
  · subst e2; exact e
  · exact le_trans' e ((List.pairwise_iff_getElem.1 hs) h k hh hk h4)
set_option maxRecDepth 10000 in
set_option maxHeartbeats 2000000 in
theorem binSearch_any (V : Value) (l : List ByteArray) (r : ByteArray) (w : World) (hV : Strs w V l) (hs : SortedS l) (hl : l.length ≤ 1000000) : Calls Tryz.prog 86 #[V, .string r] w fun e w' => (∃ i : Nat, e = .returned (.tuple #[.int .i64 i, .bool (decide (r ∈ l))])) ∧ w = w' := by
  obtain ⟨A, c, rfl, h1, h2, hrd⟩ := hV
  unfold maxLen at h2
  have Hs := Lib.hid hs
  clear hs
  go_enter Tryz.func86, Tryz.ntmps86
  go_wp2_with fail
  go_loop [7, 8] (fun a b => ∃ i j : Nat, i ≤ j ∧ j ≤ l.length ∧ a = .int .i64 i ∧ b = .int .i64 j ∧ (∀ k (h : k < l.length), k < i → nmLt l[k] r = true) ∧ (∀ k (h : k < l.length), j ≤ k → nmLt l[k] r = false)) (fun a b => (intOf b).toNat - (intOf a).toNat)
  case atStart => exact ⟨0, l.length, by omega, by omega, rfl, rfl, fun k h hk => absurd hk (by omega), fun k h hk => absurd h (by omega)⟩
  case round =>
    obtain ⟨i, j, hij, hj, rfl, rfl, hlo, hhi⟩ := hrel
    have Hlo := Lib.hid hlo
    have Hhi := Lib.hid hhi
    clear hlo hhi
    by_cases hlt : i < j
    · obtain ⟨h, hh⟩ : ∃ h, h = (i + j) / 2 := ⟨_, rfl⟩
      have hh1 : i ≤ h := by omega
      have hh2 : h < j := by omega
      have hhl : h < l.length := by omega
      have hu1 : IntKind.u64.wrap ((i : Int) + j) = (i : Int) + j := IntWalk.u64_in _ ⟨by omega, by omega⟩
      have hu2 : ((i : Int) + j) / 2 = (h : Int) := by omega
      have hu3 : ((i : Int) + j).tdiv 2 = (h : Int) := by rw [Int.tdiv_eq_ediv_of_nonneg (by omega)]; omega
      obtain ⟨ad, rfl, hC⟩ := strs_el hrd hhl
      have hC0 := hC w (Below.refl _ _)
      have H1 : Hid (nmLt l[h] r = true → ∀ k (h' : k < l.length), k < h + 1 → nmLt l[k] r = true) := Lib.hid (fun e => bs_up Hs.out hhl e)
      have H2 : Hid (nmLt l[h] r = false → ∀ k (h' : k < l.length), h ≤ k → nmLt l[k] r = false) := Lib.hid (fun e => bs_dn Hs.out hhl e)
      obtain ⟨x, hx⟩ : ∃ x, x = l[h] := ⟨_, rfl⟩
      rw [← hx] at hC0
      have H1' : Hid (nmLt x r = true → ∀ k (h' : k < l.length), k < h + 1 → nmLt l[k] r = true) := Lib.hid (by rw [hx]; exact H1.out)
      have H2' : Hid (nmLt x r = false → ∀ k (h' : k < l.length), h ≤ k → nmLt l[k] r = false) := Lib.hid (by rw [hx]; exact H2.out)
      clear hC hx hh H1 H2
      cases hb : nmLt x r
      · have Hb := Lib.hid hb
        clear hb
        go_wp2_with (go_at_call 116; refine (lessStr_any _ _ _).mono ?_; rintro e w' ⟨rfl, rfl⟩; rw [Hb.out])
        exact ⟨⟨i, h, by omega, by omega, by go_num, by go_num, Hlo.out, H2'.out Hb.out⟩, by simp [intOf]; omega⟩
      · have Hb := Lib.hid hb
        clear hb
        go_wp2_with (go_at_call 116; refine (lessStr_any _ _ _).mono ?_; rintro e w' ⟨rfl, rfl⟩; rw [Hb.out])
        exact ⟨⟨h + 1, j, by omega, by omega, by go_num, by go_num, H1'.out Hb.out, Hhi.out⟩, by simp [intOf]; omega⟩
    · obtain rfl : i = j := by omega
      have Hm := Lib.hid (search_mem (l := l) (r := r) Hs.out hj Hlo.out Hhi.out)
      by_cases hil : i < l.length
      · obtain ⟨ad, rfl, hC⟩ := strs_el hrd hil
        have hC0 := hC w (Below.refl _ _)
        have He := Lib.hid (sl_beq l[i] r)
        obtain ⟨x, hx⟩ : ∃ x, x = l[i] := ⟨_, rfl⟩
        have Hm2 : Hid (r ∈ l ↔ x = r) := Lib.hid (Hm.out.trans ⟨fun ⟨_, e⟩ => hx.trans e, fun e => ⟨hil, hx.symm.trans e⟩⟩)
        rw [← hx] at hC0 He
        clear hC hx
        cases hb : (x.toList == r.toList)
        · have hd : decide (r ∈ l) = false := decide_eq_false (fun h => by have e := Hm2.out.1 h; rw [He.out, decide_eq_true e] at hb; cases hb)
          have Hd := Lib.hid hd
          clear hd
          go_wp2_with (go_at_call 117; refine (isNaNs_any _ _).mono ?_; rintro e w' ⟨rfl, rfl⟩)
          go_ret2
          exact ⟨⟨i, by rw [Hd.out]; rfl⟩, rfl⟩
        · have hd : decide (r ∈ l) = true := decide_eq_true (Hm2.out.2 (by rw [He.out] at hb; exact of_decide_eq_true hb))
          have Hd := Lib.hid hd
          clear hd
          go_wp2_with (go_at_call 117; refine (isNaNs_any _ _).mono ?_; rintro e w' ⟨rfl, rfl⟩)
          go_ret2
          exact ⟨⟨i, by rw [Hd.out]; rfl⟩, rfl⟩
      · have hd : decide (r ∈ l) = false := decide_eq_false (fun h => by obtain ⟨h3, _⟩ := Hm.out.1 h; exact hil h3)
        have Hd := Lib.hid hd
        clear hd
        go_wp2_with fail
        go_ret2
        exact ⟨⟨i, by rw [Hd.out]; rfl⟩, rfl⟩
theorem has_any (V : Value) (l : List ByteArray) (r : ByteArray) (w : World) (hV : Strs w V l) (hs : SortedS l) (hl : l.length ≤ 1000000) : Calls Tryz.prog 50 #[V, .string r] w fun e w' => e = .returned (.bool (decide (r ∈ l))) ∧ w = w' := by
  have H := Lib.hid (binSearch_any V l r w hV hs hl)
  obtain ⟨b, hb⟩ : ∃ b, b = decide (r ∈ l) := ⟨_, rfl⟩
  rw [← hb] at H ⊢
  clear hV hs hb
  go_enter Tryz.func50, Tryz.ntmps50
  go_wp2_with fail
  refine H.out.mono ?_; rintro e w' ⟨⟨i, rfl⟩, rfl⟩
  go_wp2_with fail
  go_ret
  exact ⟨rfl, rfl⟩
set_option maxHeartbeats 2000000 in
theorem l1HasS_any (V : Value) (l : List ByteArray) (r : ByteArray) (w : World) (hV : Strs w V l) : Calls Tryz.prog 53 #[V, .string r] w fun e w' => e = .returned (.bool (decide (r ∈ l))) ∧ w = w' := by
  obtain ⟨A, c, rfl, h1, h2, hrd⟩ := hV
  unfold maxLen at h2
  go_enter Tryz.func53, Tryz.ntmps53
  go_wp2_with fail
  go_loop [9] (fun i => ∃ k : Nat, k ≤ l.length ∧ i = .int .i64 k ∧ r ∉ l.take k) (fun i => l.length - (intOf i).toNat)
  case atStart => exact ⟨0, by omega, rfl, by simp⟩
  case round =>
    obtain ⟨k, hk, rfl, hn⟩ := hrel
    have Hn := Lib.hid hn
    clear hn
    by_cases hlt : k < l.length
    · obtain ⟨ad, rfl, hC⟩ := strs_el hrd hlt
      have hC0 := hC w (Below.refl _ _)
      have He := Lib.hid (sl_beq l[k] r)
      have Hno : Hid (l[k] ≠ r → r ∉ l.take (k + 1)) := Lib.hid (fun h hm => by
        rw [List.take_succ_eq_append_getElem hlt, List.mem_append, List.mem_singleton] at hm
        rcases hm with hm | hm
        · exact Hn.out hm
        · exact h hm.symm)
      have Hyes : Hid (l[k] = r → r ∈ l) := Lib.hid (fun h => by rw [← h]; exact List.getElem_mem hlt)
      obtain ⟨x, hx⟩ : ∃ x, x = l[k] := ⟨_, rfl⟩
      rw [← hx] at hC0 He Hno Hyes
      clear hC hx
      cases hb : (x.toList == r.toList)
      · have Hne : Hid (x ≠ r) := Lib.hid (fun e => by rw [He.out, decide_eq_true e] at hb; cases hb)
        go_wp2_with fail
        exact ⟨⟨k + 1, by omega, by go_num, Hno.out Hne.out⟩, by simp [intOf]; omega⟩
      · have Hd := Lib.hid (decide_eq_true (Hyes.out (by rw [He.out] at hb; exact of_decide_eq_true hb)))
        go_wp2_with fail
        go_ret
        exact ⟨ret_bool Hd.out.symm, rfl⟩
    · have Hd := Lib.hid (decide_eq_false (fun h : r ∈ l => Hn.out (by rw [List.take_of_length_le (by omega)]; exact h)))
      go_wp2_with fail
      go_ret
      exact ⟨ret_bool Hd.out.symm, rfl⟩
end Go.Proofs.YtheppimoncokcaaGreat

/- Contracts: the next head, the ring of a head, both sides. (Printed by a program: mkHH.) -/
namespace Go.Proofs.YtheppimoncokcaaGreat
open Go Go.RowKit
set_option linter.unusedVariables false
set_option linter.unusedSimpArgs false

set_option maxHeartbeats 2000000 in
theorem nextI_any (n : Nat) (P B Q h : ByteArray) (gv Vb : Value) (bobs : List ByteArray) (w : World) (hn : n ≤ 8) (hP : RowIn n P) (hB : RowIn n B) (hh : RowIn n h) (hV : Strs w Vb bobs) (hs : SortedS bobs) (hbl : bobs.length ≤ 1000000) :
    Calls Tryz.prog 51 #[.agg #[.string P, .string B, gv, .string Q], Vb, .string h] w fun e w' => e = .returned (.string (nxB bobs P B h)) ∧ Below w.heap.size w w' := by
  have Hb := Lib.hid (fun W (hW : Below w.heap.size w W) => hV.to hW)
  have Hs := Lib.hid hs
  have Htb := Lib.hid (fun W => times_any h B W (by rw [hh.1]; omega) (by rw [hB.1]; omega) (row_hin hh.1 hB))
  have Htp := Lib.hid (fun W => times_any h P W (by rw [hh.1]; omega) (by rw [hP.1]; omega) (row_hin hh.1 hP))
  have Hy : Hid (h ∈ bobs → nxB bobs P B h = timesB h B) := Lib.hid (fun e => by unfold nxB; rw [if_pos e])
  have Hn : Hid (h ∉ bobs → nxB bobs P B h = timesB h P) := Lib.hid (fun e => by unfold nxB; rw [if_neg e])
  clear hV hs hP hB hh
  by_cases hm : h ∈ bobs
  · have Hd := Lib.hid (decide_eq_true hm)
    have HE := Lib.hid (Hy.out hm)
    clear hm
    go_enter Tryz.func51, Tryz.ntmps51
    go_wp2_with fail
    refine box1 (C := fun W => Calls _ _ _ W _) ?_
    intro wb hw k1 hB0
    have R1 := boxRule k1
    clear k1
    (try refine (has_any Vb bobs h wb (Hb.out wb hw) Hs.out hbl).mono ?_; rintro e w' ⟨rfl, rfl⟩; rw [Hd.out]; go_wp2_with fail)
    refine (Htb.out _).mono ?_; rintro e w2 ⟨rfl, hb2⟩
    go_wp2_with fail
    go_ret
    exact ⟨ret_str HE.out.symm, bw_to hw hb2⟩
  · have Hd := Lib.hid (decide_eq_false hm)
    have HE := Lib.hid (Hn.out hm)
    clear hm
    go_enter Tryz.func51, Tryz.ntmps51
    go_wp2_with fail
    refine box1 (C := fun W => Calls _ _ _ W _) ?_
    intro wb hw k1 hB0
    have R1 := boxRule k1
    clear k1
    (try refine (has_any Vb bobs h wb (Hb.out wb hw) Hs.out hbl).mono ?_; rintro e w' ⟨rfl, rfl⟩; rw [Hd.out]; go_wp2_with fail)
    refine (Htp.out _).mono ?_; rintro e w2 ⟨rfl, hb2⟩
    go_wp2_with fail
    go_ret
    exact ⟨ret_str HE.out.symm, bw_to hw hb2⟩
set_option maxHeartbeats 2000000 in
theorem nextS_any (n : Nat) (P B Q h : ByteArray) (gv Vb : Value) (bobs : List ByteArray) (w : World) (hn : n ≤ 8) (hP : RowIn n P) (hB : RowIn n B) (hh : RowIn n h) (hV : Strs w Vb bobs) (hs : SortedS bobs) (hbl : bobs.length ≤ 1000000) :
    Calls Tryz.prog 54 #[.agg #[.string P, .string B, .string Q, gv], Vb, .string h] w fun e w' => e = .returned (.string (nxB bobs P B h)) ∧ Below w.heap.size w w' := by
  have Hb := Lib.hid (fun W (hW : Below w.heap.size w W) => hV.to hW)
  have Hs := Lib.hid hs
  have Htb := Lib.hid (fun W => l1Times_any h B W (by rw [hh.1]; omega) (by rw [hB.1]; omega) (row_hin hh.1 hB))
  have Htp := Lib.hid (fun W => l1Times_any h P W (by rw [hh.1]; omega) (by rw [hP.1]; omega) (row_hin hh.1 hP))
  have Hy : Hid (h ∈ bobs → nxB bobs P B h = timesB h B) := Lib.hid (fun e => by unfold nxB; rw [if_pos e])
  have Hn : Hid (h ∉ bobs → nxB bobs P B h = timesB h P) := Lib.hid (fun e => by unfold nxB; rw [if_neg e])
  clear hV hs hP hB hh
  by_cases hm : h ∈ bobs
  · have Hd := Lib.hid (decide_eq_true hm)
    have HE := Lib.hid (Hy.out hm)
    clear hm
    go_enter Tryz.func54, Tryz.ntmps54
    go_wp2_with fail
    refine box1 (C := fun W => Calls _ _ _ W _) ?_
    intro wb hw k1 hB0
    have R1 := boxRule k1
    clear k1
    (try refine (l1HasS_any Vb bobs h wb (Hb.out wb hw)).mono ?_; rintro e w' ⟨rfl, rfl⟩; rw [Hd.out]; go_wp2_with fail)
    refine (Htb.out _).mono ?_; rintro e w2 ⟨rfl, rfl⟩
    go_wp2_with fail
    go_ret
    exact ⟨ret_str HE.out.symm, hw⟩
  · have Hd := Lib.hid (decide_eq_false hm)
    have HE := Lib.hid (Hn.out hm)
    clear hm
    go_enter Tryz.func54, Tryz.ntmps54
    go_wp2_with fail
    refine box1 (C := fun W => Calls _ _ _ W _) ?_
    intro wb hw k1 hB0
    have R1 := boxRule k1
    clear k1
    (try refine (l1HasS_any Vb bobs h wb (Hb.out wb hw)).mono ?_; rintro e w' ⟨rfl, rfl⟩; rw [Hd.out]; go_wp2_with fail)
    refine (Htp.out _).mono ?_; rintro e w2 ⟨rfl, rfl⟩
    go_wp2_with fail
    go_ret
    exact ⟨ret_str HE.out.symm, hw⟩
set_option maxRecDepth 10000 in
set_option maxHeartbeats 4000000 in
theorem ringI_any (n R : Nat) (P B Q h : ByteArray) (gv Vb : Value) (bobs : List ByteArray) (w : World) (hn : n ≤ 8) (hP : RowIn n P) (hB : RowIn n B) (hit : ∀ j, RowIn n (iterB (nxB bobs P B) h j)) (hV : Strs w Vb bobs) (hs : SortedS bobs) (hbl : bobs.length ≤ 1000000) (hR : IsRing (nxB bobs P B) h R) (hRb : R ≤ 1000000) :
    Calls Tryz.prog 67 #[.agg #[.string P, .string B, gv, .string Q], Vb, .string h] w fun e w' => ∃ A q, e = .returned (.slice A R q) ∧ w'.ownsRow w.heap.size 9 1 (.slice A R q) R ((ringL (nxB bobs P B) h R).map Value.string) ∧ Below w.heap.size w w' := by
  have Hnx := Lib.hid (fun j W (hW : Below w.heap.size w W) => nextI_any n P B Q (iterB (nxB bobs P B) h j) gv Vb bobs W hn hP hB (hit j) (hV.to hW) hs hbl)
  have HR := Lib.hid hR
  have hR1 := hR.1
  obtain ⟨nx, hnx⟩ : ∃ f, f = nxB bobs P B := ⟨_, rfl⟩
  have Hit : Hid (∀ j, nxB bobs P B (iterB nx h j) = iterB nx h (j + 1)) := Lib.hid (fun j => by rw [hnx]; rfl)
  simp only [← hnx] at Hnx HR Hit ⊢
  have H0 : Hid (iterB nx h 0 = h) := Lib.hid rfl
  clear hV hs hP hB hit hR hnx
  go_enter Tryz.func67, Tryz.ntmps67
  go_wp2_with fail
  refine box2 (C := fun W => Calls _ _ _ W _) ?_
  intro wb hw k1 k2 hB0
  have R1 := boxRule k1
  have hown0 : wb.ownsRow (w.heap.size + 1) 9 1 (.slice (some ⟨w.heap.size + 1, 0, none⟩) 1 1) 1 ((ringL nx h 1).map Value.string) := own_of_heap k2 (Nat.le_refl _) (by unfold maxLen; omega) rfl
  have hl2 := blk_lt k2
  have RB := fun i W (hW : Below (w.heap.size + 1) wb W) => boxRuleB k1 (by omega) W i hW
  have hlow : ∀ W, Below (w.heap.size + 1) wb W → Below w.heap.size w W := fun W hW => hw.trans (hW.mono (by omega))
  have Hlow := Lib.hid hlow
  have hn0 := Hnx.out 0 wb hw
  rw [H0.out] at hn0
  have e0 := Hit.out 0
  rw [H0.out] at e0
  rw [e0] at hn0
  have Hn0 := Lib.hid hn0
  clear k1 k2 hlow hn0 e0 H0 R1
  refine Hn0.out.mono ?_; rintro e w1 ⟨rfl, hb1⟩
  have hown1 := own_to hown0 hb1
  have hL1 : Below (w.heap.size + 1) wb w1 := hb1.mono (by omega)
  have hz1 : wb.heap.size ≤ w1.heap.size := hb1.size
  clear hown0 Hn0
  go_wp2_with fail
  go_loopw [7, 8] (fun o r wr => ∃ (j : Nat) (A : Option Addr) (q : Nat), 1 ≤ j ∧ j ≤ R ∧ r = .string (iterB nx h j) ∧ o = .slice A j q ∧ wr.ownsRow (w.heap.size + 1) 9 1 (.slice A j q) j ((ringL nx h j).map Value.string) ∧ Below (w.heap.size + 1) wb wr ∧ wb.heap.size ≤ wr.heap.size) (fun o _ _ => R - lenV o)
  case atStart => exact ⟨1, _, 1, by omega, by omega, rfl, rfl, hown1, hL1, hz1⟩
  case round =>
    obtain ⟨j, A, q, h1j, hj, rfl, rfl, hown, hL, hz⟩ := hrel
    have R2 := fun i => RB i wr hL
    have Hst := Lib.hid (ring_stop HR.out h1j hj)
    have Hgo := Lib.hid (ring_go HR.out hj)
    have Hs : Hid (ringL nx h (j + 1) = ringL nx h j ++ [iterB nx h j]) := Lib.hid (ringL_succ nx h j)
    have Hnj := Lib.hid (fun W hW => Hnx.out j W hW)
    have Hij := Lib.hid (Hit.out j)
    rw [Hij.out] at Hnj
    have Hx1 : Hid (iterB nx h (j + 1) = iterB nx h (j + 1)) := Lib.hid rfl
    obtain ⟨y, hy⟩ : ∃ y, y = iterB nx h (j + 1) := ⟨_, rfl⟩
    have Hy := Lib.hid hy
    rw [← hy] at Hnj
    obtain ⟨x, hx⟩ : ∃ x, x = iterB nx h j := ⟨_, rfl⟩
    rw [← hx] at Hst Hgo Hs Hnj ⊢
    clear hx hy Hij Hx1
    have He := Lib.hid (sl_beq x h)
    cases hb : (x.toList == h.toList)
    · have hlt := Hgo.out (fun e => by rw [He.out, decide_eq_true e] at hb; cases hb)
      go_wp2_with (at_builtin; go_must (refine wpList_app _ rfl _ _ _ rfl (w.heap.size + 1) 9 _ 1 16 Tryz.underlying24 info_str rfl (by omega) hown [.string x] rfl rfl rfl (one_mem rfl) (by omega) (by omega) (by omega) ?_); intro v2 w3 hown3 hb3 hg3 _; (have hL3 := hL.trans hb3); (have R3 := fun i => RB i w3 hL3))
      refine (Hnj.out _ (Hlow.out _ hL3)).mono ?_; rintro e w4 ⟨rfl, hb4⟩
      have hz3 : wb.heap.size ≤ w3.heap.size := by have := hg3.size; omega
      have hown4 := own_to hown3 hb4
      have hL4 : Below (w.heap.size + 1) wb w4 := hL3.trans (hb4.mono (by omega))
      have hz4 : wb.heap.size ≤ w4.heap.size := Nat.le_trans hz3 hb4.size
      obtain ⟨A2, q2, e2, _⟩ := sl_of_own hown4
      subst e2
      rw [str_snoc Hs.out] at hown4
      clear hown hown3 R2 R3
      go_wp2_with fail
      exact ⟨⟨j + 1, A2, q2, by omega, by omega, by rw [Hy.out], rfl, hown4, hL4, hz4⟩, by simp [lenV]; omega⟩
    · obtain rfl := Hst.out (by rw [He.out] at hb; exact of_decide_eq_true hb)
      go_wp2_with fail
      go_ret
      exact ⟨A, q, rfl, own_base hown (by omega), Hlow.out _ hL⟩
set_option maxRecDepth 10000 in
set_option maxHeartbeats 4000000 in
theorem ringS_any (n R : Nat) (P B Q h : ByteArray) (gv Vb : Value) (bobs : List ByteArray) (w : World) (hn : n ≤ 8) (hP : RowIn n P) (hB : RowIn n B) (hit : ∀ j, RowIn n (iterB (nxB bobs P B) h j)) (hV : Strs w Vb bobs) (hs : SortedS bobs) (hbl : bobs.length ≤ 1000000) (hR : IsRing (nxB bobs P B) h R) (hRb : R ≤ 1000000) :
    Calls Tryz.prog 70 #[.agg #[.string P, .string B, .string Q, gv], Vb, .string h] w fun e w' => ∃ A q, e = .returned (.slice A R q) ∧ w'.ownsRow w.heap.size 9 1 (.slice A R q) R ((ringL (nxB bobs P B) h R).map Value.string) ∧ Below w.heap.size w w' := by
  have Hnx := Lib.hid (fun j W (hW : Below w.heap.size w W) => nextS_any n P B Q (iterB (nxB bobs P B) h j) gv Vb bobs W hn hP hB (hit j) (hV.to hW) hs hbl)
  have HR := Lib.hid hR
  have hR1 := hR.1
  obtain ⟨nx, hnx⟩ : ∃ f, f = nxB bobs P B := ⟨_, rfl⟩
  have Hit : Hid (∀ j, nxB bobs P B (iterB nx h j) = iterB nx h (j + 1)) := Lib.hid (fun j => by rw [hnx]; rfl)
  simp only [← hnx] at Hnx HR Hit ⊢
  have H0 : Hid (iterB nx h 0 = h) := Lib.hid rfl
  clear hV hs hP hB hit hR hnx
  go_enter Tryz.func70, Tryz.ntmps70
  go_wp2_with fail
  refine box2 (C := fun W => Calls _ _ _ W _) ?_
  intro wb hw k1 k2 hB0
  have R1 := boxRule k1
  have hown0 : wb.ownsRow (w.heap.size + 1) 9 1 (.slice (some ⟨w.heap.size + 1, 0, none⟩) 1 1) 1 ((ringL nx h 1).map Value.string) := own_of_heap k2 (Nat.le_refl _) (by unfold maxLen; omega) rfl
  have hl2 := blk_lt k2
  have RB := fun i W (hW : Below (w.heap.size + 1) wb W) => boxRuleB k1 (by omega) W i hW
  have hlow : ∀ W, Below (w.heap.size + 1) wb W → Below w.heap.size w W := fun W hW => hw.trans (hW.mono (by omega))
  have Hlow := Lib.hid hlow
  have hn0 := Hnx.out 0 wb hw
  rw [H0.out] at hn0
  have e0 := Hit.out 0
  rw [H0.out] at e0
  rw [e0] at hn0
  have Hn0 := Lib.hid hn0
  clear k1 k2 hlow hn0 e0 H0 R1
  refine Hn0.out.mono ?_; rintro e w1 ⟨rfl, hb1⟩
  have hown1 := own_to hown0 hb1
  have hL1 : Below (w.heap.size + 1) wb w1 := hb1.mono (by omega)
  have hz1 : wb.heap.size ≤ w1.heap.size := hb1.size
  clear hown0 Hn0
  go_wp2_with fail
  go_loopw [7, 8] (fun o r wr => ∃ (j : Nat) (A : Option Addr) (q : Nat), 1 ≤ j ∧ j ≤ R ∧ r = .string (iterB nx h j) ∧ o = .slice A j q ∧ wr.ownsRow (w.heap.size + 1) 9 1 (.slice A j q) j ((ringL nx h j).map Value.string) ∧ Below (w.heap.size + 1) wb wr ∧ wb.heap.size ≤ wr.heap.size) (fun o _ _ => R - lenV o)
  case atStart => exact ⟨1, _, 1, by omega, by omega, rfl, rfl, hown1, hL1, hz1⟩
  case round =>
    obtain ⟨j, A, q, h1j, hj, rfl, rfl, hown, hL, hz⟩ := hrel
    have R2 := fun i => RB i wr hL
    have Hst := Lib.hid (ring_stop HR.out h1j hj)
    have Hgo := Lib.hid (ring_go HR.out hj)
    have Hs : Hid (ringL nx h (j + 1) = ringL nx h j ++ [iterB nx h j]) := Lib.hid (ringL_succ nx h j)
    have Hnj := Lib.hid (fun W hW => Hnx.out j W hW)
    have Hij := Lib.hid (Hit.out j)
    rw [Hij.out] at Hnj
    have Hx1 : Hid (iterB nx h (j + 1) = iterB nx h (j + 1)) := Lib.hid rfl
    obtain ⟨y, hy⟩ : ∃ y, y = iterB nx h (j + 1) := ⟨_, rfl⟩
    have Hy := Lib.hid hy
    rw [← hy] at Hnj
    obtain ⟨x, hx⟩ : ∃ x, x = iterB nx h j := ⟨_, rfl⟩
    rw [← hx] at Hst Hgo Hs Hnj ⊢
    clear hx hy Hij Hx1
    have He := Lib.hid (sl_beq x h)
    cases hb : (x.toList == h.toList)
    · have hlt := Hgo.out (fun e => by rw [He.out, decide_eq_true e] at hb; cases hb)
      go_wp2_with (at_builtin; go_must (refine wpList_app _ rfl _ _ _ rfl (w.heap.size + 1) 9 _ 1 16 Tryz.underlying24 info_str rfl (by omega) hown [.string x] rfl rfl rfl (one_mem rfl) (by omega) (by omega) (by omega) ?_); intro v2 w3 hown3 hb3 hg3 _; (have hL3 := hL.trans hb3); (have R3 := fun i => RB i w3 hL3))
      refine (Hnj.out _ (Hlow.out _ hL3)).mono ?_; rintro e w4 ⟨rfl, hb4⟩
      have hz3 : wb.heap.size ≤ w3.heap.size := by have := hg3.size; omega
      have hown4 := own_to hown3 hb4
      have hL4 : Below (w.heap.size + 1) wb w4 := hL3.trans (hb4.mono (by omega))
      have hz4 : wb.heap.size ≤ w4.heap.size := Nat.le_trans hz3 hb4.size
      obtain ⟨A2, q2, e2, _⟩ := sl_of_own hown4
      subst e2
      rw [str_snoc Hs.out] at hown4
      clear hown hown3 R2 R3
      go_wp2_with fail
      exact ⟨⟨j + 1, A2, q2, by omega, by omega, by rw [Hy.out], rfl, hown4, hL4, hz4⟩, by simp [lenV]; omega⟩
    · obtain rfl := Hst.out (by rw [He.out] at hb; exact of_decide_eq_true hb)
      go_wp2_with fail
      go_ret
      exact ⟨A, q, rfl, own_base hown (by omega), Hlow.out _ hL⟩
end Go.Proofs.YtheppimoncokcaaGreat

/- Contract: the halves of a list (the reference's). -/
import Derived.Test.YtenhnloljdfjhaaDoorPk24
namespace Go.Proofs.YtenhnloljdfjhaaDoor
open Go Go.RowKit
set_option linter.unusedVariables false
set_option linter.unusedSimpArgs false

set_option maxRecDepth 10000 in
set_option maxHeartbeats 4000000 in
theorem l3Halves_any (ad : Addr) (c : Nat) (l : List ByteArray) (w : World) (h : Strs w (.slice (some ad) l.length c) l) (h0 : 0 < l.length) (hlen : l.length ≤ 1000) : Calls Tryd.prog 43 #[.slice (some ad) l.length c] w fun e w' =>
    ∃ r1 r2, e = .returned (.tuple #[r1, r2, .bool (findJ l).isSome]) ∧ Strs w' r1 (hAl l) ∧ Strs w' r2 (hBl l) ∧ Below w.heap.size w w' := by
  have H := Lib.hid h
  obtain ⟨A', c', e', h1, h2, hr⟩ := h
  cases e'
  unfold maxLen at h2
  clear hr
  obtain ⟨L1, hL1⟩ : ∃ L1, L1 = hAl l := ⟨_, rfl⟩
  obtain ⟨L2, hL2⟩ : ∃ L2, L2 = hBl l := ⟨_, rfl⟩
  obtain ⟨q, hq⟩ : ∃ q, q = (findJ l).isSome := ⟨_, rfl⟩
  rw [← hL1, ← hL2, ← hq]
  have HL1 := Lib.hid hL1
  have HL2 := Lib.hid hL2
  have Hq := Lib.hid hq
  clear hL1 hL2 hq
  go_enter Tryd.func43, Tryd.ntmps43
  go_wp2_with fail
  go_loopw [5] (fun i wr => ∃ j : Nat, 1 ≤ j ∧ j ≤ l.length ∧ i = .int .i64 j ∧ (∀ i, i < j → condJ l i = false) ∧ Below w.heap.size w wr) (fun i _ => l.length - (intOf i).toNat)
  case atStart => exact ⟨1, by omega, by omega, rfl, (fun j hj => by obtain rfl : j = 0 := (by omega); exact cond_zero l), Below.refl _ _⟩
  case round =>
    obtain ⟨j, hj1, hj2, rfl, hall, hB⟩ := hrel
    have Hall := Lib.hid hall
    clear hall
    by_cases hlt : j < l.length
    · obtain ⟨cut, hcut⟩ : ∃ cut : Nat, cut + j = l.length := ⟨l.length - j, by omega⟩
      have hci : (l.length : Int) - (j : Int) = (cut : Int) := by omega
      have hcc : ¬ c = cut := by omega
      have hc0 : (0 : Int) ≤ (cut : Int) := by omega
      have hc1 : (cut : Int) ≤ (l.length : Int) := by omega
      have hc2 : (cut : Int) ≤ (c : Int) := by omega
      have hj : l.length - j = cut := by omega
      have hcond : condJ l j = ((pal (l.take cut) && decide (cut % 2 = 1)) && (pal (l.drop cut) && decide (j % 2 = 1))) := by
        unfold condJ; rw [hj]
        cases pal (l.take cut) <;> cases pal (l.drop cut) <;> cases decide (cut % 2 = 1) <;> cases decide (j % 2 = 1) <;> rfl
      have Hcond := Lib.hid hcond
      have Hj := Lib.hid hj
      have S1 := Lib.hid (strs_upto (H.out.to hB) (k := cut) (by omega))
      have S2 := Lib.hid (strs_from (H.out.to hB) (k := cut) (by omega))
      have e1 : (l.take cut).length = cut := by simp; omega
      have e2 : (l.drop cut).length = j := by simp; omega
      have same1 := l3Same_any _ (l.take cut) wr S1.out (by omega)
      have same2 := fun w' (hb : Below wr.heap.size wr w') => l3Same_any _ (l.drop cut) w' (S2.out.to hb) (by omega)
      rw [e1] at same1
      simp only [e2] at same2
      have HB := Lib.hid hB
      have hno : (condJ l j = false → ∀ i, i < j + 1 → condJ l i = false) := by
        intro hf i hi
        rcases Nat.lt_or_ge i j with h3 | h3
        · exact Hall.out i h3
        · rw [show i = j by omega]; exact hf
      have Hno := Lib.hid hno
      clear hcond hj hno hB e1 e2
      cases p1 : (pal (l.take cut) && decide (cut % 2 = 1))
      · rw [p1] at same1
        have Hs1 := Lib.hid same1
        have P1 := Lib.hid p1
        clear same1 same2 p1
        go_wp2_with (go_at_call 57; refine Hs1.out.mono ?_; rintro e w1 ⟨rfl, hb1⟩)
        exact ⟨⟨j + 1, by omega, by omega, by go_num, Hno.out (by rw [Hcond.out, P1.out]; rfl), bw_to HB.out hb1⟩, by simp [intOf]; omega⟩
      · rw [p1] at same1
        have Hs1 := Lib.hid same1
        have P1 := Lib.hid p1
        cases p2 : (pal (l.drop cut) && decide (j % 2 = 1))
        · simp only [p2] at same2
          have Hs2 := Lib.hid same2
          have P2 := Lib.hid p2
          clear same1 same2 p1 p2
          go_wp2_with (first | (go_at_call 57; (have hb1' := hb1); refine (Hs2.out _ hb1).mono ?_; rintro e w2 ⟨rfl, hb2⟩) | (go_at_call 57; refine Hs1.out.mono ?_; rintro e w1 ⟨rfl, hb1⟩))
          exact ⟨⟨j + 1, by omega, by omega, by go_num, Hno.out (by rw [Hcond.out, P1.out, P2.out]; rfl), bw_to (bw_to HB.out hb1) hb2⟩, by simp [intOf]; omega⟩
        · simp only [p2] at same2
          have Hs2 := Lib.hid same2
          have P2 := Lib.hid p2
          clear same1 same2 p1 p2
          go_wp2_with (first | (go_at_call 57; (have hb1' := hb1); refine (Hs2.out _ hb1).mono ?_; rintro e w2 ⟨rfl, hb2⟩) | (go_at_call 57; refine Hs1.out.mono ?_; rintro e w1 ⟨rfl, hb1⟩))
          have Hf := Lib.hid (findJ_some (l := l) (j := j) (by omega) (by rw [Hcond.out, P1.out, P2.out]; rfl) (fun i hi => Hall.out i hi))
          have hB2 := bw_to (bw_to HB.out hb1) hb2
          obtain ⟨a, ha⟩ : ∃ a : Nat, a = (cut + 1) / 2 := ⟨_, rfl⟩
          obtain ⟨b, hb⟩ : ∃ b : Nat, b = (j + 1) / 2 := ⟨_, rfl⟩
          obtain ⟨e, he⟩ : ∃ e : Nat, e = cut + b := ⟨_, rfl⟩
          have hq0 : IntKind.i64.wrap ((cut : Int) + 1) = (cut : Int) + 1 := IntWalk.i64_in _ (by omega)
          have hq1 : IntKind.i64.wrap (((cut : Int) + 1) / 2) = (a : Int) := (IntWalk.i64_in _ (by omega)).trans (by omega)
          have hq4 : IntKind.i64.wrap ((j : Int) + 1) = (j : Int) + 1 := IntWalk.i64_in _ (by omega)
          have hq5 : IntKind.i64.wrap (((j : Int) + 1) / 2) = (b : Int) := (IntWalk.i64_in _ (by omega)).trans (by omega)
          have hq3 : IntKind.i64.wrap ((cut : Int) + (b : Int)) = (e : Int) := (IntWalk.i64_in _ (by omega)).trans (by omega)
          have hq6 : ((cut : Int) + 1).tdiv 2 = ((cut : Int) + 1) / 2 := Int.tdiv_eq_ediv_of_nonneg (by omega)
          have hq7 : ((j : Int) + 1).tdiv 2 = ((j : Int) + 1) / 2 := Int.tdiv_eq_ediv_of_nonneg (by omega)
          have hek : e - cut = b := by omega
          have ha0 : (0 : Int) ≤ (a : Int) := by omega
          have ha1 : (a : Int) ≤ (c : Int) := by omega
          have ha2 : (a : Int) ≤ (l.length : Int) := by omega
          have he0 : (cut : Int) ≤ (e : Int) := by omega
          have he1 : (e : Int) ≤ (c : Int) := by omega
          have he2 : (e : Int) ≤ (l.length : Int) := by omega
          have SA := Lib.hid (strs_upto_le (H.out.to hB2) rfl (k := a) (by omega))
          have SB := Lib.hid (strs_upto_le ((S2.out.to hb1).to hb2) (n := l.length - cut) (by simp) (k := b) (by omega))
          have HL1' : Hid (L1 = l.take a) := Lib.hid (by rw [HL1.out, hAl_some Hf.out, Hj.out, ha])
          have HL2' : Hid (L2 = (l.drop cut).take b) := Lib.hid (by rw [HL2.out, hBl_some Hf.out, Hj.out, hb])
          have Hq' : Hid (q = true) := Lib.hid (by rw [Hq.out, Hf.out]; rfl)
          have hst := Below.refl w2.heap.size w2
          have Hla : Hid ((l.take a).length = a) := Lib.hid (by simp; omega)
          have Hlb : Hid (((l.drop cut).take b).length = b) := Lib.hid (by simp; omega)
          have ha3 : a ≤ 1000 := by omega
          have hb3 : b ≤ 1000 := by omega
          clear ha he hb hci hlen
          go_region_held3 (fun w' => Below w2.heap.size w2 w') (first | assumption | exact Below.drew (by assumption) | exact bw_to (by assumption) hb')
            (first | ((have o1' := o1); go_at_call 39; refine (l1OwnS_any _ ((l.drop cut).take b) _ (SB.out.to (by assumption)) (nilok_some _ _ _) (by rw [Hlb.out]; omega)).mono ?_; rintro e w4 ⟨r2, rfl, o2, hb'⟩; (have hb4 := hb')) | (go_at_call 39; refine (l1OwnS_any _ (l.take a) _ (SA.out.to (by assumption)) (nilok_some _ _ _) (by rw [Hla.out]; omega)).mono ?_; rintro e w3 ⟨r1, rfl, o1, hb'⟩))
          go_wp2_with fail
          go_ret3
          exact ⟨_, _, by rw [Hq'.out]; rfl, by rw [HL1'.out]; exact (strs_of_own o1).to hb4, by rw [HL2'.out]; exact strs_of_own o2, bw_to hB2 (by assumption)⟩
    · have Hn := Lib.hid (findJ_none (l := l) (fun i hi => Hall.out i (by omega)))
      have HL1' : Hid (L1 = []) := Lib.hid (by rw [HL1.out, hAl_none Hn.out])
      have HL2' : Hid (L2 = []) := Lib.hid (by rw [HL2.out, hBl_none Hn.out])
      have Hq' : Hid (q = false) := Lib.hid (by rw [Hq.out, Hn.out]; rfl)
      go_wp2_with fail
      go_ret3
      exact ⟨_, _, by rw [Hq'.out]; rfl, by rw [HL1'.out]; exact strs_nilS _, by rw [HL2'.out]; exact strs_nilS _, hB⟩
end Go.Proofs.YtenhnloljdfjhaaDoor

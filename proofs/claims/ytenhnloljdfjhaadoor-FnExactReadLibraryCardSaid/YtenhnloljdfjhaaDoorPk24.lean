/- Contract: the halves of a list (the program's). -/
import Derived.Test.YtenhnloljdfjhaaDoorPk23
namespace Go.Proofs.YtenhnloljdfjhaaDoor
open Go Go.RowKit
set_option linter.unusedVariables false
set_option linter.unusedSimpArgs false

def condJ (l : List ByteArray) (j : Nat) : Bool := decide (j % 2 = 1) && decide ((l.length - j) % 2 = 1) && pal (l.take (l.length - j)) && pal (l.drop (l.length - j))
def fj (l : List ByteArray) : Nat → Nat → Option Nat
  | 0, _ => none
  | f + 1, j => if condJ l j then some j else fj l f (j + 1)
def findJ (l : List ByteArray) : Option Nat := fj l l.length 0
theorem fj_some {l : List ByteArray} {j : Nat} (hc : condJ l j = true) : ∀ f s, s ≤ j → j < s + f → (∀ i, s ≤ i → i < j → condJ l i = false) → fj l f s = some j
  | 0, s, h1, h2, _ => by omega
  | f + 1, s, h1, h2, h => by
    rw [fj]
    by_cases e : s = j
    · subst e; rw [hc]; rfl
    · rw [h s (Nat.le_refl _) (by omega), if_neg (by simp)]
      exact fj_some hc f (s + 1) (by omega) (by omega) (fun i h3 h4 => h i (by omega) h4)
theorem fj_none {l : List ByteArray} : ∀ f s, (∀ i, s ≤ i → i < s + f → condJ l i = false) → fj l f s = none
  | 0, s, _ => rfl
  | f + 1, s, h => by
    rw [fj, h s (Nat.le_refl _) (by omega), if_neg (by simp)]
    exact fj_none f (s + 1) (fun i h3 h4 => h i (by omega) (by omega))
theorem findJ_some {l : List ByteArray} {j : Nat} (hj : j < l.length) (hc : condJ l j = true) (h : ∀ i, i < j → condJ l i = false) : findJ l = some j := fj_some hc _ 0 (by omega) (by omega) (fun i _ h2 => h i h2)
theorem findJ_none {l : List ByteArray} (h : ∀ i, i < l.length → condJ l i = false) : findJ l = none := fj_none _ 0 (fun i _ h2 => h i (by omega))
def hAl (l : List ByteArray) : List ByteArray := match findJ l with
  | some j => l.take ((l.length - j + 1) / 2)
  | none => []
def hBl (l : List ByteArray) : List ByteArray := match findJ l with
  | some j => (l.drop (l.length - j)).take ((j + 1) / 2)
  | none => []
theorem hAl_some {l : List ByteArray} {j : Nat} (h : findJ l = some j) : hAl l = l.take ((l.length - j + 1) / 2) := by unfold hAl; rw [h]
theorem hBl_some {l : List ByteArray} {j : Nat} (h : findJ l = some j) : hBl l = (l.drop (l.length - j)).take ((j + 1) / 2) := by unfold hBl; rw [h]
theorem hAl_none {l : List ByteArray} (h : findJ l = none) : hAl l = [] := by unfold hAl; rw [h]
theorem hBl_none {l : List ByteArray} (h : findJ l = none) : hBl l = [] := by unfold hBl; rw [h]
theorem cond_even {l : List ByteArray} {j : Nat} (h : j % 2 = 0) : condJ l j = false := by unfold condJ; rw [decide_eq_false (by omega)]; rfl
theorem cond_zero (l : List ByteArray) : condJ l 0 = false := cond_even rfl
theorem strs_nilS (w : World) : Strs w (.slice none 0 0) [] := ⟨none, 0, rfl, Nat.le_refl _, by unfold maxLen; omega, Reads.none_⟩
theorem strs_upto_le {w : World} {ad : Addr} {c k n : Nat} {ss : List ByteArray} (h : Strs w (.slice (some ad) n c) ss) (hn : ss.length = n) (hk : k ≤ n) : Strs w (.slice (some ad) k c) (ss.take k) := by
  subst hn
  rcases Nat.lt_or_ge k ss.length with hlt | hge
  · exact strs_upto h hlt
  · obtain rfl : k = ss.length := by omega
    rw [List.take_length]; exact h
set_option maxRecDepth 10000 in
set_option maxHeartbeats 4000000 in
theorem halves_any (ad : Addr) (c : Nat) (l : List ByteArray) (w : World) (h : Strs w (.slice (some ad) l.length c) l) (h0 : 0 < l.length) (hlen : l.length ≤ 1000) : Calls Tryd.prog 55 #[.slice (some ad) l.length c] w fun e w' =>
    ∃ r1 r2, e = .returned (.tuple #[r1, r2, .bool (findJ l).isSome]) ∧ Strs w' r1 (hAl l) ∧ Strs w' r2 (hBl l) ∧ Below w.heap.size w w' := by
  have H := Lib.hid h
  obtain ⟨A', c', e', h1, h2, hr⟩ := h
  cases e'
  unfold maxLen at h2
  clear hr
  obtain ⟨L1, hL1⟩ : ∃ L1, L1 = hAl l := ⟨_, rfl⟩
  obtain ⟨L2, hL2⟩ : ∃ L2, L2 = hBl l := ⟨_, rfl⟩
  obtain ⟨q, hq⟩ : ∃ q, q = (findJ l).isSome := ⟨_, rfl⟩
  rw [← hL1, ← hL2, ← hq]
  have HL1 := Lib.hid hL1
  have HL2 := Lib.hid hL2
  have Hq := Lib.hid hq
  clear hL1 hL2 hq
  go_enter Tryd.func55, Tryd.ntmps55
  go_wp2_with fail
  go_loopw [5] (fun i wr => ∃ k : Nat, 1 ≤ k ∧ k ≤ 1000 ∧ i = .int .i64 k ∧ (∀ j, j + 1 < 2 * k → condJ l j = false) ∧ Below w.heap.size w wr) (fun i _ => 1000 - (intOf i).toNat)
  case atStart => exact ⟨1, by omega, by omega, rfl, (fun j hj => by obtain rfl : j = 0 := (by omega); exact cond_zero l), Below.refl _ _⟩
  case round =>
    obtain ⟨k, hk1, hk2, rfl, hall, hB⟩ := hrel
    have Hall := Lib.hid hall
    clear hall
    by_cases hlt : 2 * k ≤ l.length
    · obtain ⟨cut, hcut⟩ : ∃ cut : Nat, cut + 2 * k = l.length + 1 := ⟨l.length + 1 - 2 * k, by omega⟩
      have hci : (l.length : Int) - 2 * (k : Int) + 1 = (cut : Int) := by omega
      have hcc : ¬ c = cut := by omega
      have hc0 : (0 : Int) ≤ (cut : Int) := by omega
      have hc1 : (cut : Int) ≤ (l.length : Int) := by omega
      have hc2 : (cut : Int) ≤ (c : Int) := by omega
      have hj : l.length - (2 * k - 1) = cut := by omega
      have hcond : condJ l (2 * k - 1) = (decide (cut % 2 = 1) && pal (l.take cut) && pal (l.drop cut)) := by
        unfold condJ; rw [hj, decide_eq_true (show (2 * k - 1) % 2 = 1 by omega)]; simp
      have Hcond := Lib.hid hcond
      have Hj := Lib.hid hj
      have S1 := Lib.hid (strs_upto (H.out.to hB) (k := cut) (by omega))
      have S2 := Lib.hid (strs_from (H.out.to hB) (k := cut) (by omega))
      have same1 := sameBothWays_any _ (l.take cut) wr S1.out (by simp; omega)
      have same2 := fun w' (hb : Below wr.heap.size wr w') => sameBothWays_any _ (l.drop cut) w' (S2.out.to hb) (by simp; omega)
      have HB := Lib.hid hB
      have hno : (condJ l (2 * k - 1) = false → ∀ j, j + 1 < 2 * (k + 1) → condJ l j = false) := by
        intro hf j hj
        rcases Nat.lt_or_ge (j + 1) (2 * k) with h3 | h3
        · exact Hall.out j h3
        · rcases Nat.eq_or_lt_of_le h3 with h4 | h4
          · rw [show j = 2 * k - 1 by omega]; exact hf
          · exact cond_even (by omega)
      have Hno := Lib.hid hno
      clear hcond hj hno hB
      by_cases hodd : cut % 2 = 1
      · have hod : (cut : Int) % 2 = 1 := by omega
        cases p1 : pal (l.take cut)
        · rw [p1] at same1
          have Hs1 := Lib.hid same1
          have P1 := Lib.hid p1
          clear same1 same2 p1
          go_wp2_with (go_at_call 65; refine Hs1.out.mono ?_; rintro e w1 ⟨rfl, hb1⟩)
          exact ⟨⟨k + 1, by omega, by omega, by go_num, Hno.out (by rw [Hcond.out, P1.out]; simp), bw_to HB.out hb1⟩, by simp [intOf]; omega⟩
        · rw [p1] at same1
          have Hs1 := Lib.hid same1
          have P1 := Lib.hid p1
          cases p2 : pal (l.drop cut)
          · simp only [p2] at same2
            have Hs2 := Lib.hid same2
            have P2 := Lib.hid p2
            clear same1 same2 p1 p2
            go_wp2_with (first | (go_at_call 65; (have hb1' := hb1); refine (Hs2.out _ hb1).mono ?_; rintro e w2 ⟨rfl, hb2⟩) | (go_at_call 65; refine Hs1.out.mono ?_; rintro e w1 ⟨rfl, hb1⟩))
            exact ⟨⟨k + 1, by omega, by omega, by go_num, Hno.out (by rw [Hcond.out, P1.out, P2.out]; simp), bw_to (bw_to HB.out hb1) hb2⟩, by simp [intOf]; omega⟩
          · simp only [p2] at same2
            have Hs2 := Lib.hid same2
            have P2 := Lib.hid p2
            clear same1 same2 p1 p2
            go_wp2_with (first | (go_at_call 65; (have hb1' := hb1); refine (Hs2.out _ hb1).mono ?_; rintro e w2 ⟨rfl, hb2⟩) | (go_at_call 65; refine Hs1.out.mono ?_; rintro e w1 ⟨rfl, hb1⟩))
            have Hf := Lib.hid (findJ_some (l := l) (j := 2 * k - 1) (by omega) (by rw [Hcond.out, P1.out, P2.out, decide_eq_true hodd]; rfl) (fun i hi => Hall.out i (by omega)))
            have hB2 := bw_to (bw_to HB.out hb1) hb2
            obtain ⟨h, hh⟩ : ∃ h : Nat, h = cut / 2 := ⟨_, rfl⟩
            obtain ⟨a, ha⟩ : ∃ a : Nat, a = h + 1 := ⟨_, rfl⟩
            obtain ⟨e, he⟩ : ∃ e : Nat, e = cut + k := ⟨_, rfl⟩
            have hq1 : IntKind.i64.wrap ((cut : Int) / 2) = (h : Int) := (IntWalk.i64_in _ (by omega)).trans (by omega)
            have hq2 : IntKind.i64.wrap ((h : Int) + 1) = (a : Int) := (IntWalk.i64_in _ (by omega)).trans (by omega)
            have hq3 : IntKind.i64.wrap ((cut : Int) + (k : Int)) = (e : Int) := (IntWalk.i64_in _ (by omega)).trans (by omega)
            have hek : e - cut = k := by omega
            have ha0 : (0 : Int) ≤ (a : Int) := by omega
            have ha1 : (a : Int) ≤ (c : Int) := by omega
            have ha2 : (a : Int) ≤ (l.length : Int) := by omega
            have he0 : (cut : Int) ≤ (e : Int) := by omega
            have he1 : (e : Int) ≤ (c : Int) := by omega
            have he2 : (e : Int) ≤ (l.length : Int) := by omega
            have SA := Lib.hid (strs_upto_le (H.out.to hB2) rfl (k := a) (by omega))
            have SB := Lib.hid (strs_upto_le ((S2.out.to hb1).to hb2) (n := l.length - cut) (by simp) (k := k) (by omega))
            have HL1' : Hid (L1 = l.take a) := Lib.hid (by rw [HL1.out, hAl_some Hf.out, Hj.out]; congr 1; omega)
            have HL2' : Hid (L2 = (l.drop cut).take k) := Lib.hid (by rw [HL2.out, hBl_some Hf.out, Hj.out]; congr 1; omega)
            have Hq' : Hid (q = true) := Lib.hid (by rw [Hq.out, Hf.out]; rfl)
            have hst := Below.refl w2.heap.size w2
            have Hla : Hid ((l.take a).length = a) := Lib.hid (by simp; omega)
            have Hlb : Hid (((l.drop cut).take k).length = k) := Lib.hid (by simp; omega)
            have Hle := Lib.hid hlen
            have ha3 : a ≤ 1000 := by omega
            clear hh ha he hci hlen
            go_region_held3 (fun w' => Below w2.heap.size w2 w') (first | assumption | exact Below.drew (by assumption) | exact bw_to (by assumption) hb')
              (first | ((have o1' := o1); go_at_call 50; refine (cloneStr_any _ ((l.drop cut).take k) _ (SB.out.to (by assumption)) (nilok_some _ _ _) (by rw [Hlb.out]; omega)).mono ?_; rintro e w4 ⟨r2, rfl, o2, hb'⟩; (have hb4 := hb')) | (go_at_call 50; refine (cloneStr_any _ (l.take a) _ (SA.out.to (by assumption)) (nilok_some _ _ _) (by rw [Hla.out]; omega)).mono ?_; rintro e w3 ⟨r1, rfl, o1, hb'⟩))
            go_wp2_with fail
            go_ret3
            exact ⟨_, _, by rw [Hq'.out]; rfl, by rw [HL1'.out]; exact (strs_of_own o1).to hb4, by rw [HL2'.out]; exact strs_of_own o2, bw_to hB2 (by assumption)⟩
      · have hod : ¬ (cut : Int) % 2 = 1 := by omega
        clear same1 same2
        go_wp2_with fail
        exact ⟨⟨k + 1, by omega, by omega, by go_num, Hno.out (by rw [Hcond.out, decide_eq_false hodd]; rfl), HB.out⟩, by simp [intOf]; omega⟩
    · have Hn := Lib.hid (findJ_none (l := l) (fun i hi => Hall.out i (by omega)))
      have HL1' : Hid (L1 = []) := Lib.hid (by rw [HL1.out, hAl_none Hn.out])
      have HL2' : Hid (L2 = []) := Lib.hid (by rw [HL2.out, hBl_none Hn.out])
      have Hq' : Hid (q = false) := Lib.hid (by rw [Hq.out, Hn.out]; rfl)
      go_wp2_with fail
      go_ret3
      exact ⟨_, _, by rw [Hq'.out]; rfl, by rw [HL1'.out]; exact strs_nilS _, by rw [HL2'.out]; exact strs_nilS _, hB⟩
end Go.Proofs.YtenhnloljdfjhaaDoor

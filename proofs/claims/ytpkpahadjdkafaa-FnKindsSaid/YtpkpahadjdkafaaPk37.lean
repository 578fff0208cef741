/- Rings: a plain account. -/
import Derived.Test.YtpkpahadjdkafaaPk36
namespace Go.Proofs.Ytpkpahadjdkafaa
open Go Go.RowKit
set_option linter.unusedVariables false
set_option linter.unusedSimpArgs false

theorem nodup_le : ∀ (l F : List ByteArray), l.Nodup → (∀ x ∈ l, x ∈ F) → l.length ≤ F.length
  | [], F, _, _ => Nat.zero_le _
  | x :: t, F, hd, h => by
    rw [List.nodup_cons] at hd
    have hx := h x (List.mem_cons_self ..)
    have ih := nodup_le t (F.filter fun y => decide (y ≠ x)) hd.2 (fun y hy => List.mem_filter.2 ⟨h y (List.mem_cons_of_mem _ hy), decide_eq_true (fun e => hd.1 (by rw [← e]; exact hy))⟩)
    have hlt : (F.filter fun y => decide (y ≠ x)).length < F.length := by
      rw [List.length_filter_lt_length_iff_exists]
      exact ⟨x, hx, by simp⟩
    rw [List.length_cons]; omega
def iterB (nx : ByteArray → ByteArray) (h : ByteArray) : Nat → ByteArray
  | 0 => h
  | k + 1 => nx (iterB nx h k)
theorem iter_in {nx : ByteArray → ByteArray} {F : List ByteArray} (hF : ∀ x ∈ F, nx x ∈ F) {h : ByteArray} (hh : h ∈ F) : ∀ k, iterB nx h k ∈ F
  | 0 => hh
  | k + 1 => hF _ (iter_in hF hh k)
theorem iter_back {nx : ByteArray → ByteArray} {F : List ByteArray} (hF : ∀ x ∈ F, nx x ∈ F) (hi : ∀ x ∈ F, ∀ y ∈ F, nx x = nx y → x = y) {h : ByteArray} (hh : h ∈ F) : ∀ i d, iterB nx h i = iterB nx h (i + d) → h = iterB nx h d
  | 0, d, e => by rw [Nat.zero_add] at e; exact e
  | i + 1, d, e => by
    refine iter_back hF hi hh i d (hi _ (iter_in hF hh i) _ (iter_in hF hh (i + d)) ?_)
    rw [Nat.succ_add] at e
    exact e
/-- The length of the ring of a row. -/
def IsRing (nx : ByteArray → ByteArray) (h : ByteArray) (R : Nat) : Prop := 1 ≤ R ∧ iterB nx h R = h ∧ ∀ j, 1 ≤ j → j < R → iterB nx h j ≠ h
def ringL (nx : ByteArray → ByteArray) (h : ByteArray) (R : Nat) : List ByteArray := (List.range R).map (iterB nx h)
theorem ringL_len (nx : ByteArray → ByteArray) (h : ByteArray) (R : Nat) : (ringL nx h R).length = R := by simp [ringL]
theorem ringL_succ (nx : ByteArray → ByteArray) (h : ByteArray) (R : Nat) : ringL nx h (R + 1) = ringL nx h R ++ [iterB nx h R] := by simp [ringL, List.range_succ]
theorem ring_ex {nx : ByteArray → ByteArray} {F : List ByteArray} (hF : ∀ x ∈ F, nx x ∈ F) (hi : ∀ x ∈ F, ∀ y ∈ F, nx x = nx y → x = y) {h : ByteArray} (hh : h ∈ F) : ∃ R, R ≤ F.length ∧ IsRing nx h R := by
  have hc : ∃ i j, i < j ∧ j ≤ F.length ∧ iterB nx h i = iterB nx h j := by
    apply Classical.byContradiction
    intro hn
    have hd : (ringL nx h (F.length + 1)).Nodup := by
      unfold ringL
      rw [List.Nodup, List.pairwise_map, List.pairwise_iff_getElem]
      intro i j hi' hj' hij e
      rw [List.getElem_range, List.getElem_range] at e
      rw [List.length_range] at hj'
      exact hn ⟨i, j, hij, by omega, e⟩
    have := nodup_le _ F hd (fun x hx => by
      unfold ringL at hx
      obtain ⟨k, _, rfl⟩ := List.mem_map.1 hx
      exact iter_in hF hh k)
    rw [ringL_len] at this
    omega
  obtain ⟨i, j, hij, hj, e⟩ := hc
  have e2 := iter_back hF hi hh i (j - i) (by rw [e]; congr 1; omega)
  obtain ⟨R, h1, h2, h3⟩ := least_of (P := fun k => 1 ≤ k ∧ iterB nx h k = h) (j - i) ⟨by omega, e2.symm⟩
  exact ⟨R, by omega, h2.1, h2.2, fun q hq hlt hp => h3 q hlt ⟨hq, hp⟩⟩
theorem ring_stop {nx : ByteArray → ByteArray} {h : ByteArray} {R k : Nat} (hR : IsRing nx h R) (h1 : 1 ≤ k) (hk : k ≤ R) (e : iterB nx h k = h) : k = R := by
  rcases Nat.lt_or_ge k R with hl | hl
  · exact absurd e (hR.2.2 k h1 hl)
  · omega
theorem ring_go {nx : ByteArray → ByteArray} {h : ByteArray} {R k : Nat} (hR : IsRing nx h R) (hk : k ≤ R) (e : iterB nx h k ≠ h) : k < R := by
  rcases Nat.lt_or_ge k R with hl | hl
  · exact hl
  · obtain rfl : k = R := by omega
    exact absurd hR.2.1 e
/-- The rings of some rows, but for those that are seen. -/
def rgs (nx : ByteArray → ByteArray) (RR : ByteArray → Nat) : List ByteArray → List ByteArray → List (List ByteArray)
  | [], _ => []
  | h :: t, seen => if h ∈ seen then rgs nx RR t seen else ringL nx h (RR h) :: rgs nx RR t (seen ++ ringL nx h (RR h))
theorem rgs_len (nx : ByteArray → ByteArray) (RR : ByteArray → Nat) : ∀ (l seen : List ByteArray), (rgs nx RR l seen).length ≤ l.length
  | [], _ => Nat.le_refl _
  | h :: t, seen => by
    rw [rgs]; split
    · exact Nat.le_trans (rgs_len nx RR t seen) (by simp)
    · rw [List.length_cons, List.length_cons]; exact Nat.succ_le_succ (rgs_len nx RR t _)
theorem rgs_seen {nx : ByteArray → ByteArray} {RR : ByteArray → Nat} {G seen : List ByteArray} {k : Nat} (hk : k < G.length) (h : G[k] ∈ seen) : rgs nx RR (G.drop k) seen = rgs nx RR (G.drop (k + 1)) seen := by
  rw [List.drop_eq_getElem_cons hk, rgs, if_pos h]
theorem rgs_new {nx : ByteArray → ByteArray} {RR : ByteArray → Nat} {G seen : List ByteArray} {k : Nat} (hk : k < G.length) (h : G[k] ∉ seen) : rgs nx RR (G.drop k) seen = ringL nx G[k] (RR G[k]) :: rgs nx RR (G.drop (k + 1)) (seen ++ ringL nx G[k] (RR G[k])) := by
  rw [List.drop_eq_getElem_cons hk, rgs, if_neg h]
/-- The next head. -/
def nxB (bobs : List ByteArray) (P B : ByteArray) (h : ByteArray) : ByteArray := if h ∈ bobs then timesB h B else timesB h P
def goodQ (bobs : List ByteArray) (Q : ByteArray) : Prop := ∀ h ∈ bobs, timesB h Q ∈ bobs
theorem good_pow {n : Nat} (hn : n ≤ 8) {bobs : List ByteArray} {Q : ByteArray} (hQ : RowIn n Q) (hg : goodQ bobs Q) {h : ByteArray} (hr : RowIn n h) (hh : h ∈ bobs) : ∀ k, timesB h (powB n Q k) ∈ bobs
  | 0 => by show timesB h (roundsB n) ∈ bobs; rw [times_rounds hn hr]; exact hh
  | k + 1 => by
    show timesB h (timesB (powB n Q k) Q) ∈ bobs
    rw [← times_assoc h (pow_in hn hQ k) hQ]
    exact hg _ (good_pow hn hQ hg hr hh k)
theorem nx_inj {n : Nat} (hn : n ≤ 8) {bobs : List ByteArray} {P B B' Q : ByteArray} (hP : Inv n P) (hB : Inv n B) (hB' : RowIn n B') (h1 : timesB B B' = roundsB n) (hQd : Q = timesB P B') (hQ : Inv n Q) (hg : goodQ bobs Q)
    {x y : ByteArray} (hx : RowIn n x) (hy : RowIn n y) (e : nxB bobs P B x = nxB bobs P B y) : x = y := by
  have key : ∀ a b : ByteArray, RowIn n a → RowIn n b → a ∈ bobs → b ∉ bobs → timesB a B = timesB b P → False := by
    intro a b ha hb hma hmb e
    have e2 : timesB b Q = a := by
      rw [hQd, ← times_assoc b hP.1 hB', ← e, times_assoc a hB.1 hB', h1, times_rounds hn ha]
    obtain ⟨K, _, hK⟩ := ord_ex hn hQ
    have h3 := good_pow hn hQ.1 hg ha hma (K - 1)
    have h4 : timesB a (powB n Q (K - 1)) = b := by
      rw [← e2, times_assoc b hQ.1 (pow_in hn hQ.1 _)]
      have e3 : timesB Q (powB n Q (K - 1)) = powB n Q K := by
        have h5 := pow_add hn hQ.1 1 (K - 1)
        rw [pow_one hn hQ.1, show 1 + (K - 1) = K by have := hK.1; omega] at h5
        exact h5.symm
      rw [e3, hK.2.1, times_rounds hn hb]
    rw [h4] at h3
    exact hmb h3
  unfold nxB at e
  split at e
  · split at e
    · exact hB.cancel hn hx hy e
    · exact (key x y hx hy (by assumption) (by assumption) e).elim
  · split at e
    · exact (key y x hy hx (by assumption) (by assumption) e.symm).elim
    · exact hP.cancel hn hx hy e
theorem good_nil (Q : ByteArray) : goodQ [] Q := fun h hh => by cases hh
/-- What an inverse says of places. -/
theorem inv_at {n : Nat} (hn : n ≤ 8) {a b : ByteArray} (ha : RowIn n a) (h : timesB b a = roundsB n) {i : Nat} (hi : i < a.size) : b.data.toList[a[i].toNat - 49]? = some (UInt8.ofNat (49 + i)) ∨ b.size ≤ a[i].toNat - 49 := by
  by_cases hb : a[i].toNat - 49 < b.size
  · left
    have e : (timesL b.data.toList a.data.toList)[i]? = (roundsL n)[i]? := by
      have h3 : (timesB b a).data.toList = (roundsB n).data.toList := by rw [h]
      rw [rounds_list hn] at h3
      unfold timesB at h3
      rw [ofL_list] at h3
      rw [h3]
    have hin : i < n := by rw [← ha.1]; exact hi
    rw [roundsL_get hin] at e
    unfold timesL at e
    rw [List.getElem?_map, List.getElem?_eq_getElem (by rw [bytes_len]; exact hi), bytes_get a i hi, Option.map_some, List.getD_eq_getElem?_getD, List.getElem?_eq_getElem (by rw [bytes_len]; exact hb), Option.getD_some] at e
    rw [List.getElem?_eq_getElem (by rw [bytes_len]; exact hb)]
    exact e
  · right; omega
theorem inv_cover {n : Nat} (hn : n ≤ 8) {a b : ByteArray} (ha : RowIn n a) (hb : RowIn n b) (h : timesB a b = roundsB n) {j : Nat} (hj : j < n) : ∃ i, ∃ hi : i < a.size, a[i].toNat - 49 = j := by
  have hjb : j < b.size := by rw [hb.1]; exact hj
  have hat := hb.at_ hjb
  have hi : b[j].toNat - 49 < a.size := by rw [ha.1]; omega
  refine ⟨b[j].toNat - 49, hi, ?_⟩
  have e := inv_at hn hb h hjb
  rcases e with e | e
  · rw [List.getElem?_eq_getElem (by rw [bytes_len]; exact hi), bytes_get a _ hi] at e
    have := congrArg UInt8.toNat (Option.some.inj e)
    rw [u8_49 (by omega)] at this
    omega
  · omega
end Go.Proofs.Ytpkpahadjdkafaa

/- Rings: a plain account. -/
import Derived.Test.YtofpjbdelmmclaaGreatDoorPk23
import Derived.Test.YtofpjbdelmmclaaGreatDoorPk18
import Derived.Test.YtofpjbdelmmclaaGreatDoorPk2
import Derived.Sort.OwnSorted
import Derived.Sort.Walk0
import Derived.Lib.SlicesCompact
namespace Go.Proofs.YtofpjbdelmmclaaGreatDoor
open Go Go.RowKit
set_option linter.unusedVariables false
set_option linter.unusedSimpArgs false

theorem nodup_le : ∀ (l F : List ByteArray), l.Nodup → (∀ x ∈ l, x ∈ F) → l.length ≤ F.length
  | [], F, _, _ => Nat.zero_le _
  | x :: t, F, hd, h => by
    rw [List.nodup_cons] at hd
    have hx := h x (List.mem_cons_self ..)
    have ih := nodup_le t (F.filter fun y => decide (y ≠ x)) hd.2 (fun y hy => List.mem_filter.2 ⟨h y (List.mem_cons_of_mem _ hy), decide_eq_true (fun e => hd.1 (by rw [← e]; exact hy))⟩)
    have hlt : (F.filter fun y => decide (y ≠ x)).length < F.length := by
      rw [List.length_filter_lt_length_iff_exists]
      exact ⟨x, hx, by simp⟩
    rw [List.length_cons]; omega
def iterB (nx : ByteArray → ByteArray) (h : ByteArray) : Nat → ByteArray
  | 0 => h
  | k + 1 => nx (iterB nx h k)
theorem iter_in {nx : ByteArray → ByteArray} {F : List ByteArray} (hF : ∀ x ∈ F, nx x ∈ F) {h : ByteArray} (hh : h ∈ F) : ∀ k, iterB nx h k ∈ F
  | 0 => hh
  | k + 1 => hF _ (iter_in hF hh k)
theorem iter_back {nx : ByteArray → ByteArray} {F : List ByteArray} (hF : ∀ x ∈ F, nx x ∈ F) (hi : ∀ x ∈ F, ∀ y ∈ F, nx x = nx y → x = y) {h : ByteArray} (hh : h ∈ F) : ∀ i d, iterB nx h i = iterB nx h (i + d) → h = iterB nx h d
  | 0, d, e => by rw [Nat.zero_add] at e; exact e
  | i + 1, d, e => by
    refine iter_back hF hi hh i d (hi _ (iter_in hF hh i) _ (iter_in hF hh (i + d)) ?_)
    rw [Nat.succ_add] at e
    exact e
/-- The length of the ring of a row. -/
def IsRing (nx : ByteArray → ByteArray) (h : ByteArray) (R : Nat) : Prop := 1 ≤ R ∧ iterB nx h R = h ∧ ∀ j, 1 ≤ j → j < R → iterB nx h j ≠ h
def ringL (nx : ByteArray → ByteArray) (h : ByteArray) (R : Nat) : List ByteArray := (List.range R).map (iterB nx h)
theorem ringL_len (nx : ByteArray → ByteArray) (h : ByteArray) (R : Nat) : (ringL nx h R).length = R := by simp [ringL]
theorem ringL_succ (nx : ByteArray → ByteArray) (h : ByteArray) (R : Nat) : ringL nx h (R + 1) = ringL nx h R ++ [iterB nx h R] := by simp [ringL, List.range_succ]
theorem ring_ex {nx : ByteArray → ByteArray} {F : List ByteArray} (hF : ∀ x ∈ F, nx x ∈ F) (hi : ∀ x ∈ F, ∀ y ∈ F, nx x = nx y → x = y) {h : ByteArray} (hh : h ∈ F) : ∃ R, R ≤ F.length ∧ IsRing nx h R := by
  have hc : ∃ i j, i < j ∧ j ≤ F.length ∧ iterB nx h i = iterB nx h j := by
    apply Classical.byContradiction
    intro hn
    have hd : (ringL nx h (F.length + 1)).Nodup := by
      unfold ringL
      rw [List.Nodup, List.pairwise_map, List.pairwise_iff_getElem]
      intro i j hi' hj' hij e
      rw [List.getElem_range, List.getElem_range] at e
      rw [List.length_range] at hj'
      exact hn ⟨i, j, hij, by omega, e⟩
    have := nodup_le _ F hd (fun x hx => by
      unfold ringL at hx
      obtain ⟨k, _, rfl⟩ := List.mem_map.1 hx
      exact iter_in hF hh k)
    rw [ringL_len] at this
    omega
  obtain ⟨i, j, hij, hj, e⟩ := hc
  have e2 := iter_back hF hi hh i (j - i) (by rw [e]; congr 1; omega)
  obtain ⟨R, h1, h2, h3⟩ := least_of (P := fun k => 1 ≤ k ∧ iterB nx h k = h) (j - i) ⟨by omega, e2.symm⟩
  exact ⟨R, by omega, h2.1, h2.2, fun q hq hlt hp => h3 q hlt ⟨hq, hp⟩⟩
theorem ring_stop {nx : ByteArray → ByteArray} {h : ByteArray} {R k : Nat} (hR : IsRing nx h R) (h1 : 1 ≤ k) (hk : k ≤ R) (e : iterB nx h k = h) : k = R := by
  rcases Nat.lt_or_ge k R with hl | hl
  · exact absurd e (hR.2.2 k h1 hl)
  · omega
theorem ring_go {nx : ByteArray → ByteArray} {h : ByteArray} {R k : Nat} (hR : IsRing nx h R) (hk : k ≤ R) (e : iterB nx h k ≠ h) : k < R := by
  rcases Nat.lt_or_ge k R with hl | hl
  · exact hl
  · obtain rfl : k = R := by omega
    exact absurd hR.2.1 e
/-- The rings of some rows, but for those that are seen. -/
def rgs (nx : ByteArray → ByteArray) (RR : ByteArray → Nat) : List ByteArray → List ByteArray → List (List ByteArray)
  | [], _ => []
  | h :: t, seen => if h ∈ seen then rgs nx RR t seen else ringL nx h (RR h) :: rgs nx RR t (seen ++ ringL nx h (RR h))
theorem rgs_len (nx : ByteArray → ByteArray) (RR : ByteArray → Nat) : ∀ (l seen : List ByteArray), (rgs nx RR l seen).length ≤ l.length
  | [], _ => Nat.le_refl _
  | h :: t, seen => by
    rw [rgs]; split
    · exact Nat.le_trans (rgs_len nx RR t seen) (by simp)
    · rw [List.length_cons, List.length_cons]; exact Nat.succ_le_succ (rgs_len nx RR t _)
theorem rgs_seen {nx : ByteArray → ByteArray} {RR : ByteArray → Nat} {G seen : List ByteArray} {k : Nat} (hk : k < G.length) (h : G[k] ∈ seen) : rgs nx RR (G.drop k) seen = rgs nx RR (G.drop (k + 1)) seen := by
  rw [List.drop_eq_getElem_cons hk, rgs, if_pos h]
theorem rgs_new {nx : ByteArray → ByteArray} {RR : ByteArray → Nat} {G seen : List ByteArray} {k : Nat} (hk : k < G.length) (h : G[k] ∉ seen) : rgs nx RR (G.drop k) seen = ringL nx G[k] (RR G[k]) :: rgs nx RR (G.drop (k + 1)) (seen ++ ringL nx G[k] (RR G[k])) := by
  rw [List.drop_eq_getElem_cons hk, rgs, if_neg h]
/-- The next head. -/
def nxB (bobs : List ByteArray) (P B : ByteArray) (h : ByteArray) : ByteArray := if h ∈ bobs then timesB h B else timesB h P
def goodQ (bobs : List ByteArray) (Q : ByteArray) : Prop := ∀ h ∈ bobs, timesB h Q ∈ bobs
theorem good_pow {n : Nat} (hn : n ≤ 8) {bobs : List ByteArray} {Q : ByteArray} (hQ : RowIn n Q) (hg : goodQ bobs Q) {h : ByteArray} (hr : RowIn n h) (hh : h ∈ bobs) : ∀ k, timesB h (powB n Q k) ∈ bobs
  | 0 => by show timesB h (roundsB n) ∈ bobs; rw [times_rounds hn hr]; exact hh
  | k + 1 => by
    show timesB h (timesB (powB n Q k) Q) ∈ bobs
    rw [← times_assoc h (pow_in hn hQ k) hQ]
    exact hg _ (good_pow hn hQ hg hr hh k)
theorem nx_inj {n : Nat} (hn : n ≤ 8) {bobs : List ByteArray} {P B B' Q : ByteArray} (hP : Inv n P) (hB : Inv n B) (hB' : RowIn n B') (h1 : timesB B B' = roundsB n) (hQd : Q = timesB P B') (hQ : Inv n Q) (hg : goodQ bobs Q)
    {x y : ByteArray} (hx : RowIn n x) (hy : RowIn n y) (e : nxB bobs P B x = nxB bobs P B y) : x = y := by
  have key : ∀ a b : ByteArray, RowIn n a → RowIn n b → a ∈ bobs → b ∉ bobs → timesB a B = timesB b P → False := by
    intro a b ha hb hma hmb e
    have e2 : timesB b Q = a := by
      rw [hQd, ← times_assoc b hP.1 hB', ← e, times_assoc a hB.1 hB', h1, times_rounds hn ha]
    obtain ⟨K, _, hK⟩ := ord_ex hn hQ
    have h3 := good_pow hn hQ.1 hg ha hma (K - 1)
    have h4 : timesB a (powB n Q (K - 1)) = b := by
      rw [← e2, times_assoc b hQ.1 (pow_in hn hQ.1 _)]
      have e3 : timesB Q (powB n Q (K - 1)) = powB n Q K := by
        have h5 := pow_add hn hQ.1 1 (K - 1)
        rw [pow_one hn hQ.1, show 1 + (K - 1) = K by have := hK.1; omega] at h5
        exact h5.symm
      rw [e3, hK.2.1, times_rounds hn hb]
    rw [h4] at h3
    exact hmb h3
  unfold nxB at e
  split at e
  · split at e
    · exact hB.cancel hn hx hy e
    · exact (key x y hx hy (by assumption) (by assumption) e).elim
  · split at e
    · exact (key y x hy hx (by assumption) (by assumption) e.symm).elim
    · exact hP.cancel hn hx hy e
theorem good_nil (Q : ByteArray) : goodQ [] Q := fun h hh => by cases hh
/-- What an inverse says of places. -/
theorem inv_at {n : Nat} (hn : n ≤ 8) {a b : ByteArray} (ha : RowIn n a) (h : timesB b a = roundsB n) {i : Nat} (hi : i < a.size) : b.data.toList[a[i].toNat - 49]? = some (UInt8.ofNat (49 + i)) ∨ b.size ≤ a[i].toNat - 49 := by
  by_cases hb : a[i].toNat - 49 < b.size
  · left
    have e : (timesL b.data.toList a.data.toList)[i]? = (roundsL n)[i]? := by
      have h3 : (timesB b a).data.toList = (roundsB n).data.toList := by rw [h]
      rw [rounds_list hn] at h3
      unfold timesB at h3
      rw [ofL_list] at h3
      rw [h3]
    have hin : i < n := by rw [← ha.1]; exact hi
    rw [roundsL_get hin] at e
    unfold timesL at e
    rw [List.getElem?_map, List.getElem?_eq_getElem (by rw [bytes_len]; exact hi), bytes_get a i hi, Option.map_some, List.getD_eq_getElem?_getD, List.getElem?_eq_getElem (by rw [bytes_len]; exact hb), Option.getD_some] at e
    rw [List.getElem?_eq_getElem (by rw [bytes_len]; exact hb)]
    exact e
  · right; omega
theorem inv_cover {n : Nat} (hn : n ≤ 8) {a b : ByteArray} (ha : RowIn n a) (hb : RowIn n b) (h : timesB a b = roundsB n) {j : Nat} (hj : j < n) : ∃ i, ∃ hi : i < a.size, a[i].toNat - 49 = j := by
  have hjb : j < b.size := by rw [hb.1]; exact hj
  have hat := hb.at_ hjb
  have hi : b[j].toNat - 49 < a.size := by rw [ha.1]; omega
  refine ⟨b[j].toNat - 49, hi, ?_⟩
  have e := inv_at hn hb h hjb
  rcases e with e | e
  · rw [List.getElem?_eq_getElem (by rw [bytes_len]; exact hi), bytes_get a _ hi] at e
    have := congrArg UInt8.toNat (Option.some.inj e)
    rw [u8_49 (by omega)] at this
    omega
  · omega
end Go.Proofs.YtofpjbdelmmclaaGreatDoor

/- Rising rows, a row put into them, sets: a plain account. -/
namespace Go.Proofs.YtofpjbdelmmclaaGreatDoor
open Go Go.RowKit
set_option linter.unusedVariables false
set_option linter.unusedSimpArgs false

/-- Rising rows are known by what they hold. -/
theorem sorted_ext : ∀ {l m : List ByteArray}, SortedS l → l.Nodup → SortedS m → m.Nodup → (∀ x, x ∈ l ↔ x ∈ m) → l = m
  | [], [], _, _, _, _, _ => rfl
  | [], b :: m, _, _, _, _, h => by have := (h b).2 (List.mem_cons_self ..); cases this
  | a :: l, [], _, _, _, _, h => by have := (h a).1 (List.mem_cons_self ..); cases this
  | a :: l, b :: m, h1, d1, h2, d2, h => by
    rw [SortedS, List.pairwise_cons] at h1 h2
    rw [List.nodup_cons] at d1 d2
    have e : a = b := by
      have ha := (h a).1 (List.mem_cons_self ..)
      have hb := (h b).2 (List.mem_cons_self ..)
      rcases List.mem_cons.1 ha with e | ha
      · exact e
      · rcases List.mem_cons.1 hb with e | hb
        · exact e.symm
        · exact sl_tot (h2.1 a ha) (h1.1 b hb)
    subst e
    congr 1
    refine sorted_ext h1.2 d1.2 h2.2 d2.2 (fun x => ⟨fun hx => ?_, fun hx => ?_⟩)
    · rcases List.mem_cons.1 ((h x).1 (List.mem_cons_of_mem _ hx)) with e | hx'
      · subst e; exact absurd hx d1.1
      · exact hx'
    · rcases List.mem_cons.1 ((h x).2 (List.mem_cons_of_mem _ hx)) with e | hx'
      · subst e; exact absurd hx d2.1
      · exact hx'
theorem sortB_mem (l : List ByteArray) (x : ByteArray) : x ∈ sortB l ↔ x ∈ l := (sortB_perm l).mem_iff
theorem sortB_nodup {l : List ByteArray} (h : l.Nodup) : (sortB l).Nodup := (sortB_perm l).nodup_iff.2 h
/-- A row put before place k of rising rows. -/
theorem put_ok {l : List ByteArray} {r : ByteArray} {k : Nat} (hs : SortedS l) (hk : k ≤ l.length) (h1 : ∀ x ∈ l.take k, nmLt r x = false) (h2 : ∀ x ∈ l.drop k, nmLt r x = true) : SortedS (l.take k ++ r :: l.drop k) := by
  rw [SortedS, List.pairwise_append]
  have hs' := hs
  rw [← List.take_append_drop k l, SortedS, List.pairwise_append] at hs'
  refine ⟨hs'.1, ?_, ?_⟩
  · rw [List.pairwise_cons]
    exact ⟨fun x hx => sl_asym (h2 x hx), hs'.2.1⟩
  · intro a ha b hb
    rcases List.mem_cons.1 hb with e | hb
    · subst e; exact h1 a ha
    · exact hs'.2.2 a ha b hb
theorem put_perm (l : List ByteArray) (r : ByteArray) (k : Nat) : (l.take k ++ r :: l.drop k).Perm (r :: l) := by
  refine List.perm_middle.trans ?_
  rw [List.take_append_drop]
/-- What putting makes of rising rows. -/
def putS (l : List ByteArray) (r : ByteArray) : List ByteArray := sortB (visitB l r)
theorem putS_in {l : List ByteArray} {r : ByteArray} (hs : SortedS l) (h : r ∈ l) : putS l r = l := by
  unfold putS visitB
  rw [if_pos h]
  exact (perm_sorted (sortB_perm l).symm hs (sortB_sorted l)).symm
theorem putS_new {l : List ByteArray} {r : ByteArray} {k : Nat} (hs : SortedS l) (hn : r ∉ l) (hk : k ≤ l.length) (h1 : ∀ x ∈ l.take k, nmLt r x = false) (h2 : ∀ x ∈ l.drop k, nmLt r x = true) : putS l r = l.take k ++ r :: l.drop k := by
  unfold putS visitB
  rw [if_neg hn]
  refine (perm_sorted ?_ (put_ok hs hk h1 h2) (sortB_sorted _)).symm
  exact ((put_perm l r k).trans (List.perm_append_singleton r l).symm).trans (sortB_perm _).symm
theorem putS_sorted (l : List ByteArray) (r : ByteArray) : SortedS (putS l r) := sortB_sorted _
theorem putS_nodup {l : List ByteArray} (h : l.Nodup) (r : ByteArray) : (putS l r).Nodup := sortB_nodup (visit_nodup h r)
theorem putS_mem (l : List ByteArray) (r x : ByteArray) : x ∈ putS l r ↔ x ∈ l ∨ x = r := by
  unfold putS
  rw [sortB_mem]
  unfold visitB
  split
  · constructor
    · exact .inl
    · rintro (h | rfl)
      · exact h
      · assumption
  · rw [List.mem_append, List.mem_singleton]
theorem putS_len {l : List ByteArray} {r : ByteArray} : (putS l r).length ≤ l.length + 1 := by
  unfold putS
  rw [sortB_len]
  unfold visitB
  split <;> simp
/-- Where a search ends. -/
theorem search_mem {l : List ByteArray} {r : ByteArray} {i : Nat} (hs : SortedS l) (hi : i ≤ l.length) (h1 : ∀ k (h : k < l.length), k < i → nmLt l[k] r = true) (h2 : ∀ k (h : k < l.length), i ≤ k → nmLt l[k] r = false) :
    r ∈ l ↔ ∃ h : i < l.length, l[i] = r := by
  constructor
  · intro hm
    obtain ⟨k, hk, e⟩ := List.getElem_of_mem hm
    have hik : i ≤ k := by
      rcases Nat.lt_or_ge k i with hl | hl
      · have := h1 k hk hl; rw [e, sl_irr] at this; cases this
      · exact hl
    have hil : i < l.length := by omega
    refine ⟨hil, ?_⟩
    rcases Nat.eq_or_lt_of_le hik with e2 | hlt
    · subst e2; exact e
    · have h3 := (List.pairwise_iff_getElem.1 hs) i k hil hk hlt
      rw [e] at h3
      exact sl_tot (h2 i hil (Nat.le_refl _)) h3
  · rintro ⟨h, e⟩
    rw [← e]; exact List.getElem_mem h
/-- The set of a row. -/
def setB (n : Nat) (Q h : ByteArray) (K : Nat) : List ByteArray := (powL n Q K).map (timesB h)
theorem setB_len (n : Nat) (Q h : ByteArray) (K : Nat) : (setB n Q h K).length = K := by unfold setB; rw [List.length_map, powL_len]
theorem setB_succ (n : Nat) (Q h : ByteArray) (K : Nat) : setB n Q h (K + 1) = setB n Q h K ++ [timesB h (powB n Q K)] := by unfold setB; rw [powL_succ, List.map_append]; rfl
theorem pow_diff {n : Nat} (hn : n ≤ 8) {Q : ByteArray} (hQ : Inv n Q) {K : Nat} (hK : IsOrd n Q K) {i j : Nat} (hij : i < j) (hj : j < K) : powB n Q i ≠ powB n Q j := by
  intro e
  have e2 : powB n Q (j - i) = roundsB n := by
    rw [show j = (j - i) + i by omega, pow_add hn hQ.1 (j - i) i] at e
    apply (pow_inv hn hQ i).cancel hn (pow_in hn hQ.1 _) (rounds_in hn)
    rw [← e, rounds_times hn (pow_in hn hQ.1 i)]
  exact hK.2.2 (j - i) (by omega) (by omega) e2
theorem set_new {n : Nat} (hn : n ≤ 8) {Q h : ByteArray} (hQ : Inv n Q) (hh : Inv n h) {K : Nat} (hK : IsOrd n Q K) {j : Nat} (hj : j < K) : timesB h (powB n Q j) ∉ setB n Q h j := by
  intro hm
  unfold setB powL at hm
  rw [List.map_map] at hm
  obtain ⟨i, hi, e⟩ := List.mem_map.1 hm
  have hi := List.mem_range.1 hi
  exact pow_diff hn hQ hK hi hj (hh.cancel_left hn (pow_in hn hQ.1 i) (pow_in hn hQ.1 j) e)
theorem set_nodup {n : Nat} (hn : n ≤ 8) {Q h : ByteArray} (hQ : Inv n Q) (hh : Inv n h) {K : Nat} (hK : IsOrd n Q K) : ∀ j, j ≤ K → (setB n Q h j).Nodup
  | 0, _ => by simp [setB, powL]
  | j + 1, hj => by
    rw [setB_succ, List.nodup_append]
    refine ⟨set_nodup hn hQ hh hK j (by omega), by simp, fun a ha b hb e => ?_⟩
    rw [List.mem_singleton] at hb
    subst hb; subst e
    exact set_new hn hQ hh hK (by omega) ha
/-- A set grows by putting. -/
theorem set_put {n : Nat} (hn : n ≤ 8) {Q h : ByteArray} (hQ : Inv n Q) (hh : Inv n h) {K : Nat} (hK : IsOrd n Q K) {j : Nat} (hj : j < K) : putS (sortB (setB n Q h j)) (timesB h (powB n Q j)) = sortB (setB n Q h (j + 1)) := by
  have hnew := set_new hn hQ hh hK hj
  refine sorted_ext (putS_sorted _ _) (putS_nodup (sortB_nodup (set_nodup hn hQ hh hK j (by omega))) _) (sortB_sorted _) (sortB_nodup (set_nodup hn hQ hh hK (j + 1) (by omega))) (fun x => ?_)
  rw [putS_mem, sortB_mem, sortB_mem, setB_succ, List.mem_append, List.mem_singleton]
end Go.Proofs.YtofpjbdelmmclaaGreatDoor

/- slices.Sort at a row of texts of the call's own. -/
namespace Go.Proofs.YtofpjbdelmmclaaGreatDoor
open Go Go.RowKit Go.Sort
set_option linter.unusedVariables false
set_option linter.unusedSimpArgs false
theorem merge_sortB (l : List ByteArray) : (((l.map (·.data.toList)).mergeSort fun x y => decide (x ≤ y)).map ofL) = sortB l := by
  apply sorted_uniq
  · have h := (List.mergeSort_perm (l.map (·.data.toList)) (fun x y => decide (x ≤ y))).map ofL
    have e : (l.map (·.data.toList)).map ofL = l := by
      rw [List.map_map]
      conv => rhs; rw [← List.map_id l]
      apply List.map_congr_left
      intro x _
      exact ofL_eq x
    rw [e] at h
    exact h
  · rw [SortedS, List.pairwise_map]
    have hs := List.pairwise_mergeSort (le := fun x y : List UInt8 => decide (x ≤ y)) (fun a b c h1 h2 => by
      simp only [decide_eq_true_eq] at *
      exact List.le_trans h1 h2) (fun a b => by
      simp only [Bool.or_eq_true, decide_eq_true_eq]
      exact List.le_total a b) (l.map (·.data.toList))
    refine hs.imp (fun {a b} h => ?_)
    simp only [decide_eq_true_eq] at h
    unfold nmLt
    rw [bytesLess_eq, bytes_toList, bytes_toList, ofL_list, ofL_list]
    exact decide_eq_false (List.not_lt.2 h)
end Go.Proofs.YtofpjbdelmmclaaGreatDoor

/- Rising rows without repetition: slices.Compact behind a sort, sets joined: a plain account. -/
namespace Go.Proofs.YtofpjbdelmmclaaGreatDoor
open Go Go.RowKit Go.Sort
set_option linter.unusedVariables false
set_option linter.unusedSimpArgs false

theorem get_at {α : Type} [Inhabited α] {zs : List α} {i : Nat} (h : i < zs.length) : zs.toArray[i]! = zs[i] := by
  rw [getElem!_pos zs.toArray i (by simpa using h)]
  simp
theorem compact_to {α : Type} [Inhabited α] [DecidableEq α] {le : α → α → Prop} (anti : ∀ a b, le a b → le b a → a = b) {zs : List α} (h : zs.Pairwise le) : ∀ m, m ≤ zs.length → (∀ x, x ∈ Lib.compactUpTo zs.toArray m ↔ x ∈ zs.take m) ∧ (Lib.compactUpTo zs.toArray m).Nodup
  | 0, _ => by simp [Lib.compactUpTo]
  | m + 1, hm => by
    obtain ⟨h1, h2⟩ := compact_to anti h m (by omega)
    have hp := List.pairwise_iff_getElem.1 h
    have hml : m < zs.length := by omega
    have em := get_at hml
    rw [Lib.compactUpTo_succ, em]
    have et : zs.take (m + 1) = zs.take m ++ [zs[m]] := List.take_succ_eq_append_getElem hml
    cases hk : Lib.keeps zs.toArray m
    · have hin : zs[m] ∈ zs.take m := by
        unfold Lib.keeps at hk
        have hk := of_decide_eq_false hk
        have hm0 : m ≠ 0 := fun e => hk (.inl e)
        have e1 : zs.toArray[m]! = zs.toArray[m - 1]! := Classical.byContradiction fun e => hk (.inr e)
        rw [em, get_at (show m - 1 < zs.length by omega)] at e1
        rw [e1, List.mem_take_iff_getElem]
        exact ⟨m - 1, by omega, rfl⟩
      rw [if_neg (by simp), List.append_nil]
      refine ⟨fun x => ?_, h2⟩
      rw [h1, et, List.mem_append, List.mem_singleton]
      exact ⟨.inl, fun hx => hx.elim id (fun e => by rw [e]; exact hin)⟩
    · rw [if_pos rfl]
      refine ⟨fun x => ?_, ?_⟩
      · rw [List.mem_append, h1, et, List.mem_append]
      · rw [List.nodup_append]
        refine ⟨h2, by simp, fun a ha b hb e => ?_⟩
        rw [List.mem_singleton] at hb
        subst hb; subst e
        rw [h1, List.mem_take_iff_getElem] at ha
        obtain ⟨j, hj, e⟩ := ha
        have hjm : j < m := by omega
        have hk := of_decide_eq_true hk
        have e1 : zs.toArray[m]! ≠ zs.toArray[m - 1]! := hk.resolve_left (by omega)
        rw [em, get_at (show m - 1 < zs.length by omega)] at e1
        rcases Nat.eq_or_lt_of_le (show j ≤ m - 1 by omega) with e2 | hlt
        · subst e2; exact e1 e.symm
        · have a1 := hp j (m - 1) (by omega) (by omega) hlt
          have a2 := hp (m - 1) m (by omega) hml (by omega)
          rw [e] at a1
          exact e1 (anti _ _ a1 a2)
theorem compact_sub {α : Type} [Inhabited α] [DecidableEq α] (zs : List α) : (Lib.compact zs).Sublist zs := by
  have h := (List.filter_sublist (p := Lib.keeps zs.toArray) (l := List.range zs.length)).map (fun j => zs.toArray[j]!)
  have e : (List.range zs.length).map (fun j => zs.toArray[j]!) = zs := by
    have := Lib.range_map_get zs.toArray
    simpa using this
  rw [e] at h
  exact h
/-- What slices.Compact makes of rows. -/
def compB (l : List ByteArray) : List ByteArray := (Lib.compact (l.map (·.data.toList))).map ofL
theorem ofL_data (x : ByteArray) : ofL x.data.toList = x := by unfold ofL; simp
theorem map_ofL (l : List ByteArray) : (l.map (·.data.toList)).map ofL = l := by
  rw [List.map_map]
  conv => rhs; rw [← List.map_id l]
  apply List.map_congr_left
  intro x _
  exact ofL_data x
theorem compB_sub (l : List ByteArray) : (compB l).Sublist l := by
  have h := (compact_sub (l.map (·.data.toList))).map ofL
  rw [map_ofL] at h
  exact h
theorem compB_ok {l : List ByteArray} (hs : SortedS l) : (∀ x, x ∈ compB l ↔ x ∈ l) ∧ (compB l).Nodup ∧ SortedS (compB l) := by
  have hp : (l.map (·.data.toList)).Pairwise (fun a b => nmLt (ofL b) (ofL a) = false) := by
    rw [List.pairwise_map]
    refine hs.imp ?_
    intro a b h
    rw [ofL_data, ofL_data]; exact h
  have inj : ∀ a b : List UInt8, ofL a = ofL b → a = b := fun a b h => by
    have := congrArg (fun x : ByteArray => x.data.toList) h
    simpa [ofL] using this
  obtain ⟨h1, h2⟩ := compact_to (fun a b h h' => inj a b (sl_tot h' h)) hp (l.map (·.data.toList)).length (Nat.le_refl _)
  rw [List.take_length] at h1
  refine ⟨fun x => ?_, ?_, hs.sublist (compB_sub l)⟩
  · unfold compB Lib.compact
    rw [List.mem_map]
    constructor
    · rintro ⟨a, ha, rfl⟩
      rw [h1] at ha
      obtain ⟨y, hy, rfl⟩ := List.mem_map.1 ha
      rw [ofL_data]; exact hy
    · intro hx
      exact ⟨x.data.toList, (h1 _).2 (List.mem_map.2 ⟨x, hx, rfl⟩), ofL_data x⟩
  · unfold compB Lib.compact
    rw [List.Nodup, List.pairwise_map]
    exact h2.imp (fun h e => h (inj _ _ e))
/-- Bobs with a set put into them. -/
def addS (bobs S : List ByteArray) : List ByteArray := S.foldl putS bobs
theorem addS_ok : ∀ (S : List ByteArray) {bobs : List ByteArray}, SortedS bobs → bobs.Nodup → SortedS (addS bobs S) ∧ (addS bobs S).Nodup ∧ ∀ x, x ∈ addS bobs S ↔ x ∈ bobs ∨ x ∈ S
  | [], bobs, h1, h2 => ⟨h1, h2, fun x => by simp [addS]⟩
  | y :: S, bobs, h1, h2 => by
    obtain ⟨a, b, c⟩ := addS_ok S (putS_sorted bobs y) (putS_nodup h2 y)
    refine ⟨a, b, fun x => ?_⟩
    show x ∈ addS (putS bobs y) S ↔ _
    rw [c, putS_mem, List.mem_cons, or_assoc]
theorem addS_comp {bobs S : List ByteArray} (h1 : SortedS bobs) (h2 : bobs.Nodup) : compB (sortB (bobs ++ S)) = addS bobs S := by
  obtain ⟨a, b, c⟩ := compB_ok (sortB_sorted (bobs ++ S))
  obtain ⟨a', b', c'⟩ := addS_ok S h1 h2
  refine sorted_ext c b a' b' (fun x => ?_)
  rw [a, sortB_mem, List.mem_append, c']
end Go.Proofs.YtofpjbdelmmclaaGreatDoor

/- The kind of a method and of its reversal: a plain account. -/
import Derived.Test.YtpkpahadjdkafaaPk18
import Derived.Test.YtpkpahadjdkafaaPk25
import Derived.Test.YtpkpahadjdkafaaPk37
import Derived.Test.YtpkpahadjdkafaaPk28
namespace Go.Proofs.Ytpkpahadjdkafaa
open Go Go.RowKit
set_option linter.unusedVariables false
set_option linter.unusedSimpArgs false

theorem filter_ne (b : ByteArray) : ∀ (A : List ByteArray), A.Nodup → A.length ≤ (A.filter fun x => decide (x ≠ b)).length + 1
  | [], _ => by simp
  | x :: t, hd => by
    have hd' := List.nodup_cons.1 hd
    by_cases e : x = b
    · subst e
      have hf : (t.filter fun y => decide (y ≠ x)) = t := List.filter_eq_self.2 (fun y hy => by
        have : y ≠ x := fun e => hd'.1 (e ▸ hy)
        simpa using this)
      rw [List.filter_cons_of_neg (by simp), hf, List.length_cons]
      omega
    · have := filter_ne b t hd'.2
      rw [List.filter_cons_of_pos (by simpa using e), List.length_cons, List.length_cons]
      omega
theorem nodup_cover : ∀ (B A : List ByteArray), A.Nodup → (∀ x ∈ A, x ∈ B) → B.length ≤ A.length → B.Nodup
  | [], A, _, _, _ => List.nodup_nil
  | b :: t, A, hd, h, hl => by
    have hnb : b ∉ t := fun hb => by
      have := nodup_le A t hd (fun x hx => by
        rcases List.mem_cons.1 (h x hx) with rfl | hx
        · exact hb
        · exact hx)
      rw [List.length_cons] at hl
      omega
    refine List.nodup_cons.2 ⟨hnb, nodup_cover t (A.filter fun x => decide (x ≠ b)) (hd.filter _) (fun x hx => ?_) ?_⟩
    · have hx' := List.mem_filter.1 hx
      have hne : x ≠ b := by simpa using hx'.2
      rcases List.mem_cons.1 (h x hx'.1) with e | hx2
      · exact absurd e hne
      · exact hx2
    · have := filter_ne b A hd
      rw [List.length_cons] at hl
      omega
/-- The lead head of the reversed changes. -/
theorem rev_times {n : Nat} (hn : n ≤ 8) (l : List ByteArray) : timesB (runB (roundsB n) l) (runB (roundsB n) l.reverse) = roundsB n ∧ timesB (runB (roundsB n) l.reverse) (runB (roundsB n) l) = roundsB n := by
  refine ⟨run_back hn l, ?_⟩
  have h := run_back hn l.reverse
  rwa [List.reverse_reverse] at h
theorem pow_cancel {n : Nat} (hn : n ≤ 8) {a b : ByteArray} (ha : RowIn n a) (hb : RowIn n b) (h : timesB a b = roundsB n) : ∀ j, timesB (powB n a j) (powB n b j) = roundsB n
  | 0 => times_rounds hn (rounds_in hn)
  | j + 1 => by
    have e : powB n b (j + 1) = timesB b (powB n b j) := by
      have h5 := pow_add hn hb 1 j
      rw [pow_one hn hb, Nat.add_comm] at h5
      exact h5
    rw [e]
    show timesB (timesB (powB n a j) a) (timesB b (powB n b j)) = _
    rw [times_assoc _ ha (times_in hb (pow_in hn hb j)), ← times_assoc a hb (pow_in hn hb j), h, rounds_times hn (pow_in hn hb j)]
    exact pow_cancel hn ha hb h j
theorem ord_rev {n : Nat} (hn : n ≤ 8) {a b : ByteArray} (ha : RowIn n a) (hb : RowIn n b) (h : timesB a b = roundsB n) {K : Nat} (hK : IsOrd n a K) : IsOrd n b K := by
  have hc := pow_cancel hn ha hb h
  have key : ∀ j, powB n a j = roundsB n ↔ powB n b j = roundsB n := fun j => by
    have := hc j
    constructor
    · intro e; rw [e, rounds_times hn (pow_in hn hb j)] at this; exact this
    · intro e; rw [e, times_rounds hn (pow_in hn ha j)] at this; exact this
  exact ⟨hK.1, (key K).1 hK.2.1, fun j h1 h2 e => hK.2.2 j h1 h2 ((key j).2 e)⟩
/-- A row of the reversed lead. -/
theorem rev_row {n : Nat} (hn : n ≤ 8) (l : List ByteArray) {i : Nat} (hi : i ≤ l.length) : runB (roundsB n) (l.reverse.take i) = timesB (runB (roundsB n) l.reverse) (runB (roundsB n) (l.take (l.length - i))) := by
  have hs : l.take (l.length - i) ++ l.drop (l.length - i) = l := List.take_append_drop _ _
  have e1 : l.reverse.take i = (l.drop (l.length - i)).reverse := by
    rw [List.take_reverse]
  have hrev : l.reverse = (l.drop (l.length - i)).reverse ++ (l.take (l.length - i)).reverse := by
    rw [← List.reverse_append, hs]
  have ra := rounds_in hn
  have r1 := runB_in hn (l.drop (l.length - i)).reverse ra
  have r2 := runB_in hn (l.take (l.length - i)).reverse ra
  have r3 := runB_in hn (l.take (l.length - i)) ra
  rw [e1, hrev, run_app hn, times_assoc _ r2 r3, (rev_times hn (l.take (l.length - i))).2, times_rounds hn r1]
theorem rows_mem {n : Nat} {l : List ByteArray} {x : ByteArray} {H : ByteArray} {K : Nat} : x ∈ rowsB l (powL n H K) ↔ ∃ j, j < K ∧ x ∈ leadB (powB n H j) l := by
  unfold rowsB powL
  rw [List.flatMap_map, List.mem_flatMap]
  constructor
  · rintro ⟨j, hj, hx⟩; exact ⟨j, List.mem_range.1 hj, hx⟩
  · rintro ⟨j, hj, hx⟩; exact ⟨j, List.mem_range.2 hj, hx⟩
theorem lead_mem {n : Nat} (hn : n ≤ 8) {l : List ByteArray} {h x : ByteArray} (hh : RowIn n h) : x ∈ leadB h l ↔ ∃ i, i < l.length ∧ x = timesB h (runB (roundsB n) (l.take i)) := by
  have hscan : ∀ (l : List ByteArray) (r : ByteArray) (i : Nat) (hi : i < (scanB r l).length), (scanB r l)[i] = runB r (l.take i) := by
    intro l
    induction l with
    | nil => intro r i hi; simp [scanB] at hi; subst hi; rfl
    | cons c t ih =>
      intro r i hi
      cases i with
      | zero => rfl
      | succ i =>
        show (scanB (applyB r c) t)[i]'(by simpa [scanB] using hi) = _
        rw [ih (applyB r c) i]
        rfl
  constructor
  · intro hx
    unfold leadB at hx
    obtain ⟨i, hi, rfl⟩ := List.getElem_of_mem hx
    rw [List.length_take, scan_len] at hi
    refine ⟨i, by omega, ?_⟩
    rw [List.getElem_take, hscan]
    exact run_from hn _ hh
  · rintro ⟨i, hi, rfl⟩
    unfold leadB
    rw [← run_from hn _ hh, ← hscan l h i (by rw [scan_len]; omega)]
    exact List.mem_of_getElem? (i := i) (by rw [List.getElem?_take, if_pos hi, List.getElem?_eq_getElem])
/-- The rows of the reversed course are the rows of the course. -/
theorem rev_rows {n : Nat} (hn : n ≤ 8) {l : List ByteArray} {K : Nat} (hK : IsOrd n (runB (roundsB n) l) K) : ∀ x ∈ rowsB l.reverse (powL n (runB (roundsB n) l.reverse) K), x ∈ rowsB l (powL n (runB (roundsB n) l) K) := by
  obtain ⟨t1, t2⟩ := rev_times hn l
  have hH := runB_in hn l (rounds_in hn)
  have hH' := runB_in hn l.reverse (rounds_in hn)
  obtain ⟨H, eH⟩ : ∃ H, H = runB (roundsB n) l := ⟨_, rfl⟩
  obtain ⟨H', eH'⟩ : ∃ H', H' = runB (roundsB n) l.reverse := ⟨_, rfl⟩
  have hrow := fun {i : Nat} (hi : i ≤ l.length) => rev_row hn l hi
  rw [← eH] at t1 t2 hH hK ⊢
  rw [← eH'] at t1 t2 hH' ⊢
  simp only [← eH'] at hrow
  have hK' := ord_rev hn hH hH' t1 hK
  have hcc := pow_cancel hn hH hH' t1
  -- a power of H' is a power of H
  have hp : ∀ j, j ≤ K → powB n H' j = powB n H (K - j) := fun j hj => by
    have e := pow_add hn hH (K - j) j
    rw [show K - j + j = K by omega, hK.2.1] at e
    have e2 : timesB (roundsB n) (powB n H' j) = timesB (timesB (powB n H (K - j)) (powB n H j)) (powB n H' j) := by rw [← e]
    rw [rounds_times hn (pow_in hn hH' j), times_assoc _ (pow_in hn hH j) (pow_in hn hH' j), hcc j, times_rounds hn (pow_in hn hH _)] at e2
    exact e2
  intro x hx
  obtain ⟨j, hj, hx⟩ := rows_mem.1 hx
  obtain ⟨i, hi, rfl⟩ := (lead_mem hn (pow_in hn hH' j)).1 hx
  rw [List.length_reverse] at hi
  rcases Nat.eq_zero_or_pos i with rfl | hi0
  · rcases Nat.eq_zero_or_pos j with rfl | hj0
    · refine rows_mem.2 ⟨0, hj, (lead_mem hn (rounds_in hn)).2 ⟨0, by omega, ?_⟩⟩
      rfl
    · refine rows_mem.2 ⟨K - j, by omega, (lead_mem hn (pow_in hn hH _)).2 ⟨0, by omega, ?_⟩⟩
      rw [hp j (by omega)]
      rfl
  · refine rows_mem.2 ⟨K - (j + 1), by omega, (lead_mem hn (pow_in hn hH _)).2 ⟨l.length - i, by omega, ?_⟩⟩
    rw [hrow (by omega), ← hp (j + 1) (by omega), ← times_assoc _ hH' (runB_in hn _ (rounds_in hn))]
    rfl
theorem rows_lenK (l : List ByteArray) : ∀ (hs : List ByteArray), (rowsB l hs).length = hs.length * l.length
  | [] => by simp [rowsB]
  | h :: t => by
    have ih := rows_lenK l t
    unfold rowsB at ih ⊢
    rw [List.flatMap_cons, List.length_append, ih, lead_len, List.length_cons, Nat.succ_mul]
    omega
theorem rev_nodup1 {n : Nat} (hn : n ≤ 8) {l : List ByteArray} {K : Nat} (hK : IsOrd n (runB (roundsB n) l) K) (h : (rowsB l.reverse (powL n (runB (roundsB n) l.reverse) K)).Nodup) : (rowsB l (powL n (runB (roundsB n) l) K)).Nodup :=
  nodup_cover _ _ h (rev_rows hn hK) (by rw [rows_lenK, rows_lenK, powL_len, powL_len, List.length_reverse]; exact Nat.le_refl _)
theorem rev_nodup {n : Nat} (hn : n ≤ 8) {l : List ByteArray} {K : Nat} (hK : IsOrd n (runB (roundsB n) l) K) : (rowsB l.reverse (powL n (runB (roundsB n) l.reverse) K)).Nodup ↔ (rowsB l (powL n (runB (roundsB n) l) K)).Nodup := by
  refine ⟨rev_nodup1 hn hK, fun h => ?_⟩
  have hK' := ord_rev hn (runB_in hn l (rounds_in hn)) (runB_in hn l.reverse (rounds_in hn)) (rev_times hn l).1 hK
  apply rev_nodup1 hn hK'
  rwa [List.reverse_reverse]
end Go.Proofs.Ytpkpahadjdkafaa

/- The kind of a method and of its reversal: the words. -/
namespace Go.Proofs.Ytpkpahadjdkafaa
open Go Go.RowKit
set_option linter.unusedVariables false
set_option linter.unusedSimpArgs false
theorem home_times {n i : Nat} {a b : ByteArray} (ha : RowIn n a) (hb : RowIn n b) (hi : i < n) (h : homeB i b = true) : homeB i (timesB a b) = homeB i a := by
  have hlb : i < b.data.toList.length := by rw [hb.len]; exact hi
  unfold homeB at h
  rw [List.getElem?_eq_getElem hlb] at h
  simp only [Option.map_some, Option.some.injEq, decide_eq_true_eq] at h
  have e : (timesB a b).data.toList[i]? = a.data.toList[i]? := by
    unfold timesB timesL
    rw [ofL_list, List.getElem?_map, List.getElem?_eq_getElem hlb]
    simp only [Option.map_some]
    rw [h, show 49 + i - 49 = i by omega, List.getD_eq_getElem?_getD, List.getElem?_eq_getElem (by rw [ha.len]; exact hi)]
    rfl
  unfold homeB
  rw [e]
theorem home_rounds {n i : Nat} (hn : n ≤ 8) (hi : i < n) : homeB i (roundsB n) = true := by
  unfold homeB
  have e : ((roundsB n).data.toList[i]?).map UInt8.toNat = some (49 + i) := by
    rw [rounds_list hn]
    unfold roundsL
    rw [List.getElem?_map, List.getElem?_range hi]
    simp only [Option.map_some]
    rw [UInt8.toNat_ofNat_of_lt' (by show 49 + i < 256; omega)]
  rw [e]
  simp
theorem home_inv {n i : Nat} (hn : n ≤ 8) {a b : ByteArray} (ha : RowIn n a) (hb : RowIn n b) (hi : i < n) (hab : timesB b a = roundsB n) (h : homeB i a = true) : homeB i b = true := by
  have e := home_times hb ha hi h
  rw [hab, home_rounds hn hi] at e
  exact e.symm
theorem scan_mem {n : Nat} (hn : n ≤ 8) {l : List ByteArray} {x : ByteArray} : x ∈ scanB (roundsB n) l ↔ ∃ i, i ≤ l.length ∧ x = runB (roundsB n) (l.take i) := by
  rw [scan_lead, List.mem_append, lead_mem hn (rounds_in hn), List.mem_singleton]
  constructor
  · rintro (⟨i, hi, rfl⟩ | rfl)
    · exact ⟨i, by omega, rounds_times hn (runB_in hn _ (rounds_in hn))⟩
    · exact ⟨l.length, by omega, by rw [List.take_length]⟩
  · rintro ⟨i, hi, rfl⟩
    by_cases h : i < l.length
    · exact .inl ⟨i, h, (rounds_times hn (runB_in hn _ (rounds_in hn))).symm⟩
    · obtain rfl : i = l.length := by omega
      exact .inr (by rw [List.take_length])
theorem still_half {n i : Nat} (hn : n ≤ 8) (hi : i < n) {l : List ByteArray} (h : (scanB (roundsB n) l).all (homeB i) = true) : (scanB (roundsB n) l.reverse).all (homeB i) = true := by
  rw [List.all_eq_true] at h ⊢
  intro x hx
  obtain ⟨j, hj, rfl⟩ := (scan_mem hn).1 hx
  rw [List.length_reverse] at hj
  rw [rev_row hn l hj]
  have hin : ∀ c : List ByteArray, RowIn n (runB (roundsB n) c) := fun c => runB_in hn c (rounds_in hn)
  have h1 := h _ ((scan_mem hn).2 ⟨l.length - j, by omega, rfl⟩)
  have h2 := h _ ((scan_mem hn).2 ⟨l.length, by omega, rfl⟩)
  rw [List.take_length] at h2
  rw [home_times (hin _) (hin _) hi h1]
  exact home_inv hn (hin l) (hin _) hi (rev_times hn l).2 h2
theorem still_rev {n : Nat} (hn : n ≤ 8) (l : List ByteArray) : stillL n (scanB (roundsB n) l.reverse) = stillL n (scanB (roundsB n) l) := by
  unfold stillL
  refine List.filter_congr fun i hi => ?_
  have hi := List.mem_range.1 hi
  rw [Bool.eq_iff_iff]
  exact ⟨fun h => by have := still_half hn hi h; rwa [List.reverse_reverse] at this, still_half hn hi⟩
theorem hunt_rev {n : Nat} (hn : n ≤ 8) (l : List ByteArray) : stillL n [runB (roundsB n) l.reverse] = stillL n [runB (roundsB n) l] := by
  unfold stillL
  refine List.filter_congr fun i hi => ?_
  have hi := List.mem_range.1 hi
  have hin : ∀ c : List ByteArray, RowIn n (runB (roundsB n) c) := fun c => runB_in hn c (rounds_in hn)
  simp only [List.all_cons, List.all_nil, Bool.and_true]
  rw [Bool.eq_iff_iff]
  exact ⟨home_inv hn (hin _) (hin _) hi (rev_times hn l).1, home_inv hn (hin _) (hin _) hi (rev_times hn l).2⟩
theorem even_rev {n : Nat} (hn : n ≤ 8) (l : List ByteArray) : evenB (runB (roundsB n) l.reverse) = evenB (runB (roundsB n) l) := by
  rw [ev_run hn _ (Inv.rounds hn), ev_run hn _ (Inv.rounds hn)]
  have : swapCount n l.reverse = swapCount n l := by
    unfold swapCount
    rw [List.map_reverse, List.sum_reverse]
  rw [this]
/-- The reversed method. -/
def revM (m : Mt) : Mt := ⟨m.name, m.stage, m.l.reverse⟩
theorem rev_meth {m : Mt} (h : methB m = true) : methB (revM m) = true := by
  unfold methB revM chgs at *
  simpa [List.all_reverse] using h
theorem rev_mk {m : Mt} {n K : Nat} (h : MK m n K) : MK (revM m) n K := by
  obtain ⟨n', K', h'⟩ := mk_of (rev_meth h.ok)
  have e : n' = n := by
    have h1 := h'.g.st
    have h2 := h.g.st
    unfold revM at h1
    simp only at h1
    omega
  subst e
  have hn := h.g.hi
  have ho := ord_rev hn h.hin (runB_in hn m.l.reverse (rounds_in hn)) (rev_times hn m.l).1 h.ord
  have : K' = K := h'.ord.uniq ho
  subst this
  exact h'
theorem rev_kw0 {m : Mt} {n K : Nat} (h : MK m n K) : kw0 (revM m) n K = kw0 m n K := by
  unfold kw0
  have hl : (revM m).l.length = m.l.length := List.length_reverse
  rw [hl]
  split
  · rename_i hle
    have hnd : (crsL (revM m) n K).Nodup ↔ (crsL m n K).Nodup := by
      unfold crsL
      rw [hl, if_pos hle, if_pos hle]
      exact rev_nodup h.g.hi h.ord
    simp only [hnd]
  · rfl
theorem rev_kw1 {m : Mt} {n K : Nat} (h : MK m n K) : kw1 (revM m) n = kw1 m n := by
  unfold kw1 revM
  simp only
  rw [still_rev h.g.hi, hunt_rev h.g.hi]
theorem rev_kw2 {m : Mt} {n K : Nat} (h : MK m n K) : kw2 (revM m) n = kw2 m n := by
  unfold kw2 revM
  simp only
  rw [even_rev h.g.hi]
end Go.Proofs.Ytpkpahadjdkafaa

/- Rows as permutations: a plain account of products, powers and orders. -/
import Derived.Test.YtofpjbdelmmclaaGreatDoorPk11
namespace Go.Proofs.YtofpjbdelmmclaaGreatDoor
open Go Go.RowKit
set_option linter.unusedVariables false
set_option linter.unusedSimpArgs false

theorem timesL_assoc {n : Nat} (a : List UInt8) {b c : List UInt8} (hb : b.length = n) (hc : InL n c) : timesL (timesL a b) c = timesL a (timesL b c) := by
  unfold timesL
  rw [List.map_map]
  apply List.map_congr_left
  intro x hx
  have h := hc x hx
  have hj : x.toNat - 49 < b.length := by omega
  simp only [Function.comp, List.getD_eq_getElem?_getD, List.getElem?_map]
  rw [List.getElem?_eq_getElem hj]
  simp
theorem u8_49 {i : Nat} (h : i < 8) : (UInt8.ofNat (49 + i)).toNat = 49 + i := UInt8.toNat_ofNat_of_lt' (by show 49 + i < 256; omega)
theorem timesL_rounds {a : List UInt8} {n : Nat} (hn : n ≤ 8) (hl : a.length = n) : timesL a (roundsL n) = a := by
  apply List.ext_getElem?
  intro i
  unfold timesL
  rw [List.getElem?_map]
  by_cases hi : i < n
  · rw [roundsL_get hi, Option.map_some, u8_49 (by omega), List.getD_eq_getElem?_getD, show 49 + i - 49 = i by omega, List.getElem?_eq_getElem (by omega)]
    rfl
  · rw [List.getElem?_eq_none (by rw [roundsL_len]; omega), List.getElem?_eq_none (by omega)]
    rfl
theorem rounds_timesL {a : List UInt8} {n : Nat} (hn : n ≤ 8) (ha : InL n a) : timesL (roundsL n) a = a := by
  unfold timesL
  conv => rhs; rw [← List.map_id a]
  apply List.map_congr_left
  intro x hx
  have h := ha x hx
  rw [List.getD_eq_getElem?_getD, roundsL_get (by omega), Option.getD_some]
  apply UInt8.toNat_inj.1
  rw [u8_49 (by omega), id]
  omega
theorem times_assoc {n : Nat} (a : ByteArray) {b c : ByteArray} (hb : RowIn n b) (hc : RowIn n c) : timesB (timesB a b) c = timesB a (timesB b c) := by
  unfold timesB
  rw [ofL_list, ofL_list, timesL_assoc _ hb.len hc.2]
theorem times_rounds {n : Nat} {a : ByteArray} (hn : n ≤ 8) (ha : RowIn n a) : timesB a (roundsB n) = a := by
  unfold timesB
  rw [rounds_list hn, timesL_rounds hn ha.len, ofL_eq]
theorem rounds_times {n : Nat} {a : ByteArray} (hn : n ≤ 8) (ha : RowIn n a) : timesB (roundsB n) a = a := by
  unfold timesB
  rw [rounds_list hn, rounds_timesL hn ha.2, ofL_eq]
/-- A row that has an inverse. -/
def Inv (n : Nat) (a : ByteArray) : Prop := RowIn n a ∧ ∃ b, RowIn n b ∧ timesB a b = roundsB n ∧ timesB b a = roundsB n
theorem Inv.rounds {n : Nat} (hn : n ≤ 8) : Inv n (roundsB n) := ⟨rounds_in hn, _, rounds_in hn, times_rounds hn (rounds_in hn), times_rounds hn (rounds_in hn)⟩
theorem Inv.times {n : Nat} (hn : n ≤ 8) {a b : ByteArray} (ha : Inv n a) (hb : Inv n b) : Inv n (timesB a b) := by
  obtain ⟨ha, a', ha', h1, h2⟩ := ha
  obtain ⟨hb, b', hb', h3, h4⟩ := hb
  refine ⟨times_in ha hb, timesB b' a', times_in hb' ha', ?_, ?_⟩
  · rw [times_assoc a hb (times_in hb' ha'), ← times_assoc b hb' ha', h3, rounds_times hn ha', h1]
  · rw [times_assoc b' ha' (times_in ha hb), ← times_assoc a' ha hb, h2, rounds_times hn hb, h4]
theorem Inv.cancel {n : Nat} (hn : n ≤ 8) {a x y : ByteArray} (ha : Inv n a) (hx : RowIn n x) (hy : RowIn n y) (h : timesB x a = timesB y a) : x = y := by
  obtain ⟨ha, b, hb, h1, h2⟩ := ha
  have e : timesB (timesB x a) b = timesB (timesB y a) b := by rw [h]
  rw [times_assoc x ha hb, times_assoc y ha hb, h1, times_rounds hn hx, times_rounds hn hy] at e
  exact e
theorem Inv.cancel_left {n : Nat} (hn : n ≤ 8) {a x y : ByteArray} (ha : Inv n a) (hx : RowIn n x) (hy : RowIn n y) (h : timesB a x = timesB a y) : x = y := by
  obtain ⟨ha, b, hb, h1, h2⟩ := ha
  have e : timesB b (timesB a x) = timesB b (timesB a y) := by rw [h]
  rw [← times_assoc b ha hx, ← times_assoc b ha hy, h2, rounds_times hn hx, rounds_times hn hy] at e
  exact e
/-- Where a place goes under swaps. -/
def tau (ps : List Nat) (i : Nat) : Nat := if i + 1 ∈ ps then i + 1 else if i ∈ ps then i - 1 else i
theorem swapAt_get {b : List UInt8} {p i : Nat} (hp : 1 ≤ p) (hl : p < b.length) (hi : i < b.length) : (swapAt b p)[i]? = b[if i + 1 = p then i + 1 else if i = p then i - 1 else i]? := by
  unfold swapAt
  rw [List.getElem?_set, List.getElem?_set]
  simp only [List.length_set]
  by_cases h1 : p = i
  · subst h1
    rw [if_pos rfl, if_pos hi, if_neg (by omega), if_pos rfl, List.getD_eq_getElem?_getD, List.getElem?_eq_getElem (by omega)]
    rfl
  · rw [if_neg h1]
    by_cases h2 : p - 1 = i
    · rw [if_pos h2, if_pos (by omega), if_pos (by omega), List.getD_eq_getElem?_getD, show i + 1 = p by omega, List.getElem?_eq_getElem hl]
      rfl
    · rw [if_neg h2, if_neg (by omega), if_neg (by omega)]
theorem tau_no {ps : List Nat} {i : Nat} (h1 : i + 1 ∉ ps) (h2 : i ∉ ps) : tau ps i = i := by unfold tau; rw [if_neg h1, if_neg h2]
/-- Swaps that do not meet. -/
def Gap : Nat → List Nat → Prop
  | _, [] => True
  | lo, p :: ps => lo ≤ p ∧ Gap (p + 2) ps
theorem Gap.ge : ∀ {ps : List Nat} {lo : Nat}, Gap lo ps → ∀ p ∈ ps, lo ≤ p
  | p :: ps, lo, h, q, hq => by
    rcases List.mem_cons.1 hq with rfl | hq
    · exact h.1
    · have := Gap.ge h.2 q hq; have := h.1; omega
theorem foldSwap_get {m : Nat} : ∀ (ps : List Nat) (lo : Nat) (b : List UInt8), 1 ≤ lo → b.length = m → (∀ p ∈ ps, p < m) → Gap lo ps → ∀ i, i < m → (ps.foldl swapAt b)[i]? = b[tau ps i]?
  | [], lo, b, _, _, _, _, i, _ => by rw [tau_no (by simp) (by simp)]; rfl
  | p :: ps, lo, b, hlo, hl, hp, hg, i, hi => by
    have hpm := hp p (List.mem_cons_self ..)
    have hge := Gap.ge hg.2
    have hp1 : 1 ≤ p := by have := hg.1; omega
    have hrec := foldSwap_get ps (p + 2) (swapAt b p) (by omega) (by rw [swapAt_len]; exact hl) (fun q hq => hp q (List.mem_cons_of_mem _ hq)) hg.2 i hi
    rw [List.foldl_cons, hrec]
    have hn : ∀ j, j < p + 2 → j ∉ ps := fun j hj hm => by have := hge j hm; omega
    by_cases h1 : i + 1 = p
    · rw [tau_no (hn _ (by omega)) (hn _ (by omega)), swapAt_get hp1 (by omega) (by omega), if_pos h1]
      unfold tau
      rw [if_pos (by rw [h1]; exact List.mem_cons_self ..)]
    · by_cases h2 : i = p
      · rw [tau_no (hn _ (by omega)) (hn _ (by omega)), swapAt_get hp1 (by omega) (by omega), if_neg h1, if_pos h2]
        unfold tau
        rw [if_neg (fun hm => (List.mem_cons.1 hm).elim (fun h => by omega) (fun h => hn _ (by omega) h)), if_pos (by rw [h2]; exact List.mem_cons_self ..)]
      · have ht : tau (p :: ps) i = tau ps i := by
          unfold tau
          have e1 : (i + 1 ∈ p :: ps) ↔ (i + 1 ∈ ps) := by rw [List.mem_cons]; exact ⟨fun h => h.resolve_left h1, .inr⟩
          have e2 : (i ∈ p :: ps) ↔ (i ∈ ps) := by rw [List.mem_cons]; exact ⟨fun h => h.resolve_left h2, .inr⟩
          simp only [e1, e2]
        rw [ht]
        by_cases h3 : i + 1 ∈ ps
        · have hb := hp _ (List.mem_cons_of_mem _ h3)
          have := hge _ h3
          have e : tau ps i = i + 1 := by unfold tau; rw [if_pos h3]
          rw [e, swapAt_get hp1 (by omega) (by omega), if_neg (by omega), if_neg (by omega)]
        · by_cases h4 : i ∈ ps
          · have := hge _ h4
            have e : tau ps i = i - 1 := by unfold tau; rw [if_neg h3, if_pos h4]
            rw [e, swapAt_get hp1 (by omega) (by omega), if_neg (by omega), if_neg (by omega)]
          · rw [tau_no h3 h4, swapAt_get hp1 (by omega) (by omega), if_neg h1, if_neg h2]
theorem swapsW_gap {c : List UInt8} {n : Nat} (f : Nat) : ∀ (p : Nat), n - p ≤ f → Gap p (swapsW c n p) := by
  induction f with
  | zero => intro p hf; rw [swapsW_end (by omega)]; trivial
  | succ f ih =>
    intro p hf
    by_cases h : p < n
    · cases hs : stays c p
      · rw [swapsW_swap h hs]
        exact ⟨Nat.le_refl _, ih (p + 2) (by omega)⟩
      · rw [swapsW_stay h hs]
        have := ih (p + 1) (by omega)
        cases hl : swapsW c n (p + 1) with
        | nil => trivial
        | cons q t => rw [hl] at this; exact ⟨by have := this.1; omega, this.2⟩
    · rw [swapsW_end h]; trivial
theorem Gap.next : ∀ {ps : List Nat} {lo : Nat}, Gap lo ps → ∀ p ∈ ps, p + 1 ∉ ps
  | q :: ps, lo, h, p, hp => by
    intro hm
    rcases List.mem_cons.1 hp with rfl | hp
    · rcases List.mem_cons.1 hm with e | hm
      · omega
      · have := Gap.ge h.2 _ hm; omega
    · rcases List.mem_cons.1 hm with e | hm
      · have := Gap.ge h.2 _ hp; omega
      · exact Gap.next h.2 p hp hm
theorem tau_tau {ps : List Nat} {lo : Nat} (hlo : 1 ≤ lo) (h : Gap lo ps) (i : Nat) : tau ps (tau ps i) = i := by
  by_cases h1 : i + 1 ∈ ps
  · have e : tau ps i = i + 1 := by unfold tau; rw [if_pos h1]
    rw [e]; unfold tau
    rw [if_neg (h.next _ h1), if_pos h1, Nat.add_sub_cancel]
  · by_cases h2 : i ∈ ps
    · have := h.ge _ h2
      have e : tau ps i = i - 1 := by unfold tau; rw [if_neg h1, if_pos h2]
      rw [e]; unfold tau
      have e2 : i - 1 + 1 = i := by omega
      rw [e2, if_pos h2]
    · rw [tau_no h1 h2, tau_no h1 h2]
theorem tau_lt {ps : List Nat} {m i : Nat} (hp : ∀ p ∈ ps, p < m) (hi : i < m) : tau ps i < m := by
  unfold tau
  split
  · exact hp _ (by assumption)
  · split <;> omega
theorem chL_get {n : Nat} (hn : n ≤ 8) (c : List UInt8) {i : Nat} (hi : i < n) : (chL n c)[i]? = some (UInt8.ofNat (49 + tau (swapsW c n 1) i)) := by
  have hm := fun p hp => (swapsW_mem (c := c) (n := n) (n - 1) 1 (by omega) p hp).2
  unfold chL
  rw [foldSwap_get (m := n) _ 1 _ (by omega) (roundsL_len n) hm (swapsW_gap (n - 1) 1 (by omega)) i hi, roundsL_get (tau_lt hm hi)]
theorem ch_ch {n : Nat} (hn : n ≤ 8) (c : ByteArray) : timesB (chB n c) (chB n c) = roundsB n := by
  have hm := fun p hp => (swapsW_mem (c := c.data.toList) (n := n) (n - 1) 1 (by omega) p hp).2
  apply bytes_ext
  unfold timesB chB
  rw [ofL_list, ofL_list, rounds_list hn]
  apply List.ext_getElem?
  intro i
  unfold timesL
  rw [List.getElem?_map]
  by_cases hi : i < n
  · have ht := tau_lt hm hi
    rw [chL_get hn _ hi, Option.map_some, u8_49 (by omega), List.getD_eq_getElem?_getD, show 49 + tau (swapsW c.data.toList n 1) i - 49 = tau (swapsW c.data.toList n 1) i by omega, chL_get hn _ ht,
      tau_tau (by omega) (swapsW_gap (n - 1) 1 (by omega)), roundsL_get hi]
    rfl
  · rw [List.getElem?_eq_none (by rw [(chL_ok hn _).1]; omega), List.getElem?_eq_none (by rw [roundsL_len]; omega)]
    rfl
theorem ch_inv {n : Nat} (hn : n ≤ 8) (c : ByteArray) : Inv n (chB n c) := ⟨ch_in hn c, _, ch_in hn c, ch_ch hn c, ch_ch hn c⟩
theorem apply_inv {n : Nat} (hn : n ≤ 8) {r : ByteArray} (hr : Inv n r) (c : ByteArray) : Inv n (applyB r c) := by
  unfold applyB; rw [hr.1.1]; exact hr.times hn (ch_inv hn c)
theorem run_inv {n : Nat} (hn : n ≤ 8) : ∀ (cs : List ByteArray) {r : ByteArray}, Inv n r → Inv n (runB r cs)
  | [], r, hr => hr
  | c :: cs, r, hr => run_inv hn cs (apply_inv hn hr c)
theorem run_from {n : Nat} (hn : n ≤ 8) : ∀ (cs : List ByteArray) {r : ByteArray}, RowIn n r → runB r cs = timesB r (runB (roundsB n) cs)
  | [], r, hr => (times_rounds hn hr).symm
  | c :: cs, r, hr => by
    have hc := ch_in hn c
    have hR := runB_in hn cs (rounds_in hn)
    show runB (applyB r c) cs = timesB r (runB (applyB (roundsB n) c) cs)
    rw [run_from hn cs (apply_in hn hr c), run_from hn cs (apply_in hn (rounds_in hn) c)]
    unfold applyB
    rw [hr.1, rounds_size hn, rounds_times hn hc, times_assoc r hc hR]
theorem run_cons {n : Nat} (hn : n ≤ 8) (c : ByteArray) (cs : List ByteArray) : runB (roundsB n) (c :: cs) = timesB (chB n c) (runB (roundsB n) cs) := by
  show runB (applyB (roundsB n) c) cs = _
  rw [run_from hn cs (apply_in hn (rounds_in hn) c)]
  unfold applyB
  rw [rounds_size hn, rounds_times hn (ch_in hn c)]
theorem run_app {n : Nat} (hn : n ≤ 8) (xs ys : List ByteArray) : runB (roundsB n) (xs ++ ys) = timesB (runB (roundsB n) xs) (runB (roundsB n) ys) := by
  rw [show runB (roundsB n) (xs ++ ys) = runB (runB (roundsB n) xs) ys by simp [runB], run_from hn ys (runB_in hn xs (rounds_in hn))]
theorem run_back {n : Nat} (hn : n ≤ 8) : ∀ (cs : List ByteArray), timesB (runB (roundsB n) cs) (runB (roundsB n) cs.reverse) = roundsB n
  | [] => times_rounds hn (rounds_in hn)
  | c :: cs => by
    have hc := ch_in hn c
    have h1 := runB_in hn cs (rounds_in hn)
    have h2 := runB_in hn cs.reverse (rounds_in hn)
    have e : runB (roundsB n) [c] = chB n c := by
      show applyB (roundsB n) c = _
      unfold applyB
      rw [rounds_size hn, rounds_times hn hc]
    rw [List.reverse_cons, run_app hn, run_cons hn, e, times_assoc (chB n c) h1 (times_in h2 hc), ← times_assoc (runB (roundsB n) cs) h2 hc, run_back hn cs, rounds_times hn hc, ch_ch hn]
theorem scan_from {n : Nat} (hn : n ≤ 8) : ∀ (cs : List ByteArray) {r : ByteArray}, RowIn n r → scanB r cs = (scanB (roundsB n) cs).map (timesB r)
  | [], r, hr => by simp [scanB, times_rounds hn hr]
  | c :: cs, r, hr => by
    have hc := ch_in hn c
    rw [scanB, scanB, List.map_cons, times_rounds hn hr, scan_from hn cs (apply_in hn hr c), scan_from hn cs (apply_in hn (rounds_in hn) c), List.map_map]
    congr 1
    apply List.map_congr_left
    intro x hx
    have hx := scanB_in hn cs (rounds_in hn) x hx
    show timesB (applyB r c) x = timesB r (timesB (applyB (roundsB n) c) x)
    unfold applyB
    rw [hr.1, rounds_size hn, rounds_times hn hc, times_assoc r hc hx]
theorem lead_from {n : Nat} (hn : n ≤ 8) (cs : List ByteArray) {r : ByteArray} (hr : RowIn n r) : leadB r cs = (leadB (roundsB n) cs).map (timesB r) := by
  unfold leadB
  rw [scan_from hn cs hr, List.map_take]
/-- Powers of a row. -/
def powB (n : Nat) (a : ByteArray) : Nat → ByteArray
  | 0 => roundsB n
  | k + 1 => timesB (powB n a k) a
def powL (n : Nat) (a : ByteArray) (K : Nat) : List ByteArray := (List.range K).map (powB n a)
theorem powL_len (n : Nat) (a : ByteArray) (K : Nat) : (powL n a K).length = K := by simp [powL]
theorem powL_succ (n : Nat) (a : ByteArray) (K : Nat) : powL n a (K + 1) = powL n a K ++ [powB n a K] := by simp [powL, List.range_succ]
theorem pow_one {n : Nat} (hn : n ≤ 8) {a : ByteArray} (ha : RowIn n a) : powB n a 1 = a := rounds_times hn ha
theorem pow_in {n : Nat} (hn : n ≤ 8) {a : ByteArray} (ha : RowIn n a) : ∀ k, RowIn n (powB n a k)
  | 0 => rounds_in hn
  | k + 1 => times_in (pow_in hn ha k) ha
theorem pow_inv {n : Nat} (hn : n ≤ 8) {a : ByteArray} (ha : Inv n a) : ∀ k, Inv n (powB n a k)
  | 0 => Inv.rounds hn
  | k + 1 => (pow_inv hn ha k).times hn ha
theorem pow_add {n : Nat} (hn : n ≤ 8) {a : ByteArray} (ha : RowIn n a) (i : Nat) : ∀ j, powB n a (i + j) = timesB (powB n a i) (powB n a j)
  | 0 => (times_rounds hn (pow_in hn ha i)).symm
  | j + 1 => by
    show timesB (powB n a (i + j)) a = timesB (powB n a i) (timesB (powB n a j) a)
    rw [pow_add hn ha i j, times_assoc _ (pow_in hn ha j) ha]
/-- The order of a row. -/
def IsOrd (n : Nat) (a : ByteArray) (K : Nat) : Prop := 1 ≤ K ∧ powB n a K = roundsB n ∧ ∀ j, 1 ≤ j → j < K → powB n a j ≠ roundsB n
theorem IsOrd.uniq {n : Nat} {a : ByteArray} {K L : Nat} (h : IsOrd n a K) (h' : IsOrd n a L) : K = L := by
  rcases Nat.lt_trichotomy K L with hl | hl | hl
  · exact absurd h.2.1 (h'.2.2 K h.1 hl)
  · exact hl
  · exact absurd h'.2.1 (h.2.2 L h'.1 hl)
theorem pigeon : ∀ (N : Nat) (f : Nat → Nat), (∀ i, i ≤ N → f i < N) → ∃ i j, i < j ∧ j ≤ N ∧ f i = f j
  | 0, f, h => absurd (h 0 (Nat.le_refl _)) (by omega)
  | N + 1, f, h => by
    by_cases hc : ∃ i, i ≤ N ∧ f i = f (N + 1)
    · obtain ⟨i, hi, e⟩ := hc
      exact ⟨i, N + 1, by omega, Nat.le_refl _, e⟩
    · have hne : ∀ i, i ≤ N → f i ≠ f (N + 1) := fun i hi e => hc ⟨i, hi, e⟩
      have hv := h (N + 1) (Nat.le_refl _)
      obtain ⟨i, j, hij, hj, e⟩ := pigeon N (fun i => if f i < f (N + 1) then f i else f i - 1) (fun i hi => by
        have h1 := hne i hi
        have h2 := h i (by omega)
        show (if f i < f (N + 1) then f i else f i - 1) < N
        split <;> omega)
      refine ⟨i, j, hij, by omega, ?_⟩
      have h1 := hne i (by omega)
      have h2 := hne j (by omega)
      have e' : (if f i < f (N + 1) then f i else f i - 1) = (if f j < f (N + 1) then f j else f j - 1) := e
      split at e' <;> split at e' <;> omega
def codeL : List UInt8 → Nat
  | [] => 0
  | b :: t => (b.toNat - 49) + 8 * codeL t
theorem codeL_lt : ∀ (l : List UInt8), InL 8 l → codeL l < 8 ^ l.length
  | [], _ => by simp [codeL]
  | b :: t, h => by
    have h1 := h b (List.mem_cons_self ..)
    have h2 := codeL_lt t (fun x hx => h x (List.mem_cons_of_mem _ hx))
    rw [codeL, List.length_cons, Nat.pow_succ]
    omega
theorem codeL_inj : ∀ (l m : List UInt8), l.length = m.length → InL 8 l → InL 8 m → codeL l = codeL m → l = m
  | [], [], _, _, _, _ => rfl
  | [], _ :: _, h, _, _, _ => by simp at h
  | _ :: _, [], h, _, _, _ => by simp at h
  | a :: l, b :: m, hl, h1, h2, e => by
    have ha := h1 a (List.mem_cons_self ..)
    have hb := h2 b (List.mem_cons_self ..)
    rw [codeL, codeL] at e
    have e1 : a = b := UInt8.toNat_inj.1 (by omega)
    rw [e1, codeL_inj l m (by simpa using hl) (fun x hx => h1 x (List.mem_cons_of_mem _ hx)) (fun x hx => h2 x (List.mem_cons_of_mem _ hx)) (by omega)]
theorem RowIn.eight {n : Nat} (hn : n ≤ 8) {a : ByteArray} (ha : RowIn n a) : InL 8 a.data.toList := fun b hb => by have := ha.2 b hb; omega
theorem least_of {P : Nat → Prop} : ∀ k, P k → ∃ k', k' ≤ k ∧ P k' ∧ ∀ j, j < k' → ¬ P j := by
  intro k
  induction k using Nat.strongRecOn with
  | ind k ih =>
    intro hk
    by_cases h : ∃ j, j < k ∧ P j
    · obtain ⟨j, hj, hp⟩ := h
      obtain ⟨k', h1, h2⟩ := ih j hj hp
      exact ⟨k', by omega, h2⟩
    · exact ⟨k, Nat.le_refl _, hk, fun j hj hp => h ⟨j, hj, hp⟩⟩
theorem ord_ex {n : Nat} (hn : n ≤ 8) {a : ByteArray} (ha : Inv n a) : ∃ K, K ≤ 16777216 ∧ IsOrd n a K := by
  have h8 : 8 ^ n ≤ 16777216 := Nat.le_trans (Nat.pow_le_pow_right (by omega) hn) (by decide)
  obtain ⟨i, j, hij, hj, e⟩ := pigeon (8 ^ n) (fun k => codeL (powB n a k).data.toList) (fun k _ => by
    have h := codeL_lt _ ((pow_in hn ha.1 k).eight hn)
    rw [(pow_in hn ha.1 k).len] at h
    exact h)
  have hi := pow_in hn ha.1 i
  have hj' := pow_in hn ha.1 j
  have e2 := bytes_ext (codeL_inj _ _ (by rw [hi.len, hj'.len]) (hi.eight hn) (hj'.eight hn) e)
  have e3 : powB n a (j - i) = roundsB n := by
    rw [show j = (j - i) + i by omega, pow_add hn ha.1 (j - i) i] at e2
    apply (pow_inv hn ha i).cancel hn (pow_in hn ha.1 _) (rounds_in hn)
    rw [← e2, rounds_times hn hi]
  obtain ⟨K, h1, h2, h3⟩ := least_of (P := fun k => 1 ≤ k ∧ powB n a k = roundsB n) (j - i) ⟨by omega, e3⟩
  exact ⟨K, by omega, h2.1, h2.2, fun q hq hlt hp => h3 q hlt ⟨hq, hp⟩⟩
end Go.Proofs.YtofpjbdelmmclaaGreatDoor

/- slices.Sort at a row of texts of the call's own. -/
import Derived.Test.YthgadnhkbmimiaaGreatPk14
import Derived.Test.YthgadnhkbmimiaaGreatPk8
import Derived.Sort.OwnSorted
import Derived.Sort.Walk0
import Derived.Lib.SlicesCompact
import Derived.Test.YthgadnhkbmimiaaGreatPk6
namespace Go.Proofs.YthgadnhkbmimiaaGreat
open Go Go.RowKit Go.Sort
set_option linter.unusedVariables false
set_option linter.unusedSimpArgs false
theorem merge_sortB (l : List ByteArray) : (((l.map (·.data.toList)).mergeSort fun x y => decide (x ≤ y)).map ofL) = sortB l := by
  apply sorted_uniq
  · have h := (List.mergeSort_perm (l.map (·.data.toList)) (fun x y => decide (x ≤ y))).map ofL
    have e : (l.map (·.data.toList)).map ofL = l := by
      rw [List.map_map]
      conv => rhs; rw [← List.map_id l]
      apply List.map_congr_left
      intro x _
      exact ofL_eq x
    rw [e] at h
    exact h
  · rw [SortedS, List.pairwise_map]
    have hs := List.pairwise_mergeSort (le := fun x y : List UInt8 => decide (x ≤ y)) (fun a b c h1 h2 => by
      simp only [decide_eq_true_eq] at *
      exact List.le_trans h1 h2) (fun a b => by
      simp only [Bool.or_eq_true, decide_eq_true_eq]
      exact List.le_total a b) (l.map (·.data.toList))
    refine hs.imp (fun {a b} h => ?_)
    simp only [decide_eq_true_eq] at h
    unfold nmLt
    rw [bytesLess_eq, bytes_toList, bytes_toList, ofL_list, ofL_list]
    exact decide_eq_false (List.not_lt.2 h)
theorem sortS_any (g n c base : Nat) (l : List ByteArray) (w : World) (h : w.ownsRow base 9 1 (.slice (some ⟨g, 0, none⟩) n c) n (l.map Value.string)) (hl : n ≤ 100000000) : Calls Tryz.prog 151 #[.slice (some ⟨g, 0, none⟩) n c] w fun e w' =>
    e = .returned (.tuple #[]) ∧ w'.ownsRow base 9 1 (.slice (some ⟨g, 0, none⟩) n c) n ((sortB l).map Value.string) ∧ Below base w w' ∧ w.heap.size ≤ w'.heap.size := by
  have hlen : l.length = n := by have := h.1; simpa using this
  subst hlen
  obtain ⟨ss, hss⟩ : ∃ ss, ss = l.map (·.data.toList) := ⟨_, rfl⟩
  have hsl : ss.length = l.length := by rw [hss, List.length_map]
  have e1 : l.map Value.string = ss.map encStr := by
    rw [hss, List.map_map]
    apply List.map_congr_left
    intro x _
    rfl
  have e2 : ((ss.mergeSort fun x y => decide (x ≤ y)).map encStr) = (sortB l).map Value.string := by
    rw [← merge_sortB l, ← hss, List.map_map]
    rfl
  rw [e1] at h
  rcases h.2 with ⟨hnil, _⟩ | ⟨g', cap, cur, hv, hbase, hb, h1, h2, h3, h4⟩
  · cases hnil
  · injection hv with ha hn hc
    injection ha with ha
    injection ha with ha
    subst ha hc
    rw [← hsl] at h1 h4 hl ⊢
    have hs := Tryz.slices_Sort_string g 0 c ss w (holds_of_block hb (by simpa using h4)) (Array.getElem?_eq_some_iff.1 hb).1 (by omega)
    refine hs.mono ?_
    rintro e w' ⟨rfl, k, os, rfl⟩
    have hg := grownBy_sorted (w := w) (g := g) (n := k) (os := os) (ss.mergeSort fun x y => decide (x ≤ y)).toArray
    have ho := ownsRow_sorted (n := k) (os := os) (ts := ss.mergeSort fun x y => decide (x ≤ y)) (by simp) hbase hb h1 h2 h3
    rw [e2] at ho
    have hgl := (Array.getElem?_eq_some_iff.1 hb).1
    exact ⟨rfl, ho, (Below.refl _ _).grown hg (by omega) (fun k hk => by cases hk; exact hbase), hg.size⟩
end Go.Proofs.YthgadnhkbmimiaaGreat

/- Rising rows without repetition: slices.Compact behind a sort, sets joined: a plain account. -/
namespace Go.Proofs.YthgadnhkbmimiaaGreat
open Go Go.RowKit Go.Sort
set_option linter.unusedVariables false
set_option linter.unusedSimpArgs false

theorem get_at {α : Type} [Inhabited α] {zs : List α} {i : Nat} (h : i < zs.length) : zs.toArray[i]! = zs[i] := by
  rw [getElem!_pos zs.toArray i (by simpa using h)]
  simp
theorem compact_to {α : Type} [Inhabited α] [DecidableEq α] {le : α → α → Prop} (anti : ∀ a b, le a b → le b a → a = b) {zs : List α} (h : zs.Pairwise le) : ∀ m, m ≤ zs.length → (∀ x, x ∈ Lib.compactUpTo zs.toArray m ↔ x ∈ zs.take m) ∧ (Lib.compactUpTo zs.toArray m).Nodup
  | 0, _ => by simp [Lib.compactUpTo]
  | m + 1, hm => by
    obtain ⟨h1, h2⟩ := compact_to anti h m (by omega)
    have hp := List.pairwise_iff_getElem.1 h
    have hml : m < zs.length := by omega
    have em := get_at hml
    rw [Lib.compactUpTo_succ, em]
    have et : zs.take (m + 1) = zs.take m ++ [zs[m]] := List.take_succ_eq_append_getElem hml
    cases hk : Lib.keeps zs.toArray m
    · have hin : zs[m] ∈ zs.take m := by
        unfold Lib.keeps at hk
        have hk := of_decide_eq_false hk
        have hm0 : m ≠ 0 := fun e => hk (.inl e)
        have e1 : zs.toArray[m]! = zs.toArray[m - 1]! := Classical.byContradiction fun e => hk (.inr e)
        rw [em, get_at (show m - 1 < zs.length by omega)] at e1
        rw [e1, List.mem_take_iff_getElem]
        exact ⟨m - 1, by omega, rfl⟩
      rw [if_neg (by simp), List.append_nil]
      refine ⟨fun x => ?_, h2⟩
      rw [h1, et, List.mem_append, List.mem_singleton]
      exact ⟨.inl, fun hx => hx.elim id (fun e => by rw [e]; exact hin)⟩
    · rw [if_pos rfl]
      refine ⟨fun x => ?_, ?_⟩
      · rw [List.mem_append, h1, et, List.mem_append]
      · rw [List.nodup_append]
        refine ⟨h2, by simp, fun a ha b hb e => ?_⟩
        rw [List.mem_singleton] at hb
        subst hb; subst e
        rw [h1, List.mem_take_iff_getElem] at ha
        obtain ⟨j, hj, e⟩ := ha
        have hjm : j < m := by omega
        have hk := of_decide_eq_true hk
        have e1 : zs.toArray[m]! ≠ zs.toArray[m - 1]! := hk.resolve_left (by omega)
        rw [em, get_at (show m - 1 < zs.length by omega)] at e1
        rcases Nat.eq_or_lt_of_le (show j ≤ m - 1 by omega) with e2 | hlt
        · subst e2; exact e1 e.symm
        · have a1 := hp j (m - 1) (by omega) (by omega) hlt
          have a2 := hp (m - 1) m (by omega) hml (by omega)
          rw [e] at a1
          exact e1 (anti _ _ a1 a2)
theorem compact_sub {α : Type} [Inhabited α] [DecidableEq α] (zs : List α) : (Lib.compact zs).Sublist zs := by
  have h := (List.filter_sublist (p := Lib.keeps zs.toArray) (l := List.range zs.length)).map (fun j => zs.toArray[j]!)
  have e : (List.range zs.length).map (fun j => zs.toArray[j]!) = zs := by
    have := Lib.range_map_get zs.toArray
    simpa using this
  rw [e] at h
  exact h
/-- What slices.Compact makes of rows. -/
def compB (l : List ByteArray) : List ByteArray := (Lib.compact (l.map (·.data.toList))).map ofL
theorem ofL_data (x : ByteArray) : ofL x.data.toList = x := by unfold ofL; simp
theorem map_ofL (l : List ByteArray) : (l.map (·.data.toList)).map ofL = l := by
  rw [List.map_map]
  conv => rhs; rw [← List.map_id l]
  apply List.map_congr_left
  intro x _
  exact ofL_data x
theorem compB_sub (l : List ByteArray) : (compB l).Sublist l := by
  have h := (compact_sub (l.map (·.data.toList))).map ofL
  rw [map_ofL] at h
  exact h
theorem compB_ok {l : List ByteArray} (hs : SortedS l) : (∀ x, x ∈ compB l ↔ x ∈ l) ∧ (compB l).Nodup ∧ SortedS (compB l) := by
  have hp : (l.map (·.data.toList)).Pairwise (fun a b => nmLt (ofL b) (ofL a) = false) := by
    rw [List.pairwise_map]
    refine hs.imp ?_
    intro a b h
    rw [ofL_data, ofL_data]; exact h
  have inj : ∀ a b : List UInt8, ofL a = ofL b → a = b := fun a b h => by
    have := congrArg (fun x : ByteArray => x.data.toList) h
    simpa [ofL] using this
  obtain ⟨h1, h2⟩ := compact_to (fun a b h h' => inj a b (sl_tot h' h)) hp (l.map (·.data.toList)).length (Nat.le_refl _)
  rw [List.take_length] at h1
  refine ⟨fun x => ?_, ?_, hs.sublist (compB_sub l)⟩
  · unfold compB Lib.compact
    rw [List.mem_map]
    constructor
    · rintro ⟨a, ha, rfl⟩
      rw [h1] at ha
      obtain ⟨y, hy, rfl⟩ := List.mem_map.1 ha
      rw [ofL_data]; exact hy
    · intro hx
      exact ⟨x.data.toList, (h1 _).2 (List.mem_map.2 ⟨x, hx, rfl⟩), ofL_data x⟩
  · unfold compB Lib.compact
    rw [List.Nodup, List.pairwise_map]
    exact h2.imp (fun h e => h (inj _ _ e))
/-- Bobs with a set put into them. -/
def addS (bobs S : List ByteArray) : List ByteArray := S.foldl putS bobs
theorem addS_ok : ∀ (S : List ByteArray) {bobs : List ByteArray}, SortedS bobs → bobs.Nodup → SortedS (addS bobs S) ∧ (addS bobs S).Nodup ∧ ∀ x, x ∈ addS bobs S ↔ x ∈ bobs ∨ x ∈ S
  | [], bobs, h1, h2 => ⟨h1, h2, fun x => by simp [addS]⟩
  | y :: S, bobs, h1, h2 => by
    obtain ⟨a, b, c⟩ := addS_ok S (putS_sorted bobs y) (putS_nodup h2 y)
    refine ⟨a, b, fun x => ?_⟩
    show x ∈ addS (putS bobs y) S ↔ _
    rw [c, putS_mem, List.mem_cons, or_assoc]
theorem addS_comp {bobs S : List ByteArray} (h1 : SortedS bobs) (h2 : bobs.Nodup) : compB (sortB (bobs ++ S)) = addS bobs S := by
  obtain ⟨a, b, c⟩ := compB_ok (sortB_sorted (bobs ++ S))
  obtain ⟨a', b', c'⟩ := addS_ok S h1 h2
  refine sorted_ext c b a' b' (fun x => ?_)
  rw [a, sortB_mem, List.mem_append, c']
end Go.Proofs.YthgadnhkbmimiaaGreat

/- Bobs: rising rows of a group that hold the set of each of theirs: a plain account. -/
namespace Go.Proofs.YthgadnhkbmimiaaGreat
open Go Go.RowKit
set_option linter.unusedVariables false
set_option linter.unusedSimpArgs false

/-- Rows that rise strictly, as a loop looks at them. -/
def Rise (l : List ByteArray) (k : Nat) : Prop := ∀ i (h : i < l.length), i < k → 0 < i → nmLt (l[i - 1]'(by omega)) l[i] = true
theorem Rise.zero (l : List ByteArray) : Rise l 0 := fun i h h1 => absurd h1 (by omega)
theorem Rise.one (l : List ByteArray) : Rise l 1 := fun i h h1 h2 => absurd h1 (by omega)
theorem Rise.step {l : List ByteArray} {k : Nat} (h : Rise l k) (hk : k < l.length) (e : 0 < k → nmLt (l[k - 1]'(by omega)) l[k] = true) : Rise l (k + 1) := fun i hi h1 h2 => by
  rcases Nat.lt_or_ge i k with h3 | h3
  · exact h i hi h3 h2
  · obtain rfl : i = k := by omega
    exact e h2
theorem Rise.lt {l : List ByteArray} (h : Rise l l.length) : ∀ d i (hi : i + d + 1 < l.length), nmLt (l[i]'(by omega)) l[i + d + 1] = true
  | 0, i, hi => h (i + 1) hi hi (by omega)
  | d + 1, i, hi => sl_trans (h.lt d i (by omega)) (h (i + d + 1 + 1) hi hi (by omega))
theorem Rise.pair {l : List ByteArray} (h : Rise l l.length) : l.Pairwise (fun a b => nmLt a b = true) := by
  rw [List.pairwise_iff_getElem]
  intro i j hi hj hij
  have := h.lt (j - i - 1) i (by omega)
  have e : i + (j - i - 1) + 1 = j := by omega
  simp only [e] at this
  exact this
theorem Rise.sorted {l : List ByteArray} (h : Rise l l.length) : SortedS l := h.pair.imp (fun h => sl_asym h)
theorem Rise.nodup {l : List ByteArray} (h : Rise l l.length) : l.Nodup := h.pair.imp (fun h e => by rw [e, sl_irr] at h; cases h)
theorem rise_of {l : List ByteArray} (h1 : SortedS l) (h2 : l.Nodup) : Rise l l.length := fun i hi _ h0 => by
  have a := (List.pairwise_iff_getElem.1 h1) (i - 1) i (by omega) hi (by omega)
  have b := (List.pairwise_iff_getElem.1 h2) (i - 1) i (by omega) hi (by omega)
  cases hx : nmLt (l[i - 1]'(by omega)) l[i]
  · exact absurd (sl_tot hx a) b
  · rfl
/-- Rising rows of G. -/
def InG (G bobs : List ByteArray) : Prop := (∀ h ∈ bobs, h ∈ G) ∧ Rise bobs bobs.length
theorem InG.len {G bobs : List ByteArray} (h : InG G bobs) : bobs.length ≤ G.length := nodup_le bobs G h.2.nodup h.1
theorem InG.nil (G : List ByteArray) : InG G [] := ⟨fun h hh => (by cases hh), fun i h => absurd h (Nat.not_lt_zero _)⟩
theorem good_sets {n : Nat} (hn : n ≤ 8) {bobs : List ByteArray} {Q : ByteArray} {K : Nat} (hQ : Inv n Q) (hK : IsOrd n Q K) (hr : ∀ h ∈ bobs, RowIn n h) : goodQ bobs Q ↔ ∀ h ∈ bobs, ∀ g ∈ sortB (setB n Q h K), g ∈ bobs := by
  constructor
  · intro hg h hh g hgm
    rw [sortB_mem] at hgm
    unfold setB powL at hgm
    rw [List.map_map] at hgm
    obtain ⟨j, _, rfl⟩ := List.mem_map.1 hgm
    exact good_pow hn hQ.1 hg (hr h hh) hh j
  · intro hs h hh
    apply hs h hh
    rw [sortB_mem]
    unfold setB powL
    rw [List.map_map]
    rcases Nat.lt_or_ge 1 K with h1 | h1
    · exact List.mem_map.2 ⟨1, List.mem_range.2 h1, by show timesB h (powB n Q 1) = _; rw [pow_one hn hQ.1]⟩
    · have hK1 : K = 1 := by have := hK.1; omega
      subst hK1
      refine List.mem_map.2 ⟨0, List.mem_range.2 (by omega), ?_⟩
      show timesB h (roundsB n) = _
      have e := hK.2.1
      rw [pow_one hn hQ.1] at e
      rw [e]
theorem setB_in {n : Nat} (hn : n ≤ 8) {Q h : ByteArray} {K : Nat} (hQ : RowIn n Q) (hh : RowIn n h) : ∀ x ∈ setB n Q h K, RowIn n x := by
  intro x hx
  unfold setB powL at hx
  rw [List.map_map] at hx
  obtain ⟨j, _, rfl⟩ := List.mem_map.1 hx
  exact times_in hh (pow_in hn hQ j)
theorem powB_succ' {n : Nat} (hn : n ≤ 8) {Q : ByteArray} (hQ : RowIn n Q) (j : Nat) : timesB Q (powB n Q j) = powB n Q (j + 1) := by
  have h5 := pow_add hn hQ 1 j
  rw [pow_one hn hQ, Nat.add_comm] at h5
  exact h5.symm
/-- Bobs and a set: still closed under Q. -/
theorem addS_good {n : Nat} (hn : n ≤ 8) {bobs : List ByteArray} {Q h : ByteArray} {K : Nat} (hQ : Inv n Q) (hK : IsOrd n Q K) (hh : RowIn n h) (hs : SortedS bobs) (hd : bobs.Nodup) (hg : goodQ bobs Q) : goodQ (addS bobs (sortB (setB n Q h K))) Q := by
  obtain ⟨_, _, hm⟩ := addS_ok (sortB (setB n Q h K)) hs hd
  intro x hx
  rw [hm] at hx ⊢
  rcases hx with hx | hx
  · exact .inl (hg x hx)
  · right
    rw [sortB_mem] at hx ⊢
    unfold setB powL at hx ⊢
    rw [List.map_map] at hx ⊢
    obtain ⟨j, hj, rfl⟩ := List.mem_map.1 hx
    have hj := List.mem_range.1 hj
    have e : timesB ((timesB h ∘ powB n Q) j) Q = timesB h (powB n Q (j + 1)) := by
      show timesB (timesB h (powB n Q j)) Q = _
      rw [times_assoc h (pow_in hn hQ.1 j) hQ.1]; rfl
    rw [e]
    rcases Nat.lt_or_ge (j + 1) K with h1 | h1
    · exact List.mem_map.2 ⟨j + 1, List.mem_range.2 h1, rfl⟩
    · have : j + 1 = K := by omega
      refine List.mem_map.2 ⟨0, List.mem_range.2 (by have := hK.1; omega), ?_⟩
      show timesB h (roundsB n) = _
      rw [this, hK.2.1]
end Go.Proofs.YthgadnhkbmimiaaGreat

/- Contracts: the inverse of a row, both sides. -/
namespace Go.Proofs.YthgadnhkbmimiaaGreat
open Go Go.RowKit
set_option linter.unusedVariables false
set_option linter.unusedSimpArgs false

theorem made_rep (z : Value) (n : Nat) : (madeCells #[z] n).toList = List.replicate n z := by
  apply List.ext_getElem?
  intro i
  simp only [madeCells, Array.toList_map, Array.toList_range, List.getElem?_map]
  by_cases hi : i < n
  · rw [List.getElem?_eq_getElem (by simpa using hi), List.getElem?_eq_getElem (by simpa using hi)]
    simp [Nat.mod_one]
  · rw [List.getElem?_eq_none (by simpa using hi), List.getElem?_eq_none (by simpa using hi)]
    rfl
/-- a and b are inverse to each other. -/
structure Inv2 (n : Nat) (a b : ByteArray) : Prop where
  hn : n ≤ 8
  ha : RowIn n a
  hb : RowIn n b
  ab : timesB a b = roundsB n
  ba : timesB b a = roundsB n
theorem inv2_of {n : Nat} (hn : n ≤ 8) {a : ByteArray} (h : Inv n a) : ∃ b, Inv2 n a b := by
  obtain ⟨ha, b, hb, h1, h2⟩ := h; exact ⟨b, hn, ha, hb, h1, h2⟩
theorem Inv2.at_ {n : Nat} {a b : ByteArray} (h : Inv2 n a b) {i : Nat} (hi : i < n) : ∃ m, m < n ∧ (a[i]'(by rw [h.ha.1]; exact hi)).toNat = m + 49 ∧ b.data.toList[m]? = some (UInt8.ofNat (49 + i)) := by
  have hia : i < a.size := by rw [h.ha.1]; exact hi
  have hat := h.ha.at_ hia
  refine ⟨a[i].toNat - 49, by omega, by omega, ?_⟩
  rcases inv_at h.hn h.ha h.ba hia with e | e
  · exact e
  · rw [h.hb.1] at e; omega
/-- When all places are written, the inverse stands there. -/
theorem Inv2.whole {n : Nat} {a b : ByteArray} (h : Inv2 n a b) {l : List UInt8} (hl : l.length = n) (hw : ∀ i, i < n → ∀ m, a.data.toList[i]?.map (fun c => c.toNat) = some (m + 49) → l[m]? = some (UInt8.ofNat (49 + i))) : ofL l = b := by
  apply bytes_ext
  rw [ofL_list]
  apply List.ext_getElem?
  intro j
  by_cases hj : j < n
  · obtain ⟨i, hi, e⟩ := inv_cover h.hn h.ha h.hb h.ab hj
    have hin : i < n := by rw [← h.ha.1]; exact hi
    obtain ⟨m, hm, e1, e2⟩ := h.at_ hin
    have hmj : m = j := by omega
    subst hmj
    rw [e2]
    refine hw i hin m ?_
    rw [List.getElem?_eq_getElem (by rw [bytes_len]; exact hi), bytes_get a i hi]
    simp only [Option.map_some, e1]
  · rw [List.getElem?_eq_none (by omega), List.getElem?_eq_none (by rw [bytes_len, h.hb.1]; omega)]
/-- Some places are written. -/
def Wr (a : ByteArray) (k : Nat) (l : List UInt8) : Prop := ∀ i, i < k → ∀ m, a.data.toList[i]?.map (fun c => c.toNat) = some (m + 49) → l[m]? = some (UInt8.ofNat (49 + i))
theorem Wr.step {n : Nat} {a b : ByteArray} (h : Inv2 n a b) {k : Nat} {l : List UInt8} (hl : l.length = n) (hk : k < n) (hw : Wr a k l) {m : Nat} (hm : m < n) (e : (a[k]'(by rw [h.ha.1]; exact hk)).toNat = m + 49) : Wr a (k + 1) (l.set m (UInt8.ofNat (49 + k))) := by
  intro i hi m' e'
  have hka : k < a.size := by rw [h.ha.1]; exact hk
  by_cases hik : i = k
  · subst hik
    rw [List.getElem?_eq_getElem (by rw [bytes_len]; exact hka), bytes_get a i hka] at e'
    simp only [Option.map_some, Option.some.injEq] at e'
    obtain rfl : m' = m := by omega
    rw [List.getElem?_set_self (by omega)]
  · have hne : m' ≠ m := by
      intro e2
      subst e2
      have hia : i < a.size := by omega
      rw [List.getElem?_eq_getElem (by rw [bytes_len]; exact hia), bytes_get a i hia] at e'
      simp only [Option.map_some, Option.some.injEq] at e'
      obtain ⟨m1, _, f1, g1⟩ := h.at_ hk
      obtain ⟨m2, _, f2, g2⟩ := h.at_ (show i < n by omega)
      have hm12 : m1 = m2 := by omega
      subst hm12
      rw [g1] at g2
      have h9 := h.hn
      have h8 := congrArg UInt8.toNat (Option.some.inj g2)
      rw [u8_49 (by omega), u8_49 (by omega)] at h8
      omega
    rw [List.getElem?_set_ne (fun e => hne e.symm)]
    exact hw i (by omega) m' e'
theorem u8v_49 {k : Nat} (hk : k < 8) : u8v (UInt8.ofNat (49 + k)) = .int .u8 ((49 : Int) + k) := by
  unfold u8v; rw [u8_49 hk]; simp
set_option maxRecDepth 10000 in
set_option maxHeartbeats 1000000 in
theorem turned_any (n : Nat) (a b : ByteArray) (w : World) (h : Inv2 n a b) : Calls Tryz.prog 117 #[.string a] w fun e w' => e = .returned (.string b) ∧ Below w.heap.size w w' := by
  obtain ⟨i0, hi0, hz0, hs0, hb0⟩ := info_parts info_u8
  have H := Lib.hid h
  have hsz := h.ha.1
  have hn := h.hn
  clear h
  go_enter Tryz.func117, Tryz.ntmps117
  go_wp2_with (at_make; refine wpList_make_full _ rfl _ _ _ rfl w.heap.size 5 i0 _ 1 Tryz.underlying100 hi0 hz0 hs0 _ _ _ _ n rfl rfl rfl rfl (by rw [hb0]; omega) (by unfold maxLen; omega) (Nat.le_refl _) ?_; intro w1 hown1 hgr1)
  have hB1 := bw_gr (Below.refl _ _) hgr1
  go_loopw [10] (fun i wr => ∃ k : Nat, k ≤ n ∧ i = .int .i64 k ∧ Below w.heap.size w wr ∧ ∃ l : List UInt8, l.length = n ∧ wr.ownsRow w.heap.size 5 1 (.slice (some ⟨w.heap.size, 0, none⟩) n n) n (l.map u8v) ∧ Wr a k l) (fun i _ => n - (intOf i).toNat)
  case atStart => exact ⟨0, by omega, rfl, hB1, List.replicate n 0, by simp, by rw [List.map_replicate, ← made_rep]; rw [Nat.mul_one] at hown1; exact hown1, fun i hi => absurd hi (by omega)⟩
  case round =>
    obtain ⟨k, hk, rfl, hB, l, hl, hown, hw⟩ := hrel
    have Hw := Lib.hid hw
    clear hw
    by_cases hlt : k < n
    · have hka : k < a.size := by rw [hsz]; exact hlt
      obtain ⟨m, hm, e1, e2⟩ := H.out.at_ hlt
      have Hst := Lib.hid (Wr.step H.out hl hlt Hw.out hm e1)
      obtain ⟨y0, hy0⟩ := own_some hown (j := m) (by omega)
      have hf := hown.frozenAt m
      have hak : (a[k].toNat : Int) = m + 49 := by omega
      have hw8 : IntKind.u8.wrap ((m : Int) + 49 - 49) = m := by rw [IntWalk.u8_in _ ⟨by omega, by omega⟩]; omega
      have hw9 : IntKind.u8.wrap ((49 : Int) + k) = 49 + k := IntWalk.u8_in _ ⟨by omega, by omega⟩
      have Hv := Lib.hid (u8v_49 (k := k) (by omega))
      clear e1 e2
      go_wp2_with fail
      have ho := own_set hown m (u8v (UInt8.ofNat (49 + k)))
      rw [← List.map_set, Hv.out] at ho
      exact ⟨⟨k + 1, by omega, by go_num, grow_set hB (Nat.le_refl _) _, _, by rw [List.length_set]; exact hl, ho, Hst.out⟩, by simp [intOf]; omega⟩
    · obtain rfl : k = n := by omega
      have hcv := conv_back Tryz.underlying100 Tryz.underlying5 Tryz.underlying9 hown rfl hl
      have HT := Lib.hid (H.out.whole hl Hw.out)
      go_wp2_with fail
      go_ret
      exact ⟨ret_str HT.out, hB⟩
set_option maxRecDepth 10000 in
set_option maxHeartbeats 1000000 in
theorem l1Turn_any (n : Nat) (a b : ByteArray) (w : World) (h : Inv2 n a b) : Calls Tryz.prog 114 #[.string a] w fun e w' => e = .returned (.string b) ∧ Below w.heap.size w w' := by
  have H := Lib.hid h
  have hsz := h.ha.1
  have hn := h.hn
  obtain ⟨w1, C, hcv, hrow, hb1⟩ := bytes_of a n hsz w
  have Hrow := Lib.hid hrow
  have hg0 := hrow.lt
  clear h hrow
  go_enter Tryz.func114, Tryz.ntmps114
  go_wp2_with fail
  go_loopw [4] (fun i wr => ∃ k : Nat, k ≤ n ∧ i = .int .i64 ((k : Int) + 1) ∧ Below w.heap.size w wr ∧ ∃ l : List UInt8, l.length = n ∧ BRow wr w.heap.size n l ∧ Wr a k l) (fun i _ => n + 1 - (intOf i).toNat)
  case atStart => exact ⟨0, by omega, rfl, hb1, _, by rw [bytes_len]; exact hsz, Hrow.out, fun i hi => absurd hi (by omega)⟩
  case round =>
    obtain ⟨k, hk, rfl, hB, l, hl, hrow, hw⟩ := hrel
    have Hw := Lib.hid hw
    clear hw
    by_cases hlt : k < n
    · have hka : k < a.size := by rw [hsz]; exact hlt
      obtain ⟨m, hm, e1, e2⟩ := H.out.at_ hlt
      have Hst := Lib.hid (Wr.step H.out hl hlt Hw.out hm e1)
      obtain ⟨y0, hy0⟩ : ∃ y, wr.cell? ⟨w.heap.size, m, none⟩ = some (u8v y) := ⟨_, hrow.cell (j := m) (by omega)⟩
      have hf := hrow.free (j := m) hm
      have hl1 := Lib.hid (l1At_any a k wr (by rw [hsz]; unfold maxLen; omega) hka (by omega))
      have hak : (a[k].toNat : Int) - 48 = m + 1 := by omega
      rw [hak] at hl1
      have hw9 : IntKind.u8.wrap ((48 : Int) + ((k : Int) + 1)) = 48 + ((k : Int) + 1) := IntWalk.u8_in _ ⟨by omega, by omega⟩
      have hm1 : (m : Int) + 1 - 1 = m := by omega
      have Hv : Hid (Value.int .u8 (48 + ((k : Int) + 1)) = u8v (UInt8.ofNat (49 + k))) := Lib.hid (by rw [u8v_49 (by omega)]; congr 1; omega)
      have hrow2 := Lib.hid (hrow.set (j := m) hm (UInt8.ofNat (49 + k)))
      rw [← Hv.out] at hrow2
      clear e1 e2 hrow
      go_wp2_with (go_at_call 71; refine (hl1.out).mono ?_; rintro e w' ⟨rfl, rfl⟩)
      exact ⟨⟨k + 1, by omega, by go_num, grow_set hB (Nat.le_refl _) _, _, by rw [List.length_set]; exact hl, hrow2.out, Hst.out⟩, by simp [intOf]; omega⟩
    · obtain rfl : k = n := by omega
      have hcv2 := hrow.conv (cap := C) Tryz.underlying100 Tryz.underlying5 Tryz.underlying9
      have HT := Lib.hid (H.out.whole hl Hw.out)
      clear hrow
      go_wp2_with fail
      go_ret
      exact ⟨ret_str HT.out, hB⟩
end Go.Proofs.YthgadnhkbmimiaaGreat

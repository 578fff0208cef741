/- Rising rows, a row put into them, sets: a plain account. -/
import Derived.Test.YthgadnhkbmimiaaPk21
import Derived.Shelf.Small.Bits
import Derived.Shelf.Strconv.Itoa0
import Derived.Shelf.Sort.Plain
import Derived.Ground.Names2Prog
import Derived.Shelf.Slices.ReverseS
import Derived.Shelf.Slices.Clone
import Derived.Shelf.Slices.Cells
import Derived.Shelf.Slices.In.SortNone
import Derived.Ground.SlgnProg
import Derived.Shelf.SlicesE.Clone
import Derived.Test.YthgadnhkbmimiaaProg
import Derived.Test.YthgadnhkbmimiaaPk14
import Derived.Sort.OwnSorted
import Derived.Sort.Walk0
namespace Go.Proofs.Ythgadnhkbmimiaa
open Go Go.RowKit
set_option linter.unusedVariables false
set_option linter.unusedSimpArgs false

/-- Rising rows are known by what they hold. -/
theorem sorted_ext : ∀ {l m : List ByteArray}, SortedS l → l.Nodup → SortedS m → m.Nodup → (∀ x, x ∈ l ↔ x ∈ m) → l = m
  | [], [], _, _, _, _, _ => rfl
  | [], b :: m, _, _, _, _, h => by have := (h b).2 (List.mem_cons_self ..); cases this
  | a :: l, [], _, _, _, _, h => by have := (h a).1 (List.mem_cons_self ..); cases this
  | a :: l, b :: m, h1, d1, h2, d2, h => by
    rw [SortedS, List.pairwise_cons] at h1 h2
    rw [List.nodup_cons] at d1 d2
    have e : a = b := by
      have ha := (h a).1 (List.mem_cons_self ..)
      have hb := (h b).2 (List.mem_cons_self ..)
      rcases List.mem_cons.1 ha with e | ha
      · exact e
      · rcases List.mem_cons.1 hb with e | hb
        · exact e.symm
        · exact sl_tot (h2.1 a ha) (h1.1 b hb)
    subst e
    congr 1
    refine sorted_ext h1.2 d1.2 h2.2 d2.2 (fun x => ⟨fun hx => ?_, fun hx => ?_⟩)
    · rcases List.mem_cons.1 ((h x).1 (List.mem_cons_of_mem _ hx)) with e | hx'
      · subst e; exact absurd hx d1.1
      · exact hx'
    · rcases List.mem_cons.1 ((h x).2 (List.mem_cons_of_mem _ hx)) with e | hx'
      · subst e; exact absurd hx d2.1
      · exact hx'
theorem sortB_mem (l : List ByteArray) (x : ByteArray) : x ∈ sortB l ↔ x ∈ l := (sortB_perm l).mem_iff
theorem sortB_nodup {l : List ByteArray} (h : l.Nodup) : (sortB l).Nodup := (sortB_perm l).nodup_iff.2 h
/-- A row put before place k of rising rows. -/
theorem put_ok {l : List ByteArray} {r : ByteArray} {k : Nat} (hs : SortedS l) (hk : k ≤ l.length) (h1 : ∀ x ∈ l.take k, nmLt r x = false) (h2 : ∀ x ∈ l.drop k, nmLt r x = true) : SortedS (l.take k ++ r :: l.drop k) := by
  rw [SortedS, List.pairwise_append]
  have hs' := hs
  rw [← List.take_append_drop k l, SortedS, List.pairwise_append] at hs'
  refine ⟨hs'.1, ?_, ?_⟩
  · rw [List.pairwise_cons]
    exact ⟨fun x hx => sl_asym (h2 x hx), hs'.2.1⟩
  · intro a ha b hb
    rcases List.mem_cons.1 hb with e | hb
    · subst e; exact h1 a ha
    · exact hs'.2.2 a ha b hb
theorem put_perm (l : List ByteArray) (r : ByteArray) (k : Nat) : (l.take k ++ r :: l.drop k).Perm (r :: l) := by
  refine List.perm_middle.trans ?_
  rw [List.take_append_drop]
/-- What putting makes of rising rows. -/
def putS (l : List ByteArray) (r : ByteArray) : List ByteArray := sortB (visitB l r)
theorem putS_in {l : List ByteArray} {r : ByteArray} (hs : SortedS l) (h : r ∈ l) : putS l r = l := by
  unfold putS visitB
  rw [if_pos h]
  exact (perm_sorted (sortB_perm l).symm hs (sortB_sorted l)).symm
theorem putS_new {l : List ByteArray} {r : ByteArray} {k : Nat} (hs : SortedS l) (hn : r ∉ l) (hk : k ≤ l.length) (h1 : ∀ x ∈ l.take k, nmLt r x = false) (h2 : ∀ x ∈ l.drop k, nmLt r x = true) : putS l r = l.take k ++ r :: l.drop k := by
  unfold putS visitB
  rw [if_neg hn]
  refine (perm_sorted ?_ (put_ok hs hk h1 h2) (sortB_sorted _)).symm
  exact ((put_perm l r k).trans (List.perm_append_singleton r l).symm).trans (sortB_perm _).symm
theorem putS_sorted (l : List ByteArray) (r : ByteArray) : SortedS (putS l r) := sortB_sorted _
theorem putS_nodup {l : List ByteArray} (h : l.Nodup) (r : ByteArray) : (putS l r).Nodup := sortB_nodup (visit_nodup h r)
theorem putS_mem (l : List ByteArray) (r x : ByteArray) : x ∈ putS l r ↔ x ∈ l ∨ x = r := by
  unfold putS
  rw [sortB_mem]
  unfold visitB
  split
  · constructor
    · exact .inl
    · rintro (h | rfl)
      · exact h
      · assumption
  · rw [List.mem_append, List.mem_singleton]
theorem putS_len {l : List ByteArray} {r : ByteArray} : (putS l r).length ≤ l.length + 1 := by
  unfold putS
  rw [sortB_len]
  unfold visitB
  split <;> simp
/-- Where a search ends. -/
theorem search_mem {l : List ByteArray} {r : ByteArray} {i : Nat} (hs : SortedS l) (hi : i ≤ l.length) (h1 : ∀ k (h : k < l.length), k < i → nmLt l[k] r = true) (h2 : ∀ k (h : k < l.length), i ≤ k → nmLt l[k] r = false) :
    r ∈ l ↔ ∃ h : i < l.length, l[i] = r := by
  constructor
  · intro hm
    obtain ⟨k, hk, e⟩ := List.getElem_of_mem hm
    have hik : i ≤ k := by
      rcases Nat.lt_or_ge k i with hl | hl
      · have := h1 k hk hl; rw [e, sl_irr] at this; cases this
      · exact hl
    have hil : i < l.length := by omega
    refine ⟨hil, ?_⟩
    rcases Nat.eq_or_lt_of_le hik with e2 | hlt
    · subst e2; exact e
    · have h3 := (List.pairwise_iff_getElem.1 hs) i k hil hk hlt
      rw [e] at h3
      exact sl_tot (h2 i hil (Nat.le_refl _)) h3
  · rintro ⟨h, e⟩
    rw [← e]; exact List.getElem_mem h
/-- The set of a row. -/
def setB (n : Nat) (Q h : ByteArray) (K : Nat) : List ByteArray := (powL n Q K).map (timesB h)
theorem setB_len (n : Nat) (Q h : ByteArray) (K : Nat) : (setB n Q h K).length = K := by unfold setB; rw [List.length_map, powL_len]
theorem setB_succ (n : Nat) (Q h : ByteArray) (K : Nat) : setB n Q h (K + 1) = setB n Q h K ++ [timesB h (powB n Q K)] := by unfold setB; rw [powL_succ, List.map_append]; rfl
theorem pow_diff {n : Nat} (hn : n ≤ 8) {Q : ByteArray} (hQ : Inv n Q) {K : Nat} (hK : IsOrd n Q K) {i j : Nat} (hij : i < j) (hj : j < K) : powB n Q i ≠ powB n Q j := by
  intro e
  have e2 : powB n Q (j - i) = roundsB n := by
    rw [show j = (j - i) + i by omega, pow_add hn hQ.1 (j - i) i] at e
    apply (pow_inv hn hQ i).cancel hn (pow_in hn hQ.1 _) (rounds_in hn)
    rw [← e, rounds_times hn (pow_in hn hQ.1 i)]
  exact hK.2.2 (j - i) (by omega) (by omega) e2
theorem set_new {n : Nat} (hn : n ≤ 8) {Q h : ByteArray} (hQ : Inv n Q) (hh : Inv n h) {K : Nat} (hK : IsOrd n Q K) {j : Nat} (hj : j < K) : timesB h (powB n Q j) ∉ setB n Q h j := by
  intro hm
  unfold setB powL at hm
  rw [List.map_map] at hm
  obtain ⟨i, hi, e⟩ := List.mem_map.1 hm
  have hi := List.mem_range.1 hi
  exact pow_diff hn hQ hK hi hj (hh.cancel_left hn (pow_in hn hQ.1 i) (pow_in hn hQ.1 j) e)
theorem set_nodup {n : Nat} (hn : n ≤ 8) {Q h : ByteArray} (hQ : Inv n Q) (hh : Inv n h) {K : Nat} (hK : IsOrd n Q K) : ∀ j, j ≤ K → (setB n Q h j).Nodup
  | 0, _ => by simp [setB, powL]
  | j + 1, hj => by
    rw [setB_succ, List.nodup_append]
    refine ⟨set_nodup hn hQ hh hK j (by omega), by simp, fun a ha b hb e => ?_⟩
    rw [List.mem_singleton] at hb
    subst hb; subst e
    exact set_new hn hQ hh hK (by omega) ha
/-- A set grows by putting. -/
theorem set_put {n : Nat} (hn : n ≤ 8) {Q h : ByteArray} (hQ : Inv n Q) (hh : Inv n h) {K : Nat} (hK : IsOrd n Q K) {j : Nat} (hj : j < K) : putS (sortB (setB n Q h j)) (timesB h (powB n Q j)) = sortB (setB n Q h (j + 1)) := by
  have hnew := set_new hn hQ hh hK hj
  refine sorted_ext (putS_sorted _ _) (putS_nodup (sortB_nodup (set_nodup hn hQ hh hK j (by omega))) _) (sortB_sorted _) (sortB_nodup (set_nodup hn hQ hh hK (j + 1) (by omega))) (fun x => ?_)
  rw [putS_mem, sortB_mem, sortB_mem, setB_succ, List.mem_append, List.mem_singleton]
end Go.Proofs.Ythgadnhkbmimiaa

/- Contracts of the library laid at this program (the kit's shelf, its plain mode). -/
namespace Go.Proofs
open Go.Shelf
def Try.lays190_ren : Go.Shelf.Ren := ⟨fun | 190 => 132 | 125 => 154 | 258 => 153 | 128 => 168 | 129 => 169 | 302 => 160 | 303 => 161 | 304 => 162 | 305 => 163 | 306 => 164 | 307 => 165 | 308 => 134 | 309 => 166 | 310 => 167 | 333 => 172 | 329 => 173 | 330 => 174 | 334 => 175 | 335 => 176 | 336 => 155 | 344 => 179 | n => n, fun | 31 => 22 | 9 => 9 | 3 => 3 | 46 => 140 | 0 => 0 | 51 => 163 | 53 => 95 | 4 => 4 | 183 => 157 | 182 => 156 | 131 => 62 | 5 => 5 | 218 => 167 | 222 => 171 | 228 => 175 | 229 => 176 | n => n, fun | n => n⟩
theorem Try.lays190 : Go.Proofs.Lays.n190 Try.prog Try.lays190_ren := {
  mixed := by kernel_rfl
  f125 := Try.func154.trans (congrArg some (by kernel_rfl))
  f128 := Try.func168.trans (congrArg some (by kernel_rfl))
  f129 := Try.func169.trans (congrArg some (by kernel_rfl))
  f190 := Try.func132.trans (congrArg some (by kernel_rfl))
  f258 := Try.func153.trans (congrArg some (by kernel_rfl))
  f302 := Try.func160.trans (congrArg some (by kernel_rfl))
  f303 := Try.func161.trans (congrArg some (by kernel_rfl))
  f304 := Try.func162.trans (congrArg some (by kernel_rfl))
  f305 := Try.func163.trans (congrArg some (by kernel_rfl))
  f306 := Try.func164.trans (congrArg some (by kernel_rfl))
  f307 := Try.func165.trans (congrArg some (by kernel_rfl))
  f308 := Try.func134.trans (congrArg some (by kernel_rfl))
  f309 := Try.func166.trans (congrArg some (by kernel_rfl))
  f310 := Try.func167.trans (congrArg some (by kernel_rfl))
  f329 := Try.func173.trans (congrArg some (by kernel_rfl))
  f330 := Try.func174.trans (congrArg some (by kernel_rfl))
  f333 := Try.func172.trans (congrArg some (by kernel_rfl))
  f334 := Try.func175.trans (congrArg some (by kernel_rfl))
  f335 := Try.func176.trans (congrArg some (by kernel_rfl))
  f336 := Try.func155.trans (congrArg some (by kernel_rfl))
  f344 := Try.func179.trans (congrArg some (by kernel_rfl))
  t0 := Try.underlying0
  a0 := Try.isAgg0
  z0 := Try.sizeOf0
  v0 := Try.zeroValue0
  t3 := Try.underlying3
  a3 := Try.isAgg3
  z3 := Try.sizeOf3
  v3 := Try.zeroValue3
  t4 := Try.underlying4
  a4 := Try.isAgg4
  z4 := Try.sizeOf4
  v4 := Try.zeroValue4
  t5 := Try.underlying5
  a5 := Try.isAgg5
  z5 := Try.sizeOf5
  v5 := Try.zeroValue5
  t9 := Try.underlying9
  a9 := Try.isAgg9
  z9 := Try.sizeOf9
  v9 := Try.zeroValue9
  t31 := Try.underlying22
  a31 := Try.isAgg22
  z31 := Try.sizeOf22
  v31 := Try.zeroValue22
  t46 := Try.underlying140
  a46 := Try.isAgg140
  z46 := Try.sizeOf140
  v46 := Try.zeroValue140
  t51 := Try.underlying163
  a51 := Try.isAgg163
  z51 := Try.sizeOf163
  v51 := Try.zeroValue163
  t53 := Try.underlying95
  a53 := Try.isAgg95
  z53 := Try.sizeOf95
  v53 := Try.zeroValue95
  t131 := Try.underlying62
  a131 := Try.isAgg62
  z131 := Try.sizeOf62
  v131 := Try.zeroValue62
  t182 := Try.underlying156
  a182 := Try.isAgg156
  z182 := Try.sizeOf156
  v182 := Try.zeroValue156
  t183 := Try.underlying157
  a183 := Try.isAgg157
  z183 := Try.sizeOf157
  v183 := Try.zeroValue157
  t218 := Try.underlying167
  a218 := Try.isAgg167
  z218 := Try.sizeOf167
  v218 := Try.zeroValue167
  t222 := Try.underlying171
  a222 := Try.isAgg171
  z222 := Try.sizeOf171
  v222 := Try.zeroValue171
  t228 := Try.underlying175
  a228 := Try.isAgg175
  z228 := Try.sizeOf175
  v228 := Try.zeroValue175
  t229 := Try.underlying176
  a229 := Try.isAgg176
  z229 := Try.sizeOf176
  v229 := Try.zeroValue176 }
open Go.Sort Go.RowKit in
theorem Try.slices_Sort_string (blk off cap : Nat) (ss : List (List UInt8)) (w : World) (hH : Holds encStr w blk off ss.toArray) (hblk : blk < w.heap.size) (hsz : ss.length < 4611686018427387904) :
    Calls Try.prog 132 #[.slice (some ⟨blk, off, none⟩) ss.length cap] w fun e w' =>
      e = .returned (.tuple #[]) ∧ ∃ n os, w' = grow (putRow encStr (Sort.ahead w n) blk off (ss.mergeSort fun x y => decide (x ≤ y)).toArray) os := Any.slices_Sort_string Try.lays190 blk off cap ss w hH hblk hsz
end Go.Proofs

/- slices.Sort at a row of texts of the call's own. -/
namespace Go.Proofs.Ythgadnhkbmimiaa
open Go Go.RowKit Go.Sort
set_option linter.unusedVariables false
set_option linter.unusedSimpArgs false
theorem merge_sortB (l : List ByteArray) : (((l.map (·.data.toList)).mergeSort fun x y => decide (x ≤ y)).map ofL) = sortB l := by
  apply sorted_uniq
  · have h := (List.mergeSort_perm (l.map (·.data.toList)) (fun x y => decide (x ≤ y))).map ofL
    have e : (l.map (·.data.toList)).map ofL = l := by
      rw [List.map_map]
      conv => rhs; rw [← List.map_id l]
      apply List.map_congr_left
      intro x _
      exact ofL_eq x
    rw [e] at h
    exact h
  · rw [SortedS, List.pairwise_map]
    have hs := List.pairwise_mergeSort (le := fun x y : List UInt8 => decide (x ≤ y)) (fun a b c h1 h2 => by
      simp only [decide_eq_true_eq] at *
      exact List.le_trans h1 h2) (fun a b => by
      simp only [Bool.or_eq_true, decide_eq_true_eq]
      exact List.le_total a b) (l.map (·.data.toList))
    refine hs.imp (fun {a b} h => ?_)
    simp only [decide_eq_true_eq] at h
    unfold nmLt
    rw [bytesLess_eq, bytes_toList, bytes_toList, ofL_list, ofL_list]
    exact decide_eq_false (List.not_lt.2 h)
theorem sortS_any (g n c base : Nat) (l : List ByteArray) (w : World) (h : w.ownsRow base 9 1 (.slice (some ⟨g, 0, none⟩) n c) n (l.map Value.string)) (hl : n ≤ 100000000) : Calls Try.prog 132 #[.slice (some ⟨g, 0, none⟩) n c] w fun e w' =>
    e = .returned (.tuple #[]) ∧ w'.ownsRow base 9 1 (.slice (some ⟨g, 0, none⟩) n c) n ((sortB l).map Value.string) ∧ Below base w w' ∧ w.heap.size ≤ w'.heap.size := by
  have hlen : l.length = n := by have := h.1; simpa using this
  subst hlen
  obtain ⟨ss, hss⟩ : ∃ ss, ss = l.map (·.data.toList) := ⟨_, rfl⟩
  have hsl : ss.length = l.length := by rw [hss, List.length_map]
  have e1 : l.map Value.string = ss.map encStr := by
    rw [hss, List.map_map]
    apply List.map_congr_left
    intro x _
    rfl
  have e2 : ((ss.mergeSort fun x y => decide (x ≤ y)).map encStr) = (sortB l).map Value.string := by
    rw [← merge_sortB l, ← hss, List.map_map]
    rfl
  rw [e1] at h
  rcases h.2 with ⟨hnil, _⟩ | ⟨g', cap, cur, hv, hbase, hb, h1, h2, h3, h4⟩
  · cases hnil
  · injection hv with ha hn hc
    injection ha with ha
    injection ha with ha
    subst ha hc
    rw [← hsl] at h1 h4 hl ⊢
    have hs := Try.slices_Sort_string g 0 c ss w (holds_of_block hb (by simpa using h4)) (Array.getElem?_eq_some_iff.1 hb).1 (by omega)
    refine hs.mono ?_
    rintro e w' ⟨rfl, k, os, rfl⟩
    have hg := grownBy_sorted (w := w) (g := g) (n := k) (os := os) (ss.mergeSort fun x y => decide (x ≤ y)).toArray
    have ho := ownsRow_sorted (n := k) (os := os) (ts := ss.mergeSort fun x y => decide (x ≤ y)) (by simp) hbase hb h1 h2 h3
    rw [e2] at ho
    have hgl := (Array.getElem?_eq_some_iff.1 hb).1
    exact ⟨rfl, ho, (Below.refl _ _).grown hg (by omega) (fun k hk => by cases hk; exact hbase), hg.size⟩
end Go.Proofs.Ythgadnhkbmimiaa

/- Contracts of the library laid at this program (the kit's shelf, its plain mode). -/
import Derived.Shelf.Small.Bits
import Derived.Shelf.Strconv.Itoa0
import Derived.Shelf.Sort.Plain
import Derived.Shelf.Slices.CompactS
import Derived.Shelf.Slices.Cells
import Derived.Test.YtheppimoncokcaaGreatProg
import Derived.Test.YtheppimoncokcaaGreatPk10
import Derived.Sort.OwnSorted
import Derived.Sort.Walk0
import Derived.Lib.SlicesCompact
import Derived.Test.YtheppimoncokcaaGreatPk1
import Derived.Test.YtheppimoncokcaaGreatPk2
import Derived.Test.YtheppimoncokcaaGreatPk4
import Derived.Laws.IdiomStrings
namespace Go.Proofs
open Go.Shelf
def Tryz.lays190_ren : Go.Shelf.Ren := ⟨fun | 190 => 123 | 125 => 144 | 258 => 143 | 128 => 164 | 129 => 165 | 302 => 156 | 303 => 157 | 304 => 158 | 305 => 159 | 306 => 160 | 307 => 161 | 308 => 116 | 309 => 162 | 310 => 163 | 333 => 169 | 329 => 170 | 330 => 171 | 334 => 172 | 335 => 173 | 336 => 136 | 344 => 177 | n => n, fun | 31 => 24 | 9 => 9 | 3 => 3 | 46 => 116 | 0 => 0 | 51 => 151 | 53 => 65 | 4 => 4 | 183 => 145 | 182 => 144 | 131 => 40 | 5 => 5 | 218 => 154 | 222 => 158 | 228 => 162 | 229 => 163 | n => n, fun | n => n⟩
theorem Tryz.lays190 : Go.Proofs.Lays.n190 Tryz.prog Tryz.lays190_ren := {
  mixed := by kernel_rfl
  f125 := Tryz.func144.trans (congrArg some (by kernel_rfl))
  f128 := Tryz.func164.trans (congrArg some (by kernel_rfl))
  f129 := Tryz.func165.trans (congrArg some (by kernel_rfl))
  f190 := Tryz.func123.trans (congrArg some (by kernel_rfl))
  f258 := Tryz.func143.trans (congrArg some (by kernel_rfl))
  f302 := Tryz.func156.trans (congrArg some (by kernel_rfl))
  f303 := Tryz.func157.trans (congrArg some (by kernel_rfl))
  f304 := Tryz.func158.trans (congrArg some (by kernel_rfl))
  f305 := Tryz.func159.trans (congrArg some (by kernel_rfl))
  f306 := Tryz.func160.trans (congrArg some (by kernel_rfl))
  f307 := Tryz.func161.trans (congrArg some (by kernel_rfl))
  f308 := Tryz.func116.trans (congrArg some (by kernel_rfl))
  f309 := Tryz.func162.trans (congrArg some (by kernel_rfl))
  f310 := Tryz.func163.trans (congrArg some (by kernel_rfl))
  f329 := Tryz.func170.trans (congrArg some (by kernel_rfl))
  f330 := Tryz.func171.trans (congrArg some (by kernel_rfl))
  f333 := Tryz.func169.trans (congrArg some (by kernel_rfl))
  f334 := Tryz.func172.trans (congrArg some (by kernel_rfl))
  f335 := Tryz.func173.trans (congrArg some (by kernel_rfl))
  f336 := Tryz.func136.trans (congrArg some (by kernel_rfl))
  f344 := Tryz.func177.trans (congrArg some (by kernel_rfl))
  t0 := Tryz.underlying0
  a0 := Tryz.isAgg0
  z0 := Tryz.sizeOf0
  v0 := Tryz.zeroValue0
  t3 := Tryz.underlying3
  a3 := Tryz.isAgg3
  z3 := Tryz.sizeOf3
  v3 := Tryz.zeroValue3
  t4 := Tryz.underlying4
  a4 := Tryz.isAgg4
  z4 := Tryz.sizeOf4
  v4 := Tryz.zeroValue4
  t5 := Tryz.underlying5
  a5 := Tryz.isAgg5
  z5 := Tryz.sizeOf5
  v5 := Tryz.zeroValue5
  t9 := Tryz.underlying9
  a9 := Tryz.isAgg9
  z9 := Tryz.sizeOf9
  v9 := Tryz.zeroValue9
  t31 := Tryz.underlying24
  a31 := Tryz.isAgg24
  z31 := Tryz.sizeOf24
  v31 := Tryz.zeroValue24
  t46 := Tryz.underlying116
  a46 := Tryz.isAgg116
  z46 := Tryz.sizeOf116
  v46 := Tryz.zeroValue116
  t51 := Tryz.underlying151
  a51 := Tryz.isAgg151
  z51 := Tryz.sizeOf151
  v51 := Tryz.zeroValue151
  t53 := Tryz.underlying65
  a53 := Tryz.isAgg65
  z53 := Tryz.sizeOf65
  v53 := Tryz.zeroValue65
  t131 := Tryz.underlying40
  a131 := Tryz.isAgg40
  z131 := Tryz.sizeOf40
  v131 := Tryz.zeroValue40
  t182 := Tryz.underlying144
  a182 := Tryz.isAgg144
  z182 := Tryz.sizeOf144
  v182 := Tryz.zeroValue144
  t183 := Tryz.underlying145
  a183 := Tryz.isAgg145
  z183 := Tryz.sizeOf145
  v183 := Tryz.zeroValue145
  t218 := Tryz.underlying154
  a218 := Tryz.isAgg154
  z218 := Tryz.sizeOf154
  v218 := Tryz.zeroValue154
  t222 := Tryz.underlying158
  a222 := Tryz.isAgg158
  z222 := Tryz.sizeOf158
  v222 := Tryz.zeroValue158
  t228 := Tryz.underlying162
  a228 := Tryz.isAgg162
  z228 := Tryz.sizeOf162
  v228 := Tryz.zeroValue162
  t229 := Tryz.underlying163
  a229 := Tryz.isAgg163
  z229 := Tryz.sizeOf163
  v229 := Tryz.zeroValue163 }
open Go.Sort Go.RowKit in
theorem Tryz.slices_Sort_string (blk off cap : Nat) (ss : List (List UInt8)) (w : World) (hH : Holds encStr w blk off ss.toArray) (hblk : blk < w.heap.size) (hsz : ss.length < 4611686018427387904) :
    Calls Tryz.prog 123 #[.slice (some ⟨blk, off, none⟩) ss.length cap] w fun e w' =>
      e = .returned (.tuple #[]) ∧ ∃ n os, w' = grow (putRow encStr (Sort.ahead w n) blk off (ss.mergeSort fun x y => decide (x ≤ y)).toArray) os := Any.slices_Sort_string Tryz.lays190 blk off cap ss w hH hblk hsz
def Tryz.lays194_ren : Go.Shelf.Ren := ⟨fun | 194 => 106 | n => n, fun | 31 => 24 | 9 => 9 | 3 => 3 | 4 => 4 | 0 => 0 | n => n, fun | n => n⟩
theorem Tryz.lays194 : Go.Proofs.Lays.n194 Tryz.prog Tryz.lays194_ren := {
  mixed := by kernel_rfl
  f194 := Tryz.func106.trans (congrArg some (by kernel_rfl))
  t0 := Tryz.underlying0
  a0 := Tryz.isAgg0
  z0 := Tryz.sizeOf0
  v0 := Tryz.zeroValue0
  t3 := Tryz.underlying3
  a3 := Tryz.isAgg3
  z3 := Tryz.sizeOf3
  v3 := Tryz.zeroValue3
  t4 := Tryz.underlying4
  a4 := Tryz.isAgg4
  z4 := Tryz.sizeOf4
  v4 := Tryz.zeroValue4
  t9 := Tryz.underlying9
  a9 := Tryz.isAgg9
  z9 := Tryz.sizeOf9
  v9 := Tryz.zeroValue9
  t31 := Tryz.underlying24
  a31 := Tryz.isAgg24
  z31 := Tryz.sizeOf24
  v31 := Tryz.zeroValue24 }
open Go.RowKit Go.Lib Go.Sort in
theorem Tryz.slices_Compact_string (blk off cap : Nat) (zs : List (List UInt8)) (w : World) (hH : Holds encStr w blk off zs.toArray) (hsz : zs.length ≤ 9223372036854775807) (hcap : zs.length ≤ cap) :
    Calls Tryz.prog 106 #[.slice (some ⟨blk, off, none⟩) zs.length cap] w fun e w' => e = .returned (.slice (some ⟨blk, off, none⟩) (Lib.compact zs).length cap) ∧ ∃ q, w' = putRow encStr (Sort.ahead w q) blk off (Lib.compact zs ++ List.replicate (zs.length - (Lib.compact zs).length) []).toArray := Any.slices_Compact_string Tryz.lays194 blk off cap zs w hH hsz hcap
end Go.Proofs

/- slices.Sort at a row of texts of the call's own. -/
namespace Go.Proofs.YtheppimoncokcaaGreat
open Go Go.RowKit Go.Sort
set_option linter.unusedVariables false
set_option linter.unusedSimpArgs false
theorem merge_sortB (l : List ByteArray) : (((l.map (·.data.toList)).mergeSort fun x y => decide (x ≤ y)).map ofL) = sortB l := by
  apply sorted_uniq
  · have h := (List.mergeSort_perm (l.map (·.data.toList)) (fun x y => decide (x ≤ y))).map ofL
    have e : (l.map (·.data.toList)).map ofL = l := by
      rw [List.map_map]
      conv => rhs; rw [← List.map_id l]
      apply List.map_congr_left
      intro x _
      exact ofL_eq x
    rw [e] at h
    exact h
  · rw [SortedS, List.pairwise_map]
    have hs := List.pairwise_mergeSort (le := fun x y : List UInt8 => decide (x ≤ y)) (fun a b c h1 h2 => by
      simp only [decide_eq_true_eq] at *
      exact List.le_trans h1 h2) (fun a b => by
      simp only [Bool.or_eq_true, decide_eq_true_eq]
      exact List.le_total a b) (l.map (·.data.toList))
    refine hs.imp (fun {a b} h => ?_)
    simp only [decide_eq_true_eq] at h
    unfold nmLt
    rw [bytesLess_eq, bytes_toList, bytes_toList, ofL_list, ofL_list]
    exact decide_eq_false (List.not_lt.2 h)
theorem sortS_any (g n c base : Nat) (l : List ByteArray) (w : World) (h : w.ownsRow base 9 1 (.slice (some ⟨g, 0, none⟩) n c) n (l.map Value.string)) (hl : n ≤ 100000000) : Calls Tryz.prog 123 #[.slice (some ⟨g, 0, none⟩) n c] w fun e w' =>
    e = .returned (.tuple #[]) ∧ w'.ownsRow base 9 1 (.slice (some ⟨g, 0, none⟩) n c) n ((sortB l).map Value.string) ∧ Below base w w' ∧ w.heap.size ≤ w'.heap.size := by
  have hlen : l.length = n := by have := h.1; simpa using this
  subst hlen
  obtain ⟨ss, hss⟩ : ∃ ss, ss = l.map (·.data.toList) := ⟨_, rfl⟩
  have hsl : ss.length = l.length := by rw [hss, List.length_map]
  have e1 : l.map Value.string = ss.map encStr := by
    rw [hss, List.map_map]
    apply List.map_congr_left
    intro x _
    rfl
  have e2 : ((ss.mergeSort fun x y => decide (x ≤ y)).map encStr) = (sortB l).map Value.string := by
    rw [← merge_sortB l, ← hss, List.map_map]
    rfl
  rw [e1] at h
  rcases h.2 with ⟨hnil, _⟩ | ⟨g', cap, cur, hv, hbase, hb, h1, h2, h3, h4⟩
  · cases hnil
  · injection hv with ha hn hc
    injection ha with ha
    injection ha with ha
    subst ha hc
    rw [← hsl] at h1 h4 hl ⊢
    have hs := Tryz.slices_Sort_string g 0 c ss w (holds_of_block hb (by simpa using h4)) (Array.getElem?_eq_some_iff.1 hb).1 (by omega)
    refine hs.mono ?_
    rintro e w' ⟨rfl, k, os, rfl⟩
    have hg := grownBy_sorted (w := w) (g := g) (n := k) (os := os) (ss.mergeSort fun x y => decide (x ≤ y)).toArray
    have ho := ownsRow_sorted (n := k) (os := os) (ts := ss.mergeSort fun x y => decide (x ≤ y)) (by simp) hbase hb h1 h2 h3
    rw [e2] at ho
    have hgl := (Array.getElem?_eq_some_iff.1 hb).1
    exact ⟨rfl, ho, (Below.refl _ _).grown hg (by omega) (fun k hk => by cases hk; exact hbase), hg.size⟩
end Go.Proofs.YtheppimoncokcaaGreat

/- Rising rows without repetition: slices.Compact behind a sort, sets joined: a plain account. -/
namespace Go.Proofs.YtheppimoncokcaaGreat
open Go Go.RowKit Go.Sort
set_option linter.unusedVariables false
set_option linter.unusedSimpArgs false

theorem get_at {α : Type} [Inhabited α] {zs : List α} {i : Nat} (h : i < zs.length) : zs.toArray[i]! = zs[i] := by
  rw [getElem!_pos zs.toArray i (by simpa using h)]
  simp
theorem compact_to {α : Type} [Inhabited α] [DecidableEq α] {le : α → α → Prop} (anti : ∀ a b, le a b → le b a → a = b) {zs : List α} (h : zs.Pairwise le) : ∀ m, m ≤ zs.length → (∀ x, x ∈ Lib.compactUpTo zs.toArray m ↔ x ∈ zs.take m) ∧ (Lib.compactUpTo zs.toArray m).Nodup
  | 0, _ => by simp [Lib.compactUpTo]
  | m + 1, hm => by
    obtain ⟨h1, h2⟩ := compact_to anti h m (by omega)
    have hp := List.pairwise_iff_getElem.1 h
    have hml : m < zs.length := by omega
    have em := get_at hml
    rw [Lib.compactUpTo_succ, em]
    have et : zs.take (m + 1) = zs.take m ++ [zs[m]] := List.take_succ_eq_append_getElem hml
    cases hk : Lib.keeps zs.toArray m
    · have hin : zs[m] ∈ zs.take m := by
        unfold Lib.keeps at hk
        have hk := of_decide_eq_false hk
        have hm0 : m ≠ 0 := fun e => hk (.inl e)
        have e1 : zs.toArray[m]! = zs.toArray[m - 1]! := Classical.byContradiction fun e => hk (.inr e)
        rw [em, get_at (show m - 1 < zs.length by omega)] at e1
        rw [e1, List.mem_take_iff_getElem]
        exact ⟨m - 1, by omega, rfl⟩
      rw [if_neg (by simp), List.append_nil]
      refine ⟨fun x => ?_, h2⟩
      rw [h1, et, List.mem_append, List.mem_singleton]
      exact ⟨.inl, fun hx => hx.elim id (fun e => by rw [e]; exact hin)⟩
    · rw [if_pos rfl]
      refine ⟨fun x => ?_, ?_⟩
      · rw [List.mem_append, h1, et, List.mem_append]
      · rw [List.nodup_append]
        refine ⟨h2, by simp, fun a ha b hb e => ?_⟩
        rw [List.mem_singleton] at hb
        subst hb; subst e
        rw [h1, List.mem_take_iff_getElem] at ha
        obtain ⟨j, hj, e⟩ := ha
        have hjm : j < m := by omega
        have hk := of_decide_eq_true hk
        have e1 : zs.toArray[m]! ≠ zs.toArray[m - 1]! := hk.resolve_left (by omega)
        rw [em, get_at (show m - 1 < zs.length by omega)] at e1
        rcases Nat.eq_or_lt_of_le (show j ≤ m - 1 by omega) with e2 | hlt
        · subst e2; exact e1 e.symm
        · have a1 := hp j (m - 1) (by omega) (by omega) hlt
          have a2 := hp (m - 1) m (by omega) hml (by omega)
          rw [e] at a1
          exact e1 (anti _ _ a1 a2)
theorem compact_sub {α : Type} [Inhabited α] [DecidableEq α] (zs : List α) : (Lib.compact zs).Sublist zs := by
  have h := (List.filter_sublist (p := Lib.keeps zs.toArray) (l := List.range zs.length)).map (fun j => zs.toArray[j]!)
  have e : (List.range zs.length).map (fun j => zs.toArray[j]!) = zs := by
    have := Lib.range_map_get zs.toArray
    simpa using this
  rw [e] at h
  exact h
/-- What slices.Compact makes of rows. -/
def compB (l : List ByteArray) : List ByteArray := (Lib.compact (l.map (·.data.toList))).map ofL
theorem ofL_data (x : ByteArray) : ofL x.data.toList = x := by unfold ofL; simp
theorem map_ofL (l : List ByteArray) : (l.map (·.data.toList)).map ofL = l := by
  rw [List.map_map]
  conv => rhs; rw [← List.map_id l]
  apply List.map_congr_left
  intro x _
  exact ofL_data x
theorem compB_sub (l : List ByteArray) : (compB l).Sublist l := by
  have h := (compact_sub (l.map (·.data.toList))).map ofL
  rw [map_ofL] at h
  exact h
theorem compB_ok {l : List ByteArray} (hs : SortedS l) : (∀ x, x ∈ compB l ↔ x ∈ l) ∧ (compB l).Nodup ∧ SortedS (compB l) := by
  have hp : (l.map (·.data.toList)).Pairwise (fun a b => nmLt (ofL b) (ofL a) = false) := by
    rw [List.pairwise_map]
    refine hs.imp ?_
    intro a b h
    rw [ofL_data, ofL_data]; exact h
  have inj : ∀ a b : List UInt8, ofL a = ofL b → a = b := fun a b h => by
    have := congrArg (fun x : ByteArray => x.data.toList) h
    simpa [ofL] using this
  obtain ⟨h1, h2⟩ := compact_to (fun a b h h' => inj a b (sl_tot h' h)) hp (l.map (·.data.toList)).length (Nat.le_refl _)
  rw [List.take_length] at h1
  refine ⟨fun x => ?_, ?_, hs.sublist (compB_sub l)⟩
  · unfold compB Lib.compact
    rw [List.mem_map]
    constructor
    · rintro ⟨a, ha, rfl⟩
      rw [h1] at ha
      obtain ⟨y, hy, rfl⟩ := List.mem_map.1 ha
      rw [ofL_data]; exact hy
    · intro hx
      exact ⟨x.data.toList, (h1 _).2 (List.mem_map.2 ⟨x, hx, rfl⟩), ofL_data x⟩
  · unfold compB Lib.compact
    rw [List.Nodup, List.pairwise_map]
    exact h2.imp (fun h e => h (inj _ _ e))
/-- Bobs with a set put into them. -/
def addS (bobs S : List ByteArray) : List ByteArray := S.foldl putS bobs
theorem addS_ok : ∀ (S : List ByteArray) {bobs : List ByteArray}, SortedS bobs → bobs.Nodup → SortedS (addS bobs S) ∧ (addS bobs S).Nodup ∧ ∀ x, x ∈ addS bobs S ↔ x ∈ bobs ∨ x ∈ S
  | [], bobs, h1, h2 => ⟨h1, h2, fun x => by simp [addS]⟩
  | y :: S, bobs, h1, h2 => by
    obtain ⟨a, b, c⟩ := addS_ok S (putS_sorted bobs y) (putS_nodup h2 y)
    refine ⟨a, b, fun x => ?_⟩
    show x ∈ addS (putS bobs y) S ↔ _
    rw [c, putS_mem, List.mem_cons, or_assoc]
theorem addS_comp {bobs S : List ByteArray} (h1 : SortedS bobs) (h2 : bobs.Nodup) : compB (sortB (bobs ++ S)) = addS bobs S := by
  obtain ⟨a, b, c⟩ := compB_ok (sortB_sorted (bobs ++ S))
  obtain ⟨a', b', c'⟩ := addS_ok S h1 h2
  refine sorted_ext c b a' b' (fun x => ?_)
  rw [a, sortB_mem, List.mem_append, c']
end Go.Proofs.YtheppimoncokcaaGreat

/- Bobs: rising rows of a group that hold the set of each of theirs: a plain account. -/
namespace Go.Proofs.YtheppimoncokcaaGreat
open Go Go.RowKit
set_option linter.unusedVariables false
set_option linter.unusedSimpArgs false

/-- Rows that rise strictly, as a loop looks at them. -/
def Rise (l : List ByteArray) (k : Nat) : Prop := ∀ i (h : i < l.length), i < k → 0 < i → nmLt (l[i - 1]'(by omega)) l[i] = true
theorem Rise.zero (l : List ByteArray) : Rise l 0 := fun i h h1 => absurd h1 (by omega)
theorem Rise.one (l : List ByteArray) : Rise l 1 := fun i h h1 h2 => absurd h1 (by omega)
theorem Rise.step {l : List ByteArray} {k : Nat} (h : Rise l k) (hk : k < l.length) (e : 0 < k → nmLt (l[k - 1]'(by omega)) l[k] = true) : Rise l (k + 1) := fun i hi h1 h2 => by
  rcases Nat.lt_or_ge i k with h3 | h3
  · exact h i hi h3 h2
  · obtain rfl : i = k := by omega
    exact e h2
theorem Rise.lt {l : List ByteArray} (h : Rise l l.length) : ∀ d i (hi : i + d + 1 < l.length), nmLt (l[i]'(by omega)) l[i + d + 1] = true
  | 0, i, hi => h (i + 1) hi hi (by omega)
  | d + 1, i, hi => sl_trans (h.lt d i (by omega)) (h (i + d + 1 + 1) hi hi (by omega))
theorem Rise.pair {l : List ByteArray} (h : Rise l l.length) : l.Pairwise (fun a b => nmLt a b = true) := by
  rw [List.pairwise_iff_getElem]
  intro i j hi hj hij
  have := h.lt (j - i - 1) i (by omega)
  have e : i + (j - i - 1) + 1 = j := by omega
  simp only [e] at this
  exact this
theorem Rise.sorted {l : List ByteArray} (h : Rise l l.length) : SortedS l := h.pair.imp (fun h => sl_asym h)
theorem Rise.nodup {l : List ByteArray} (h : Rise l l.length) : l.Nodup := h.pair.imp (fun h e => by rw [e, sl_irr] at h; cases h)
theorem rise_of {l : List ByteArray} (h1 : SortedS l) (h2 : l.Nodup) : Rise l l.length := fun i hi _ h0 => by
  have a := (List.pairwise_iff_getElem.1 h1) (i - 1) i (by omega) hi (by omega)
  have b := (List.pairwise_iff_getElem.1 h2) (i - 1) i (by omega) hi (by omega)
  cases hx : nmLt (l[i - 1]'(by omega)) l[i]
  · exact absurd (sl_tot hx a) b
  · rfl
/-- Rising rows of G. -/
def InG (G bobs : List ByteArray) : Prop := (∀ h ∈ bobs, h ∈ G) ∧ Rise bobs bobs.length
theorem InG.len {G bobs : List ByteArray} (h : InG G bobs) : bobs.length ≤ G.length := nodup_le bobs G h.2.nodup h.1
theorem InG.nil (G : List ByteArray) : InG G [] := ⟨fun h hh => (by cases hh), fun i h => absurd h (Nat.not_lt_zero _)⟩
theorem good_sets {n : Nat} (hn : n ≤ 8) {bobs : List ByteArray} {Q : ByteArray} {K : Nat} (hQ : Inv n Q) (hK : IsOrd n Q K) (hr : ∀ h ∈ bobs, RowIn n h) : goodQ bobs Q ↔ ∀ h ∈ bobs, ∀ g ∈ sortB (setB n Q h K), g ∈ bobs := by
  constructor
  · intro hg h hh g hgm
    rw [sortB_mem] at hgm
    unfold setB powL at hgm
    rw [List.map_map] at hgm
    obtain ⟨j, _, rfl⟩ := List.mem_map.1 hgm
    exact good_pow hn hQ.1 hg (hr h hh) hh j
  · intro hs h hh
    apply hs h hh
    rw [sortB_mem]
    unfold setB powL
    rw [List.map_map]
    rcases Nat.lt_or_ge 1 K with h1 | h1
    · exact List.mem_map.2 ⟨1, List.mem_range.2 h1, by show timesB h (powB n Q 1) = _; rw [pow_one hn hQ.1]⟩
    · have hK1 : K = 1 := by have := hK.1; omega
      subst hK1
      refine List.mem_map.2 ⟨0, List.mem_range.2 (by omega), ?_⟩
      show timesB h (roundsB n) = _
      have e := hK.2.1
      rw [pow_one hn hQ.1] at e
      rw [e]
theorem setB_in {n : Nat} (hn : n ≤ 8) {Q h : ByteArray} {K : Nat} (hQ : RowIn n Q) (hh : RowIn n h) : ∀ x ∈ setB n Q h K, RowIn n x := by
  intro x hx
  unfold setB powL at hx
  rw [List.map_map] at hx
  obtain ⟨j, _, rfl⟩ := List.mem_map.1 hx
  exact times_in hh (pow_in hn hQ j)
theorem powB_succ' {n : Nat} (hn : n ≤ 8) {Q : ByteArray} (hQ : RowIn n Q) (j : Nat) : timesB Q (powB n Q j) = powB n Q (j + 1) := by
  have h5 := pow_add hn hQ 1 j
  rw [pow_one hn hQ, Nat.add_comm] at h5
  exact h5.symm
/-- Bobs and a set: still closed under Q. -/
theorem addS_good {n : Nat} (hn : n ≤ 8) {bobs : List ByteArray} {Q h : ByteArray} {K : Nat} (hQ : Inv n Q) (hK : IsOrd n Q K) (hh : RowIn n h) (hs : SortedS bobs) (hd : bobs.Nodup) (hg : goodQ bobs Q) : goodQ (addS bobs (sortB (setB n Q h K))) Q := by
  obtain ⟨_, _, hm⟩ := addS_ok (sortB (setB n Q h K)) hs hd
  intro x hx
  rw [hm] at hx ⊢
  rcases hx with hx | hx
  · exact .inl (hg x hx)
  · right
    rw [sortB_mem] at hx ⊢
    unfold setB powL at hx ⊢
    rw [List.map_map] at hx ⊢
    obtain ⟨j, hj, rfl⟩ := List.mem_map.1 hx
    have hj := List.mem_range.1 hj
    have e : timesB ((timesB h ∘ powB n Q) j) Q = timesB h (powB n Q (j + 1)) := by
      show timesB (timesB h (powB n Q j)) Q = _
      rw [times_assoc h (pow_in hn hQ.1 j) hQ.1]; rfl
    rw [e]
    rcases Nat.lt_or_ge (j + 1) K with h1 | h1
    · exact List.mem_map.2 ⟨j + 1, List.mem_range.2 h1, rfl⟩
    · have : j + 1 = K := by omega
      refine List.mem_map.2 ⟨0, List.mem_range.2 (by have := hK.1; omega), ?_⟩
      show timesB h (roundsB n) = _
      rw [this, hK.2.1]
end Go.Proofs.YtheppimoncokcaaGreat

/- Contracts: notes, calls, touches. -/
namespace Go.Proofs.YtheppimoncokcaaGreat
open Go Go.RowKit
set_option linter.unusedVariables false
set_option linter.unusedSimpArgs false

def noteC (c : UInt8) : Bool := decide (97 ≤ (c.toNat : Int) ∧ (c.toNat : Int) ≤ 122) || decide (48 ≤ (c.toNat : Int) ∧ (c.toNat : Int) ≤ 57) || decide ((c.toNat : Int) = 46) || decide ((c.toNat : Int) = 45)
def noteB (l : List UInt8) : Bool := l.all noteC && decide (l.length ≤ 20)
theorem noteC_t {c : UInt8} (h : noteC c = true) : (97 ≤ (c.toNat : Int) ∧ (c.toNat : Int) ≤ 122) ∨ (48 ≤ (c.toNat : Int) ∧ (c.toNat : Int) ≤ 57) ∨ (c.toNat : Int) = 46 ∨ (c.toNat : Int) = 45 := by
  unfold noteC at h; simpa only [Bool.or_eq_true, decide_eq_true_eq, or_assoc] using h
theorem noteC_f {c : UInt8} (h : noteC c = false) : ¬ ((97 ≤ (c.toNat : Int) ∧ (c.toNat : Int) ≤ 122) ∨ (48 ≤ (c.toNat : Int) ∧ (c.toNat : Int) ≤ 57) ∨ (c.toNat : Int) = 46 ∨ (c.toNat : Int) = 45) := by
  intro k
  have : noteC c = true := by unfold noteC; simpa only [Bool.or_eq_true, decide_eq_true_eq, or_assoc] using k
  rw [h] at this; cases this
theorem note_no {l : List UInt8} {k : Nat} (hk : k < l.length) (h : noteC l[k] = false) : noteB l = false := by unfold noteB; rw [all_false hk h]; rfl
theorem note_end {s : ByteArray} {k : Nat} (hk : k ≤ s.size) (hn : ¬ k < s.size) (h : (s.data.toList.take k).all noteC = true) : decide ((s.size : Int) ≤ 20) = noteB s.data.toList := by
  unfold noteB
  rw [all_true (by simp; omega) h, bytes_len]
  simp only [Bool.true_and]
  congr 1
  apply propext
  omega
def callC (c : UInt8) : Bool := decide ((c.toNat : Int) = 112) || decide ((c.toNat : Int) = 98) || decide ((c.toNat : Int) = 115)
def callS (s : ByteArray) : Bool := (s.toList == [112]) || (s.toList == [98]) || (s.toList == [115])
def touchB (l : List UInt8) : Bool := l.all callC && decide (1 ≤ l.length ∧ l.length ≤ 60)
theorem ext_list (s : ByteArray) (i j : Nat) : (s.extract i j).data.toList = (s.data.toList.drop i).take (j - i) := by
  simp [ByteArray.data_extract, Array.toList_extract, List.extract_eq_take_drop, List.drop_take]
theorem ext_one {s : ByteArray} {k : Nat} (h : k < s.size) : (s.extract k (k + 1)).toList = [s[k]] := by
  rw [ByteArray.toList_eq, ext_list, Nat.add_sub_cancel_left, List.drop_eq_getElem_cons (by simpa using h)]
  rfl
theorem nat_u8 (c d : UInt8) : ([c] == [d]) = decide ((c.toNat : Int) = (d.toNat : Int)) := by
  rw [Bool.eq_iff_iff, decide_eq_true_eq, beq_iff_eq]
  constructor
  · intro h
    rw [(List.cons.inj h).1]
  · intro h
    have e : c = d := UInt8.toNat_inj.1 (by omega)
    rw [e]
theorem callS_def (s : ByteArray) : callS s = ((s.toList == [112]) || (s.toList == [98]) || (s.toList == [115])) := rfl
theorem callS_one {s : ByteArray} {k : Nat} (h : k < s.size) : callS (s.extract k (k + 1)) = callC s[k] := by
  unfold callS callC
  rw [ext_one h, nat_u8, nat_u8, nat_u8]
  rfl
theorem isCall_any (s : ByteArray) (w : World) : Calls Tryz.prog 150 #[.string s] w fun e w' => e = .returned (.bool (callS s)) ∧ w = w' := by
  cases e1 : (s.toList == [112]) <;> cases e2 : (s.toList == [98]) <;> cases e3 : (s.toList == [115])
  all_goals
    have h := callS_def s
    rw [e1, e2, e3] at h
    have H := Lib.hid h
    clear h
    go_enter Tryz.func150, Tryz.ntmps150
    go_wp2
    go_ret
    exact ⟨ret_bool (by rw [H.out]; rfl), rfl⟩
theorem l8Call_any (s : ByteArray) (w : World) : Calls Tryz.prog 146 #[.string s] w fun e w' => e = .returned (.bool (callS s)) ∧ w = w' := by
  cases e1 : (s.toList == [112]) <;> cases e2 : (s.toList == [98]) <;> cases e3 : (s.toList == [115])
  all_goals
    have h := callS_def s
    rw [e1, e2, e3] at h
    have H := Lib.hid h
    clear h
    go_enter Tryz.func146, Tryz.ntmps146
    go_wp2
    go_ret
    exact ⟨ret_bool (by rw [H.out]; rfl), rfl⟩
theorem areCalls_any (s : ByteArray) (w : World) (hs : s.size ≤ maxLen) : Calls Tryz.prog 130 #[.string s] w fun e w' => e = .returned (.bool (s.data.toList.all callC)) ∧ w = w' := by
  unfold maxLen at hs
  obtain ⟨q, hq⟩ : ∃ q, q = s.data.toList.all callC := ⟨_, rfl⟩
  rw [← hq]
  have Hq := Lib.hid hq
  clear hq
  go_enter Tryz.func130, Tryz.ntmps130
  go_wp2
  go_loop [6] (fun i => ∃ k : Nat, k ≤ s.size ∧ i = .int .i64 k ∧ (s.data.toList.take k).all callC = true) (fun i => s.size - (intOf i).toNat)
  case atStart => exact ⟨0, Nat.zero_le _, rfl, by simp⟩
  case round =>
    obtain ⟨k, hk, rfl, ha⟩ := hrel
    have Ha := Lib.hid ha
    clear ha
    by_cases hlt : k < s.size
    · have H1 := Lib.hid (callS_one hlt)
      cases hb : callC s[k]
      all_goals have Hb := Lib.hid hb; clear hb
      · go_wp2_with (go_at_call 150; refine (isCall_any _ _).mono ?_; rintro e w1 ⟨rfl, rfl⟩; rw [H1.out, Hb.out])
        go_ret
        exact ⟨ret_bool (by rw [Hq.out, all_false (k := k) (by simpa using hlt) Hb.out]), rfl⟩
      · go_wp2_with (go_at_call 150; refine (isCall_any _ _).mono ?_; rintro e w1 ⟨rfl, rfl⟩; rw [H1.out, Hb.out])
        exact ⟨⟨k + 1, by omega, by go_num, all_step (by simpa using hlt) Ha.out Hb.out⟩, by simp [intOf]; omega⟩
    · go_wp2
      go_ret
      exact ⟨ret_bool (by rw [Hq.out, all_true (by simp; omega) Ha.out]), rfl⟩
theorem touch_of {s : ByteArray} {b : Bool} (h : s.data.toList.all callC = b) {c : Bool} (hc : c = decide (1 ≤ (s.size : Int) ∧ (s.size : Int) ≤ 60)) : touchB s.data.toList = (c && b) := by
  unfold touchB
  rw [h, hc, bytes_len, Bool.and_comm]
  congr 2
  apply propext
  omega
theorem GoodTouch_any (s : ByteArray) (w : World) (hs : s.size ≤ maxLen) : Calls Tryz.prog 104 #[.string s] w fun e w' => e = .returned (.bool (touchB s.data.toList)) ∧ w = w' := by
  unfold maxLen at hs
  obtain ⟨b, hb⟩ : ∃ b, s.data.toList.all callC = b := ⟨_, rfl⟩
  have H := Lib.hid (touch_of hb rfl)
  have Hb := Lib.hid hb
  clear hb
  go_enter Tryz.func104, Tryz.ntmps104
  go_wp2_with (go_at_call 130; refine (areCalls_any _ _ (by unfold maxLen; omega)).mono ?_; rintro e w1 ⟨rfl, rfl⟩; rw [Hb.out])
  all_goals
    go_ret
    exact ⟨ret_bool (by rw [H.out]; simp [Bool.decide_and]; try omega), rfl⟩
end Go.Proofs.YtheppimoncokcaaGreat

/- Contracts: rounds, the product of rows. -/
namespace Go.Proofs.YtheppimoncokcaaGreat
open Go Go.RowKit
set_option linter.unusedVariables false
set_option linter.unusedSimpArgs false

theorem ret_str {a b : ByteArray} (h : a = b) : Ending.returned (.string a) = .returned (.string b) := by rw [h]
theorem rounds_any (n : Nat) (w : World) (hn : n ≤ 8) : Calls Tryz.prog 96 #[.int .i64 n] w fun e w' => e = .returned (.string (roundsB n)) ∧ w = w' := by
  have he : (⟨#[49, 50, 51, 52, 53, 54, 55, 56]⟩ : ByteArray).size = 8 := rfl
  have hr : roundsB n = (⟨#[49, 50, 51, 52, 53, 54, 55, 56]⟩ : ByteArray).extract 0 n := rfl
  have Hr := Lib.hid hr
  clear hr
  go_enter Tryz.func96, Tryz.ntmps96
  go_wp2_with fail
  go_ret
  exact ⟨ret_str Hr.out.symm, rfl⟩
theorem l1Rounds_any (n : Nat) (w : World) (hn : n ≤ 8) : Calls Tryz.prog 127 #[.int .i64 n] w fun e w' => e = .returned (.string (roundsB n)) ∧ w = w' := by
  have he : (⟨#[49, 50, 51, 52, 53, 54, 55, 56]⟩ : ByteArray).size = 8 := rfl
  have hr : roundsB n = (⟨#[49, 50, 51, 52, 53, 54, 55, 56]⟩ : ByteArray).extract 0 n := rfl
  have Hr := Lib.hid hr
  clear hr
  go_enter Tryz.func127, Tryz.ntmps127
  go_wp2_with fail
  go_ret
  exact ⟨ret_str Hr.out.symm, rfl⟩
theorem l1At_any (s : ByteArray) (k : Nat) (w : World) (hs : s.size ≤ maxLen) (hk : k < s.size) (h0 : 48 ≤ (s[k].toNat : Int)) : Calls Tryz.prog 118 #[.string s, .int .i64 ((k : Int) + 1)] w fun e w' => e = .returned (.int .i64 ((s[k].toNat : Int) - 48)) ∧ w = w' := by
  unfold maxLen at hs
  have h1 := s[k].toNat_lt
  have h2 : (k : Int) + 1 - 1 = k := by omega
  go_enter Tryz.func118, Tryz.ntmps118
  go_wp2_with fail
  go_ret
  exact ⟨rfl, rfl⟩
theorem info_u8 : (Tryz.prog.info? 5).map (fun i => (i.zero, i.size, i.bytes)) = some (some (.int .u8 0), 1, 1) := by kernel_rfl
def u8v (c : UInt8) : Value := .int .u8 (c.toNat : Int)
theorem conv_back {P : Program} {src dst e : TypeId} (hs : P.underlying src = some (.slice e)) (he : P.underlying e = some (.int .u8)) (hd : P.underlying dst = some .string) {w : World} {base g n cap : Nat} {cs : List Value} {l : List UInt8}
    (h : w.ownsRow base e 1 (.slice (some ⟨g, 0, none⟩) n cap) n cs) (hc : cs = l.map u8v) (hl : l.length = n) : (convert src dst (.slice (some ⟨g, 0, none⟩) n cap)).run P w = .ok (.string (ofL l)) w := by
  subst hl hc
  refine run_convert_bytes_back w src dst e ⟨g, 0, none⟩ cap l hs he hd (fun j hj => ?_)
  rw [Addr.add_lit, Nat.zero_add, h.cellAt j (by omega)]
  simp [u8v, hj]
theorem timesL_len (a b : List UInt8) : (timesL a b).length = b.length := by simp [timesL]
theorem times_snoc {a b : ByteArray} {k : Nat} (hk : k < b.size) {m : Nat} (hm : m = b[k].toNat - 49) (hl : m < a.size) : timesL a.data.toList (b.data.toList.take (k + 1)) = timesL a.data.toList (b.data.toList.take k) ++ [a[m]] := by
  subst hm
  rw [timesL_take (by rw [bytes_len]; exact hk), List.getD_eq_getElem?_getD, bytes_get b k hk, List.getElem?_eq_getElem (by rw [bytes_len]; exact hl)]
  rfl
set_option maxHeartbeats 1000000 in
theorem times_any (a b : ByteArray) (w : World) (ha : a.size ≤ 1048576) (hb : b.size ≤ 1048576) (hin : ∀ i (h : i < b.size), 49 ≤ b[i].toNat ∧ b[i].toNat < 49 + a.size) :
    Calls Tryz.prog 87 #[.string a, .string b] w fun e w' => e = .returned (.string (timesB a b)) ∧ Below w.heap.size w w' := by
  obtain ⟨i0, hi0, hz0, hs0, hb0⟩ := info_parts info_u8
  have Hin := Lib.hid hin
  have HT := Lib.hid (show timesB a b = ofL (timesL a.data.toList b.data.toList) from rfl)
  clear hin
  go_enter Tryz.func87, Tryz.ntmps87
  go_wp2_with (at_make; refine wpList_make_full _ rfl _ _ _ rfl w.heap.size 5 i0 _ 1 Tryz.underlying22 hi0 hz0 hs0 _ _ _ _ b.size rfl rfl rfl rfl (by rw [hb0]; omega) (by unfold maxLen; omega) (Nat.le_refl _) ?_; intro w1 hown1 hgr1)
  have hB1 := bw_gr (Below.refl _ _) hgr1
  go_loopw [12] (fun i wr => ∃ k : Nat, k ≤ b.size ∧ i = .int .i64 k ∧ Below w.heap.size w wr ∧ ∃ cs : List Value, wr.ownsRow w.heap.size 5 1 (.slice (some ⟨w.heap.size, 0, none⟩) b.size b.size) b.size cs ∧ cs.take k = (timesL a.data.toList (b.data.toList.take k)).map u8v)
    (fun i _ => b.size - (intOf i).toNat)
  case atStart => exact ⟨0, by omega, rfl, hB1, _, hown1, by simp [timesL]⟩
  case round =>
    obtain ⟨k, hk, rfl, hB, cs, hown, hcs⟩ := hrel
    have Hcs := Lib.hid hcs
    clear hcs
    by_cases hlt : k < b.size
    · obtain ⟨y0, hy0⟩ := own_some hown (j := k) (by omega)
      have hf := hown.frozenAt k
      have hr := Hin.out k hlt
      obtain ⟨m, hm⟩ : ∃ m, m = b[k].toNat - 49 := ⟨_, rfl⟩
      have hml : m < a.size := by omega
      have hbm : (b[k].toNat : Int) = m + 49 := by omega
      have Hsn := Lib.hid (times_snoc hlt hm hml)
      have hlt8 := b[k].toNat_lt
      have hw8 : IntKind.u8.wrap ((m : Int) + 49 - 49) = m := by rw [IntWalk.u8_in _ ⟨by omega, by omega⟩]; omega
      have Hr := Lib.hid hr
      clear hm hr
      go_wp2_with fail
      refine ⟨⟨k + 1, by omega, by go_num, grow_set hB (Nat.le_refl _) _, _, own_set hown _ _, ?_⟩, by simp [intOf]; omega⟩
      rw [take_set_last (by rw [hown.1]; omega), Hcs.out, Hsn.out]
      simp [u8v]
    · obtain rfl : k = b.size := by omega
      rw [List.take_of_length_le (by rw [hown.1]; omega), List.take_of_length_le (by rw [bytes_len]; exact Nat.le_refl _)] at Hcs
      have hcv := conv_back Tryz.underlying22 Tryz.underlying5 Tryz.underlying9 hown Hcs.out (by rw [timesL_len, bytes_len])
      go_wp2_with fail
      go_ret
      exact ⟨ret_str HT.out.symm, hB⟩
theorem ext_app {a : ByteArray} {m : Nat} (h : m < a.size) (s : List UInt8) : ofL s ++ a.extract m (m + 1) = ofL (s ++ [a[m]]) := by
  apply bytes_ext
  rw [ofL_list, show (ofL s ++ a.extract m (m + 1)).data.toList = (ofL s).data.toList ++ (a.extract m (m + 1)).data.toList by simp [ByteArray.data_append], ofL_list, ← bytes_toList, ext_one h]
set_option maxHeartbeats 1000000 in
theorem l1Times_any (a b : ByteArray) (w : World) (ha : a.size ≤ 1048576) (hb : b.size ≤ 1048576) (hin : ∀ i (h : i < b.size), 49 ≤ b[i].toNat ∧ b[i].toNat < 49 + a.size) :
    Calls Tryz.prog 88 #[.string a, .string b] w fun e w' => e = .returned (.string (timesB a b)) ∧ w = w' := by
  have Hin := Lib.hid hin
  have HT := Lib.hid (show timesB a b = ofL (timesL a.data.toList b.data.toList) from rfl)
  have hz : (⟨#[]⟩ : ByteArray) = ofL (timesL a.data.toList (b.data.toList.take 0)) := rfl
  have Hz := Lib.hid hz
  clear hin hz
  go_enter Tryz.func88, Tryz.ntmps88
  go_wp2_with fail
  go_loop [5, 6] (fun o i => ∃ k : Nat, ∃ s : ByteArray, k ≤ b.size ∧ i = .int .i64 ((k : Int) + 1) ∧ o = .string s ∧ s.size = k ∧ s = ofL (timesL a.data.toList (b.data.toList.take k))) (fun _ i => b.size + 1 - (intOf i).toNat)
  case atStart => exact ⟨0, _, by omega, rfl, rfl, rfl, Hz.out⟩
  case round =>
    obtain ⟨k, s, hk, rfl, rfl, hsz, hs⟩ := hrel
    have Hs := Lib.hid hs
    clear hs
    by_cases hlt : k < b.size
    · have hr := Hin.out k hlt
      obtain ⟨m, hm⟩ : ∃ m, m = b[k].toNat - 49 := ⟨_, rfl⟩
      have hml : m < a.size := by omega
      have hat := Lib.hid (l1At_any b k w (by unfold maxLen; omega) hlt (by omega))
      have hbm : (b[k].toNat : Int) - 48 = m + 1 := by omega
      rw [hbm] at hat
      have Hsn := Lib.hid (times_snoc hlt hm hml)
      have Hap := Lib.hid (ext_app hml)
      have Hr := Lib.hid hr
      have Hsz := Lib.hid hsz
      have hsz' : s.size ≤ 1048576 := by omega
      have hex : (a.extract m (m + 1)).size = 1 := by rw [ByteArray.size_extract]; omega
      have Hex := Lib.hid hex
      have hex' : (a.extract m (m + 1)).size ≤ 1 := by omega
      clear hm hr hbm hsz hex
      go_wp2_with (go_at_call 118; refine (hat.out).mono ?_; rintro e w' ⟨rfl, rfl⟩)
      refine ⟨⟨k + 1, _, by omega, by go_num, rfl, ?_, ?_⟩, by simp [intOf]; omega⟩
      · rw [ByteArray.size_append, Hsz.out, Hex.out]
      · rw [Hs.out, Hap.out, Hsn.out]
    · obtain rfl : k = b.size := by omega
      go_wp2_with fail
      go_ret
      exact ⟨ret_str (by rw [HT.out, Hs.out, List.take_of_length_le (by rw [bytes_len]; exact Nat.le_refl _)]), rfl⟩
end Go.Proofs.YtheppimoncokcaaGreat

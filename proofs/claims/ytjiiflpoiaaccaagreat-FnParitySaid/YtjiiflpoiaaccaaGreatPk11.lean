/- Contracts: room for a slice of strings; two slices joined. -/
import Derived.Test.YtjiiflpoiaaccaaGreatPk9
import Derived.Lib.AppendZeros
import Derived.Shelf.Strings.Builder1
import Derived.Shelf.Strings.Builder2
import Derived.Shelf.Small.Bits
import Derived.Shelf.Small.Strs
import Derived.Shelf.Strconv.Itoa0
import Derived.Shelf.Sort.Plain
import Derived.Shelf.Bits.Mul64
import Derived.Shelf.Slices.Turned
import Derived.Ground.Names2Prog
import Derived.Shelf.Slices.Clone
import Derived.Shelf.Slices.CompactS
import Derived.Shelf.Slices.Cells
import Derived.Shelf.Slices.In.SortNone
import Derived.Test.YtjiiflpoiaaccaaGreatProg
import Derived.Test.YtjiiflpoiaaccaaGreatPk10
import Derived.Sort.OwnSorted
import Derived.Sort.Walk0
import Derived.Lib.SlicesCompact
namespace Go.Proofs.YtjiiflpoiaaccaaGreat
open Go Go.RowKit
set_option linter.unusedVariables false
set_option linter.unusedSimpArgs false

set_option maxRecDepth 100000 in
set_option maxHeartbeats 1000000 in
theorem growStr_any (n : Nat) (w : World) (h0 : 0 < n) (hn : n ≤ 20000000) : Calls Tryz.prog 311 #[.slice none 0 0, .int .i64 n] w fun e w' =>
    ∃ r : Value, e = .returned r ∧ w'.ownsRow w.heap.size 9 1 r 0 [] ∧ Below w.heap.size w w' := by
  obtain ⟨i0, hi, hz, hsi, hbi⟩ := info_parts info_str
  have hrun := Lib.run_append_nil_zeros (P := Tryz.prog) w 22 3 22 9 i0 (.string ⟨#[]⟩) .i64 .i64 Tryz.underlying22 Tryz.underlying3 hi hz n h0 (by omega) (by omega) (by rw [hbi]; omega)
  have hge := grownCap_ge w n 0 9
  have hcm := grownCap_le_maxLen w n 0 9 (by unfold maxLen; omega)
  go_enter Tryz.func311, Tryz.ntmps311
  go_wp2_with (at_builtin; go_must (refine Lib.wpList_append_run w rfl _ _ _ _ rfl _ _ rfl rfl _ _ hrun ?_))
  go_ret
  refine ⟨_, rfl, ⟨rfl, .inr ⟨w.heap.size, _, _, rfl, Nat.le_refl _, heap_alloc_new w.drew _, by omega, hcm, ?_, by simp⟩⟩, bw_al (Below.drew (Below.refl _ _)) _⟩
  simp only [Array.size_append, size_zeroCells]
  show n * 1 + (grownCap w n 0 9 - n) * 1 = grownCap w n 0 9 * 1
  omega
set_option maxRecDepth 100000 in
set_option maxHeartbeats 2000000 in
theorem concatStr2_any (g : Nat) (u v : Value) (xs ys : List ByteArray) (w : World) (hg : ∀ w', Below w.heap.size w w' → w'.cell? ⟨g, 0, none⟩ = some u) (hg1 : ∀ w', Below w.heap.size w w' → w'.cell? ⟨g, 1, none⟩ = some v)
    (hu : Strs w u xs) (hv : Strs w v ys) (hnu : NilOk u) (hnv : NilOk v) (hlen : 0 < xs.length + ys.length) (hmax : xs.length + ys.length ≤ 20000000) : Calls Tryz.prog 254 #[.slice (some ⟨g, 0, none⟩) 2 2] w fun e w' =>
    ∃ r : Value, e = .returned r ∧ w'.ownsRow w.heap.size 9 1 r (xs.length + ys.length) ((xs ++ ys).map Value.string) ∧ Below w.heap.size w w' := by
  have hu0 := hu
  have hv0 := hv
  obtain ⟨A, c, hA, h1, h2, hr⟩ := hu
  obtain ⟨A', c', hA', h1', h2', hr'⟩ := hv
  unfold maxLen at h2 h2'
  have hBr := Below.refl w.heap.size w
  go_enter Tryz.func254, Tryz.ntmps254
  go_wp2_with fail
  go_loop [3, 11] (fun z i => ∃ k : Nat, k ≤ 2 ∧ i = .int .i64 k ∧ z = .int .i64 (if k = 0 then 0 else if k = 1 then (xs.length : Int) else ((xs.length + ys.length : Nat) : Int))) (fun _ i => 2 - (intOf i).toNat)
  case atStart => exact ⟨0, by omega, rfl, rfl⟩
  case round =>
    obtain ⟨k, hk, rfl, rfl⟩ := hrel
    obtain rfl | rfl | rfl : k = 0 ∨ k = 1 ∨ k = 2 := by omega
    · subst hA
      go_wp2_with fail
      exact ⟨⟨1, by omega, rfl, rfl⟩, by simp [intOf]⟩
    · subst hA'
      go_wp2_with fail
      exact ⟨⟨2, by omega, rfl, by simp⟩, by simp [intOf]⟩
    · go_wp2_with fail
      refine (growStr_any (xs.length + ys.length) w hlen (by omega)).mono ?_; rintro e w1 ⟨r, rfl, hown, hb1⟩
      go_wp2_with fail
      go_loopw [6, 27] (fun z i wr => ∃ k : Nat, k ≤ 2 ∧ i = .int .i64 k ∧ Below w.heap.size w wr ∧ ((k = 0 ∧ wr.ownsRow w.heap.size 9 1 z 0 []) ∨ (k = 1 ∧ wr.ownsRow w.heap.size 9 1 z xs.length (xs.map Value.string)) ∨ (k = 2 ∧ wr.ownsRow w.heap.size 9 1 z (xs.length + ys.length) ((xs ++ ys).map Value.string)))) (fun _ i _ => 2 - (intOf i).toNat)
      case atStart => exact ⟨0, by omega, rfl, hb1, .inl ⟨rfl, hown⟩⟩
      case round =>
        obtain ⟨k, hk, rfl, hB, hk3⟩ := hrel
        rcases hk3 with ⟨rfl, ho⟩ | ⟨rfl, ho⟩ | ⟨rfl, ho⟩
        · go_wp2_with (at_builtin; go_must (refine wpList_app_sl _ rfl _ _ _ rfl w.heap.size 9 _ 1 16 Tryz.underlying22 info_str rfl (by omega) ho rfl (hu0.to hB) hnu hA.symm (strs_one xs) (by omega) (by omega) hB.size ?_); intro v2 w2 hown2 hb2 _ _)
          exact ⟨⟨1, by omega, rfl, hB.trans hb2, .inr (.inl ⟨rfl, by simpa using hown2⟩)⟩, by simp [intOf]⟩
        · go_wp2_with (at_builtin; go_must (refine wpList_app_sl _ rfl _ _ _ rfl w.heap.size 9 _ 1 16 Tryz.underlying22 info_str rfl (by omega) ho rfl (hv0.to hB) hnv hA'.symm (strs_one ys) (by omega) (by omega) hB.size ?_); intro v2 w2 hown2 hb2 _ _)
          exact ⟨⟨2, by omega, rfl, hB.trans hb2, .inr (.inr ⟨rfl, by rw [List.map_append]; exact hown2⟩)⟩, by simp [intOf]⟩
        · go_wp2_with fail
          go_ret
          exact ⟨_, rfl, ho, hB⟩
end Go.Proofs.YtjiiflpoiaaccaaGreat

/- Contracts: a list that begins with its element k. -/
namespace Go.Proofs.YtjiiflpoiaaccaaGreat
open Go Go.RowKit
set_option linter.unusedVariables false
set_option linter.unusedSimpArgs false

theorem strs_from {w : World} {ad : Addr} {c k : Nat} {ss : List ByteArray} (h : Strs w (.slice (some ad) ss.length c) ss) (hk : k < ss.length) : Strs w (.slice (some (ad.add k)) (ss.length - k) (c - k)) (ss.drop k) := by
  obtain ⟨A', c', hA, h1, h2, hr⟩ := h
  cases hA
  have hc := hr.cut (k := k) (cap := c) (by omega) h1
  rw [if_neg (by omega)] at hc
  simp only [Option.map_some, Nat.mul_one] at hc
  refine ⟨some (ad.add k), c - k, by rw [List.length_drop], by rw [List.length_drop]; omega, by omega, ?_⟩
  rw [List.length_drop, List.map_drop]
  exact hc
theorem strs_upto {w : World} {ad : Addr} {c k : Nat} {ss : List ByteArray} (h : Strs w (.slice (some ad) ss.length c) ss) (hk : k < ss.length) : Strs w (.slice (some ad) k c) (ss.take k) := by
  obtain ⟨A', c', hA, h1, h2, hr⟩ := h
  cases hA
  have hl : (ss.take k).length = k := by rw [List.length_take]; omega
  refine ⟨some ad, c, by rw [hl], by rw [hl]; omega, h2, ?_⟩
  rw [hl]
  refine ⟨by simp; omega, fun h0 => ?_⟩
  obtain ⟨ad', e, hb, hc⟩ := hr.2 (by omega)
  refine ⟨ad', e, hb, fun j u hu => hc j u ?_⟩
  rw [List.map_take] at hu
  have hj : j < k := by have := (List.getElem?_eq_some_iff.1 hu).1; simp at this; omega
  rwa [List.getElem?_take_of_lt hj] at hu
theorem nilok_some (a : Addr) (n c : Nat) : NilOk (.slice (some a) n c) := by intro n' c' h; cases h
end Go.Proofs.YtjiiflpoiaaccaaGreat

/- Contracts of the library laid at this program (the kit's shelf, its plain mode). -/
namespace Go.Proofs
open Go.Shelf
def Tryz.lays106_ren : Go.Shelf.Ren := ⟨fun | 106 => 133 | 213 => 225 | 265 => 296 | n => n, fun | 9 => 9 | 3 => 3 | n => n, fun | n => n⟩
theorem Tryz.lays106 : Go.Proofs.Lays.n106 Tryz.prog Tryz.lays106_ren := {
  mixed := by kernel_rfl
  f106 := Tryz.func133.trans (congrArg some (by kernel_rfl))
  f213 := Tryz.func225.trans (congrArg some (by kernel_rfl))
  f265 := Tryz.func296.trans (congrArg some (by kernel_rfl))
  t3 := Tryz.underlying3
  a3 := Tryz.isAgg3
  z3 := Tryz.sizeOf3
  v3 := Tryz.zeroValue3
  t9 := Tryz.underlying9
  a9 := Tryz.isAgg9
  z9 := Tryz.sizeOf9
  v9 := Tryz.zeroValue9 }
open Go.RowKit in
theorem Tryz.strings_Compare (a b : ByteArray) (w : World) :
    Calls Tryz.prog 133 #[.string a, .string b] w fun e w' => e = .returned (.int .i64 (Lib.compareBytes a.data.toList b.data.toList)) ∧ w' = w := Any.strings_Compare Tryz.lays106 a b w
def Tryz.lays190_ren : Go.Shelf.Ren := ⟨fun | 190 => 309 | 125 => 224 | 258 => 334 | 128 => 294 | 129 => 295 | 302 => 346 | 303 => 347 | 304 => 348 | 305 => 349 | 306 => 350 | 307 => 351 | 308 => 307 | 309 => 352 | 310 => 353 | 333 => 362 | 329 => 326 | 330 => 327 | 334 => 363 | 335 => 364 | 336 => 333 | 344 => 368 | n => n, fun | 31 => 22 | 9 => 9 | 3 => 3 | 46 => 215 | 0 => 0 | 51 => 247 | 53 => 128 | 4 => 4 | 183 => 241 | 182 => 240 | 131 => 75 | 5 => 5 | 218 => 262 | 222 => 266 | 228 => 281 | 229 => 282 | n => n, fun | n => n⟩
theorem Tryz.lays190 : Go.Proofs.Lays.n190 Tryz.prog Tryz.lays190_ren := {
  mixed := by kernel_rfl
  f125 := Tryz.func224.trans (congrArg some (by kernel_rfl))
  f128 := Tryz.func294.trans (congrArg some (by kernel_rfl))
  f129 := Tryz.func295.trans (congrArg some (by kernel_rfl))
  f190 := Tryz.func309.trans (congrArg some (by kernel_rfl))
  f258 := Tryz.func334.trans (congrArg some (by kernel_rfl))
  f302 := Tryz.func346.trans (congrArg some (by kernel_rfl))
  f303 := Tryz.func347.trans (congrArg some (by kernel_rfl))
  f304 := Tryz.func348.trans (congrArg some (by kernel_rfl))
  f305 := Tryz.func349.trans (congrArg some (by kernel_rfl))
  f306 := Tryz.func350.trans (congrArg some (by kernel_rfl))
  f307 := Tryz.func351.trans (congrArg some (by kernel_rfl))
  f308 := Tryz.func307.trans (congrArg some (by kernel_rfl))
  f309 := Tryz.func352.trans (congrArg some (by kernel_rfl))
  f310 := Tryz.func353.trans (congrArg some (by kernel_rfl))
  f329 := Tryz.func326.trans (congrArg some (by kernel_rfl))
  f330 := Tryz.func327.trans (congrArg some (by kernel_rfl))
  f333 := Tryz.func362.trans (congrArg some (by kernel_rfl))
  f334 := Tryz.func363.trans (congrArg some (by kernel_rfl))
  f335 := Tryz.func364.trans (congrArg some (by kernel_rfl))
  f336 := Tryz.func333.trans (congrArg some (by kernel_rfl))
  f344 := Tryz.func368.trans (congrArg some (by kernel_rfl))
  t0 := Tryz.underlying0
  a0 := Tryz.isAgg0
  z0 := Tryz.sizeOf0
  v0 := Tryz.zeroValue0
  t3 := Tryz.underlying3
  a3 := Tryz.isAgg3
  z3 := Tryz.sizeOf3
  v3 := Tryz.zeroValue3
  t4 := Tryz.underlying4
  a4 := Tryz.isAgg4
  z4 := Tryz.sizeOf4
  v4 := Tryz.zeroValue4
  t5 := Tryz.underlying5
  a5 := Tryz.isAgg5
  z5 := Tryz.sizeOf5
  v5 := Tryz.zeroValue5
  t9 := Tryz.underlying9
  a9 := Tryz.isAgg9
  z9 := Tryz.sizeOf9
  v9 := Tryz.zeroValue9
  t31 := Tryz.underlying22
  a31 := Tryz.isAgg22
  z31 := Tryz.sizeOf22
  v31 := Tryz.zeroValue22
  t46 := Tryz.underlying215
  a46 := Tryz.isAgg215
  z46 := Tryz.sizeOf215
  v46 := Tryz.zeroValue215
  t51 := Tryz.underlying247
  a51 := Tryz.isAgg247
  z51 := Tryz.sizeOf247
  v51 := Tryz.zeroValue247
  t53 := Tryz.underlying128
  a53 := Tryz.isAgg128
  z53 := Tryz.sizeOf128
  v53 := Tryz.zeroValue128
  t131 := Tryz.underlying75
  a131 := Tryz.isAgg75
  z131 := Tryz.sizeOf75
  v131 := Tryz.zeroValue75
  t182 := Tryz.underlying240
  a182 := Tryz.isAgg240
  z182 := Tryz.sizeOf240
  v182 := Tryz.zeroValue240
  t183 := Tryz.underlying241
  a183 := Tryz.isAgg241
  z183 := Tryz.sizeOf241
  v183 := Tryz.zeroValue241
  t218 := Tryz.underlying262
  a218 := Tryz.isAgg262
  z218 := Tryz.sizeOf262
  v218 := Tryz.zeroValue262
  t222 := Tryz.underlying266
  a222 := Tryz.isAgg266
  z222 := Tryz.sizeOf266
  v222 := Tryz.zeroValue266
  t228 := Tryz.underlying281
  a228 := Tryz.isAgg281
  z228 := Tryz.sizeOf281
  v228 := Tryz.zeroValue281
  t229 := Tryz.underlying282
  a229 := Tryz.isAgg282
  z229 := Tryz.sizeOf282
  v229 := Tryz.zeroValue282 }
open Go.Sort Go.RowKit in
theorem Tryz.slices_Sort_string (blk off cap : Nat) (ss : List (List UInt8)) (w : World) (hH : Holds encStr w blk off ss.toArray) (hblk : blk < w.heap.size) (hsz : ss.length < 4611686018427387904) :
    Calls Tryz.prog 309 #[.slice (some ⟨blk, off, none⟩) ss.length cap] w fun e w' =>
      e = .returned (.tuple #[]) ∧ ∃ n os, w' = grow (putRow encStr (Sort.ahead w n) blk off (ss.mergeSort fun x y => decide (x ≤ y)).toArray) os := Any.slices_Sort_string Tryz.lays190 blk off cap ss w hH hblk hsz
def Tryz.lays194_ren : Go.Shelf.Ren := ⟨fun | 194 => 253 | n => n, fun | 31 => 22 | 9 => 9 | 3 => 3 | 4 => 4 | 0 => 0 | n => n, fun | n => n⟩
theorem Tryz.lays194 : Go.Proofs.Lays.n194 Tryz.prog Tryz.lays194_ren := {
  mixed := by kernel_rfl
  f194 := Tryz.func253.trans (congrArg some (by kernel_rfl))
  t0 := Tryz.underlying0
  a0 := Tryz.isAgg0
  z0 := Tryz.sizeOf0
  v0 := Tryz.zeroValue0
  t3 := Tryz.underlying3
  a3 := Tryz.isAgg3
  z3 := Tryz.sizeOf3
  v3 := Tryz.zeroValue3
  t4 := Tryz.underlying4
  a4 := Tryz.isAgg4
  z4 := Tryz.sizeOf4
  v4 := Tryz.zeroValue4
  t9 := Tryz.underlying9
  a9 := Tryz.isAgg9
  z9 := Tryz.sizeOf9
  v9 := Tryz.zeroValue9
  t31 := Tryz.underlying22
  a31 := Tryz.isAgg22
  z31 := Tryz.sizeOf22
  v31 := Tryz.zeroValue22 }
open Go.RowKit Go.Lib Go.Sort in
theorem Tryz.slices_Compact_string (blk off cap : Nat) (zs : List (List UInt8)) (w : World) (hH : Holds encStr w blk off zs.toArray) (hsz : zs.length ≤ 9223372036854775807) (hcap : zs.length ≤ cap) :
    Calls Tryz.prog 253 #[.slice (some ⟨blk, off, none⟩) zs.length cap] w fun e w' => e = .returned (.slice (some ⟨blk, off, none⟩) (Lib.compact zs).length cap) ∧ ∃ q, w' = putRow encStr (Sort.ahead w q) blk off (Lib.compact zs ++ List.replicate (zs.length - (Lib.compact zs).length) []).toArray := Any.slices_Compact_string Tryz.lays194 blk off cap zs w hH hsz hcap
end Go.Proofs

/- slices.Sort at a row of texts of the call's own. -/
namespace Go.Proofs.YtjiiflpoiaaccaaGreat
open Go Go.RowKit Go.Sort
set_option linter.unusedVariables false
set_option linter.unusedSimpArgs false
theorem merge_sortB (l : List ByteArray) : (((l.map (·.data.toList)).mergeSort fun x y => decide (x ≤ y)).map ofL) = sortB l := by
  apply sorted_uniq
  · have h := (List.mergeSort_perm (l.map (·.data.toList)) (fun x y => decide (x ≤ y))).map ofL
    have e : (l.map (·.data.toList)).map ofL = l := by
      rw [List.map_map]
      conv => rhs; rw [← List.map_id l]
      apply List.map_congr_left
      intro x _
      exact ofL_eq x
    rw [e] at h
    exact h
  · rw [SortedS, List.pairwise_map]
    have hs := List.pairwise_mergeSort (le := fun x y : List UInt8 => decide (x ≤ y)) (fun a b c h1 h2 => by
      simp only [decide_eq_true_eq] at *
      exact List.le_trans h1 h2) (fun a b => by
      simp only [Bool.or_eq_true, decide_eq_true_eq]
      exact List.le_total a b) (l.map (·.data.toList))
    refine hs.imp (fun {a b} h => ?_)
    simp only [decide_eq_true_eq] at h
    unfold nmLt
    rw [bytesLess_eq, bytes_toList, bytes_toList, ofL_list, ofL_list]
    exact decide_eq_false (List.not_lt.2 h)
theorem sortS_any (g n c base : Nat) (l : List ByteArray) (w : World) (h : w.ownsRow base 9 1 (.slice (some ⟨g, 0, none⟩) n c) n (l.map Value.string)) (hl : n ≤ 100000000) : Calls Tryz.prog 309 #[.slice (some ⟨g, 0, none⟩) n c] w fun e w' =>
    e = .returned (.tuple #[]) ∧ w'.ownsRow base 9 1 (.slice (some ⟨g, 0, none⟩) n c) n ((sortB l).map Value.string) ∧ Below base w w' ∧ w.heap.size ≤ w'.heap.size := by
  have hlen : l.length = n := by have := h.1; simpa using this
  subst hlen
  obtain ⟨ss, hss⟩ : ∃ ss, ss = l.map (·.data.toList) := ⟨_, rfl⟩
  have hsl : ss.length = l.length := by rw [hss, List.length_map]
  have e1 : l.map Value.string = ss.map encStr := by
    rw [hss, List.map_map]
    apply List.map_congr_left
    intro x _
    rfl
  have e2 : ((ss.mergeSort fun x y => decide (x ≤ y)).map encStr) = (sortB l).map Value.string := by
    rw [← merge_sortB l, ← hss, List.map_map]
    rfl
  rw [e1] at h
  rcases h.2 with ⟨hnil, _⟩ | ⟨g', cap, cur, hv, hbase, hb, h1, h2, h3, h4⟩
  · cases hnil
  · injection hv with ha hn hc
    injection ha with ha
    injection ha with ha
    subst ha hc
    rw [← hsl] at h1 h4 hl ⊢
    have hs := Tryz.slices_Sort_string g 0 c ss w (holds_of_block hb (by simpa using h4)) (Array.getElem?_eq_some_iff.1 hb).1 (by omega)
    refine hs.mono ?_
    rintro e w' ⟨rfl, k, os, rfl⟩
    have hg := grownBy_sorted (w := w) (g := g) (n := k) (os := os) (ss.mergeSort fun x y => decide (x ≤ y)).toArray
    have ho := ownsRow_sorted (n := k) (os := os) (ts := ss.mergeSort fun x y => decide (x ≤ y)) (by simp) hbase hb h1 h2 h3
    rw [e2] at ho
    have hgl := (Array.getElem?_eq_some_iff.1 hb).1
    exact ⟨rfl, ho, (Below.refl _ _).grown hg (by omega) (fun k hk => by cases hk; exact hbase), hg.size⟩
end Go.Proofs.YtjiiflpoiaaccaaGreat

/- Rising rows without repetition: slices.Compact behind a sort, sets joined: a plain account. -/
namespace Go.Proofs.YtjiiflpoiaaccaaGreat
open Go Go.RowKit Go.Sort
set_option linter.unusedVariables false
set_option linter.unusedSimpArgs false

theorem get_at {α : Type} [Inhabited α] {zs : List α} {i : Nat} (h : i < zs.length) : zs.toArray[i]! = zs[i] := by
  rw [getElem!_pos zs.toArray i (by simpa using h)]
  simp
theorem compact_to {α : Type} [Inhabited α] [DecidableEq α] {le : α → α → Prop} (anti : ∀ a b, le a b → le b a → a = b) {zs : List α} (h : zs.Pairwise le) : ∀ m, m ≤ zs.length → (∀ x, x ∈ Lib.compactUpTo zs.toArray m ↔ x ∈ zs.take m) ∧ (Lib.compactUpTo zs.toArray m).Nodup
  | 0, _ => by simp [Lib.compactUpTo]
  | m + 1, hm => by
    obtain ⟨h1, h2⟩ := compact_to anti h m (by omega)
    have hp := List.pairwise_iff_getElem.1 h
    have hml : m < zs.length := by omega
    have em := get_at hml
    rw [Lib.compactUpTo_succ, em]
    have et : zs.take (m + 1) = zs.take m ++ [zs[m]] := List.take_succ_eq_append_getElem hml
    cases hk : Lib.keeps zs.toArray m
    · have hin : zs[m] ∈ zs.take m := by
        unfold Lib.keeps at hk
        have hk := of_decide_eq_false hk
        have hm0 : m ≠ 0 := fun e => hk (.inl e)
        have e1 : zs.toArray[m]! = zs.toArray[m - 1]! := Classical.byContradiction fun e => hk (.inr e)
        rw [em, get_at (show m - 1 < zs.length by omega)] at e1
        rw [e1, List.mem_take_iff_getElem]
        exact ⟨m - 1, by omega, rfl⟩
      rw [if_neg (by simp), List.append_nil]
      refine ⟨fun x => ?_, h2⟩
      rw [h1, et, List.mem_append, List.mem_singleton]
      exact ⟨.inl, fun hx => hx.elim id (fun e => by rw [e]; exact hin)⟩
    · rw [if_pos rfl]
      refine ⟨fun x => ?_, ?_⟩
      · rw [List.mem_append, h1, et, List.mem_append]
      · rw [List.nodup_append]
        refine ⟨h2, by simp, fun a ha b hb e => ?_⟩
        rw [List.mem_singleton] at hb
        subst hb; subst e
        rw [h1, List.mem_take_iff_getElem] at ha
        obtain ⟨j, hj, e⟩ := ha
        have hjm : j < m := by omega
        have hk := of_decide_eq_true hk
        have e1 : zs.toArray[m]! ≠ zs.toArray[m - 1]! := hk.resolve_left (by omega)
        rw [em, get_at (show m - 1 < zs.length by omega)] at e1
        rcases Nat.eq_or_lt_of_le (show j ≤ m - 1 by omega) with e2 | hlt
        · subst e2; exact e1 e.symm
        · have a1 := hp j (m - 1) (by omega) (by omega) hlt
          have a2 := hp (m - 1) m (by omega) hml (by omega)
          rw [e] at a1
          exact e1 (anti _ _ a1 a2)
theorem compact_sub {α : Type} [Inhabited α] [DecidableEq α] (zs : List α) : (Lib.compact zs).Sublist zs := by
  have h := (List.filter_sublist (p := Lib.keeps zs.toArray) (l := List.range zs.length)).map (fun j => zs.toArray[j]!)
  have e : (List.range zs.length).map (fun j => zs.toArray[j]!) = zs := by
    have := Lib.range_map_get zs.toArray
    simpa using this
  rw [e] at h
  exact h
/-- What slices.Compact makes of rows. -/
def compB (l : List ByteArray) : List ByteArray := (Lib.compact (l.map (·.data.toList))).map ofL
theorem ofL_data (x : ByteArray) : ofL x.data.toList = x := by unfold ofL; simp
theorem map_ofL (l : List ByteArray) : (l.map (·.data.toList)).map ofL = l := by
  rw [List.map_map]
  conv => rhs; rw [← List.map_id l]
  apply List.map_congr_left
  intro x _
  exact ofL_data x
theorem compB_sub (l : List ByteArray) : (compB l).Sublist l := by
  have h := (compact_sub (l.map (·.data.toList))).map ofL
  rw [map_ofL] at h
  exact h
theorem compB_ok {l : List ByteArray} (hs : SortedS l) : (∀ x, x ∈ compB l ↔ x ∈ l) ∧ (compB l).Nodup ∧ SortedS (compB l) := by
  have hp : (l.map (·.data.toList)).Pairwise (fun a b => nmLt (ofL b) (ofL a) = false) := by
    rw [List.pairwise_map]
    refine hs.imp ?_
    intro a b h
    rw [ofL_data, ofL_data]; exact h
  have inj : ∀ a b : List UInt8, ofL a = ofL b → a = b := fun a b h => by
    have := congrArg (fun x : ByteArray => x.data.toList) h
    simpa [ofL] using this
  obtain ⟨h1, h2⟩ := compact_to (fun a b h h' => inj a b (sl_tot h' h)) hp (l.map (·.data.toList)).length (Nat.le_refl _)
  rw [List.take_length] at h1
  refine ⟨fun x => ?_, ?_, hs.sublist (compB_sub l)⟩
  · unfold compB Lib.compact
    rw [List.mem_map]
    constructor
    · rintro ⟨a, ha, rfl⟩
      rw [h1] at ha
      obtain ⟨y, hy, rfl⟩ := List.mem_map.1 ha
      rw [ofL_data]; exact hy
    · intro hx
      exact ⟨x.data.toList, (h1 _).2 (List.mem_map.2 ⟨x, hx, rfl⟩), ofL_data x⟩
  · unfold compB Lib.compact
    rw [List.Nodup, List.pairwise_map]
    exact h2.imp (fun h e => h (inj _ _ e))
/-- Bobs with a set put into them. -/
def addS (bobs S : List ByteArray) : List ByteArray := S.foldl putS bobs
theorem addS_ok : ∀ (S : List ByteArray) {bobs : List ByteArray}, SortedS bobs → bobs.Nodup → SortedS (addS bobs S) ∧ (addS bobs S).Nodup ∧ ∀ x, x ∈ addS bobs S ↔ x ∈ bobs ∨ x ∈ S
  | [], bobs, h1, h2 => ⟨h1, h2, fun x => by simp [addS]⟩
  | y :: S, bobs, h1, h2 => by
    obtain ⟨a, b, c⟩ := addS_ok S (putS_sorted bobs y) (putS_nodup h2 y)
    refine ⟨a, b, fun x => ?_⟩
    show x ∈ addS (putS bobs y) S ↔ _
    rw [c, putS_mem, List.mem_cons, or_assoc]
theorem addS_comp {bobs S : List ByteArray} (h1 : SortedS bobs) (h2 : bobs.Nodup) : compB (sortB (bobs ++ S)) = addS bobs S := by
  obtain ⟨a, b, c⟩ := compB_ok (sortB_sorted (bobs ++ S))
  obtain ⟨a', b', c'⟩ := addS_ok S h1 h2
  refine sorted_ext c b a' b' (fun x => ?_)
  rw [a, sortB_mem, List.mem_append, c']
end Go.Proofs.YtjiiflpoiaaccaaGreat

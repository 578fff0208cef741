/- Contracts: slices of items and of numbers; the total time of a choice. -/
import Derived.Test.YtamneiffhohleaaDoorC1
namespace Go.Proofs.YtamneiffhohleaaDoor
open Go Go.RowKit
set_option linter.unusedVariables false
set_option linter.unusedSimpArgs false

theorem szAfter_le {k : Int} {m : Nat} (h : k ≤ 1048576) : szAfter k m ≤ 1048576 := by unfold szAfter; split <;> omega
theorem szItemS_any (v : Value) (xs : List It) (w : World) (h : Items w v xs) : Calls Tryd.prog 10 #[v, .int .i64 1048576] w fun e w' =>
    ∃ r : Int, e = .returned (.int .i64 r) ∧ (0 ≤ r → xs.length ≤ 1048576) ∧ Below w.heap.size w w' := by
  obtain ⟨⟨A, c, rfl, h1, h2, hr⟩, hg⟩ := h
  unfold maxLen at h2
  by_cases hbig : xs.length ≤ 1048576
  · go_enter Tryd.func10, Tryd.ntmps10
    go_wp2_with fail
    go_loopw [1, 5] (fun l i wr => ∃ k : Nat, ∃ r : Int, k ≤ xs.length ∧ i = .int .i64 k ∧ l = .int .i64 r ∧ 0 ≤ r ∧ r ≤ 1048576 ∧ Below w.heap.size w wr) (fun _ i _ => xs.length - (intOf i).toNat)
    case atStart => exact ⟨0, 1048576 - xs.length, by omega, rfl, rfl, by omega, by omega, Below.refl _ _⟩
    case round =>
      obtain ⟨k, r, hk, rfl, rfl, hr0, hr1, hB⟩ := hrel
      by_cases hlt : k < xs.length
      · obtain ⟨ad, rfl, hC⟩ := items_el hr hlt
        go_wp2_with (go_at_call 33; refine (szItem_any _ _ _ (hg _ (List.getElem_mem hlt)) hr0 hr1).mono ?_; rintro e w1 ⟨rfl, hb1⟩)
        · go_ret
          exact ⟨_, rfl, fun _ => hbig, bw_to hB hb1⟩
        · refine ⟨⟨k + 1, _, by omega, by go_num, rfl, by assumption, szAfter_le hr1, bw_to hB hb1⟩, by simp [intOf]; omega⟩
      · go_wp2_with fail
        go_ret
        exact ⟨_, rfl, fun _ => hbig, hB⟩
  · go_enter Tryd.func10, Tryd.ntmps10
    go_wp2_with fail
    go_ret
    exact ⟨_, rfl, fun h => absurd h (by omega), Below.refl _ _⟩
theorem info_implItem : (Tryd.prog.info? 64).map (fun i => (i.zero, i.size, i.bytes)) = some (some (.agg #[.string ⟨#[]⟩, .int .i64 0, .int .i64 0, .int .i64 0]), 4, 40) := by kernel_rfl
theorem toItemS_any (v : Value) (xs : List It) (w : World) (h : Items w v xs) (hbig : xs.length ≤ 1048576) : Calls Tryd.prog 13 #[v] w fun e w' =>
    ∃ r : Value, e = .returned r ∧ w'.ownsRow w.heap.size 64 4 r xs.length (xs.flatMap It.cells) ∧ Below w.heap.size w w' := by
  obtain ⟨⟨A, c, rfl, h1, h2, hr⟩, hg⟩ := h
  unfold maxLen at h2
  obtain ⟨i0, hi0, hz0, hs0, hb0⟩ := info_parts info_implItem
  go_enter Tryd.func13, Tryd.ntmps13
  go_wp2_with (at_make; refine wpList_make_full _ rfl _ _ _ rfl w.heap.size 64 i0 _ 4 Tryd.underlying37 hi0 hz0 hs0 _ _ _ _ xs.length rfl rfl rfl rfl (by rw [hb0]; omega) (by unfold maxLen; omega) (Nat.le_refl _) ?_; intro w1 hown1 hgr1)
  have hB1 := bw_gr (Below.refl _ _) hgr1
  go_loopw [4] (fun i wr => ∃ k : Nat, k ≤ xs.length ∧ i = .int .i64 k ∧ Below w.heap.size w wr ∧ ∃ cs : List Value, wr.ownsRow w.heap.size 64 4 (.slice (some ⟨w.heap.size, 0, none⟩) xs.length xs.length) xs.length cs ∧ cs.take (k * 4) = (xs.take k).flatMap It.cells)
    (fun i _ => xs.length - (intOf i).toNat)
  case atStart => exact ⟨0, by omega, rfl, hB1, _, hown1, by simp⟩
  case round =>
    obtain ⟨k, hk, rfl, hB, cs, hown, hcs⟩ := hrel
    have Hcs := Lib.hid hcs
    clear hcs
    by_cases hlt : k < xs.length
    · obtain ⟨ad, rfl, hC⟩ := items_el hr hlt
      go_wp2_with fail
      refine (toItem_any _ _).mono ?_; rintro e w2 ⟨rfl, hb2⟩
      have hown2 := own_to hown hb2
      obtain ⟨⟨y0, y1, y2, y3, hy⟩, hf⟩ := own4 hown2 hlt
      go_wp2_with fail
      refine ⟨⟨k + 1, by omega, by go_num, ?_, _, own_set (own_set (own_set (own_set hown2 _ _) _ _) _ _) _ _, ?_⟩, by simp [intOf]; omega⟩
      · exact grow_set (grow_set (grow_set (grow_set (bw_to hB hb2) (Nat.le_refl _) _) (Nat.le_refl _) _) (Nat.le_refl _) _) (Nat.le_refl _) _
      · rw [take_set4 hown.1 hlt Hcs.out, flat_take hlt]; rfl
    · go_wp2_with fail
      go_ret
      obtain rfl : k = xs.length := by omega
      refine ⟨_, rfl, ?_, hB⟩
      have hcs := Hcs.out
      rw [List.take_of_length_le (by rw [hown.1]; exact Nat.le_refl _), List.take_length] at hcs
      rw [← hcs]
      exact hown
theorem eqItem_same (x : It) (w : World) : Calls Tryd.prog 39 #[.agg #[.string x.name, .int .i64 x.stage, .int .i64 x.rows, .int .i64 x.worth], .agg #[.string x.name, .int .i64 x.stage, .int .i64 x.rows, .int .i64 x.worth]] w fun e w' =>
    e = .returned (.bool true) ∧ Below w.heap.size w w' := by
  go_enter Tryd.func39, Tryd.ntmps39
  go_wp2
  go_ret
  exact ⟨rfl, bw_al (bw_al (Below.refl _ _) _) _⟩
theorem eqItemS_same (a b : Value) (xs : List It) (w : World) (ha : Items w a xs) (hb : Items w b xs) : Calls Tryd.prog 16 #[a, b] w fun e w' => e = .returned (.bool true) ∧ Below w.heap.size w w' := by
  obtain ⟨⟨A, c, rfl, h1, h2, hr⟩, hg⟩ := ha
  obtain ⟨⟨A', c', rfl, h1', h2', hr'⟩, hg'⟩ := hb
  unfold maxLen at h2 h2'
  go_enter Tryd.func16, Tryd.ntmps16
  go_wp2_with fail
  go_loopw [5] (fun i wr => ∃ k : Nat, k ≤ xs.length ∧ i = .int .i64 k ∧ Below w.heap.size w wr) (fun i _ => xs.length - (intOf i).toNat)
  case atStart => exact ⟨0, by omega, rfl, Below.refl _ _⟩
  case round =>
    obtain ⟨k, hk, rfl, hB⟩ := hrel
    by_cases hlt : k < xs.length
    · obtain ⟨ad, rfl, hC⟩ := items_el hr hlt
      obtain ⟨ad', rfl, hC'⟩ := items_el hr' hlt
      go_wp2_with fail
      go_region_held3 (fun w' => Below w.heap.size w w') (first | exact Below.drew (by assumption) | exact bw_to (by assumption) hb')
        (first | (go_at_call 39; refine (eqItem_same xs[k] _).mono ?_; rintro e w' ⟨rfl, hb'⟩))
      go_wp2_with fail
      exact ⟨⟨k + 1, by omega, by go_num, by assumption⟩, by simp [intOf]; omega⟩
    · go_wp2_with fail
      go_ret
      exact ⟨rfl, hB⟩
theorem info_int : (Tryd.prog.info? 3).map (fun i => (i.zero, i.size, i.bytes)) = some (some (.int .i64 0), 1, 8) := by kernel_rfl
theorem toIntS_any (v : Value) (zs : List Int) (w : World) (h : Ints w v zs) (hbig : zs.length ≤ 1048576) : Calls Tryd.prog 14 #[v] w fun e w' =>
    ∃ r : Value, e = .returned r ∧ w'.ownsRow w.heap.size 3 1 r zs.length (zs.map (Value.int .i64)) ∧ Below w.heap.size w w' := by
  obtain ⟨A, c, rfl, h1, h2, hr⟩ := h
  unfold maxLen at h2
  obtain ⟨i0, hi0, hz0, hs0, hb0⟩ := info_parts info_int
  go_enter Tryd.func14, Tryd.ntmps14
  go_wp2_with (at_make; refine wpList_make_full _ rfl _ _ _ rfl w.heap.size 3 i0 _ 1 Tryd.underlying32 hi0 hz0 hs0 _ _ _ _ zs.length rfl rfl rfl rfl (by rw [hb0]; omega) (by unfold maxLen; omega) (Nat.le_refl _) ?_; intro w1 hown1 hgr1)
  have hB1 := bw_gr (Below.refl _ _) hgr1
  go_loopw [4] (fun i wr => ∃ k : Nat, k ≤ zs.length ∧ i = .int .i64 k ∧ Below w.heap.size w wr ∧ ∃ cs : List Value, wr.ownsRow w.heap.size 3 1 (.slice (some ⟨w.heap.size, 0, none⟩) zs.length zs.length) zs.length cs ∧ cs.take k = (zs.take k).map (Value.int .i64))
    (fun i _ => zs.length - (intOf i).toNat)
  case atStart => exact ⟨0, by omega, rfl, hB1, _, hown1, by simp⟩
  case round =>
    obtain ⟨k, hk, rfl, hB, cs, hown, hcs⟩ := hrel
    have Hcs := Lib.hid hcs
    clear hcs
    by_cases hlt : k < zs.length
    · obtain ⟨ad, rfl, hC⟩ := ints_el hr hlt
      obtain ⟨y0, hy⟩ := own_some hown (j := k) (by omega)
      have hf := hown.frozenAt k
      go_wp2_with fail
      refine ⟨⟨k + 1, by omega, by go_num, grow_set hB (Nat.le_refl _) _, _, own_set hown _ _, ?_⟩, by simp [intOf]; omega⟩
      rw [take_set_last (by have := hown.1; omega), Hcs.out, map_take_succ hlt]
    · go_wp2_with fail
      go_ret
      obtain rfl : k = zs.length := by omega
      refine ⟨_, rfl, ?_, hB⟩
      have hcs := Hcs.out
      rw [List.take_of_length_le (by rw [hown.1]; omega), List.take_length] at hcs
      rw [← hcs]
      exact hown
theorem eqIntS_same (a b : Value) (zs : List Int) (w : World) (ha : Ints w a zs) (hb : Ints w b zs) : Calls Tryd.prog 17 #[a, b] w fun e w' => e = .returned (.bool true) ∧ Below w.heap.size w w' := by
  obtain ⟨A, c, rfl, h1, h2, hr⟩ := ha
  obtain ⟨A', c', rfl, h1', h2', hr'⟩ := hb
  unfold maxLen at h2 h2'
  go_enter Tryd.func17, Tryd.ntmps17
  go_wp2_with fail
  go_loopw [5] (fun i wr => ∃ k : Nat, k ≤ zs.length ∧ i = .int .i64 k ∧ Below w.heap.size w wr) (fun i _ => zs.length - (intOf i).toNat)
  case atStart => exact ⟨0, by omega, rfl, Below.refl _ _⟩
  case round =>
    obtain ⟨k, hk, rfl, hB⟩ := hrel
    by_cases hlt : k < zs.length
    · obtain ⟨ad, rfl, hC⟩ := ints_el hr hlt
      obtain ⟨ad', rfl, hC'⟩ := ints_el hr' hlt
      go_wp2_with fail
      go_region_held3 (fun w' => Below w.heap.size w w') (exact Below.drew (by assumption)) (fail)
      go_wp2_with fail
      exact ⟨⟨k + 1, by omega, by go_num, by assumption⟩, by simp [intOf]; omega⟩
    · go_wp2_with fail
      go_ret
      exact ⟨rfl, hB⟩
end Go.Proofs.YtamneiffhohleaaDoor

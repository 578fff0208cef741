/- Contracts: slices of strings (size, copy, sameness), lists of changes. -/
import Derived.Test.YtimeecimaokldaaQ1
namespace Go.Proofs.Ytimeecimaokldaa
open Go Go.RowKit
set_option linter.unusedVariables false
set_option linter.unusedSimpArgs false

/-- No string of the list is too long for a machine. -/
def Fits (ss : List ByteArray) : Prop := ∀ s ∈ ss, s.size ≤ maxLen
/-- What the size's measure gives for a list that fits into it. -/
def Small (ss : List ByteArray) : Prop := ss.length ≤ 1048576 ∧ ∀ s ∈ ss, s.size ≤ 1048576
theorem Small.fits {ss : List ByteArray} (h : Small ss) : Fits ss := fun s hs => Nat.le_trans (h.2 s hs) (by unfold maxLen; omega)
theorem take_all {p : ByteArray → Prop} {ss : List ByteArray} {k : Nat} (hk : k < ss.length) (h : ∀ s ∈ ss.take k, p s) (h1 : p ss[k]) : ∀ s ∈ ss.take (k + 1), p s := by
  intro s hs
  rw [List.take_succ_eq_append_getElem hk] at hs
  rcases List.mem_append.1 hs with hs | hs
  · exact h s hs
  · rw [List.mem_singleton.1 hs]; exact h1
theorem szStringS_any (v : Value) (ss : List ByteArray) (k0 : Int) (w : World) (h : Strs w v ss) (hf : Fits ss) (h0 : 0 ≤ k0) (hk0 : k0 ≤ 1048576) : Calls Try.prog 4 #[v, .int .i64 k0] w fun e w' =>
    ∃ r : Int, e = .returned (.int .i64 r) ∧ -1 ≤ r ∧ r ≤ 1048576 ∧ (0 ≤ r → Small ss) ∧ w = w' := by
  obtain ⟨A, c, rfl, h1, h2, hr⟩ := h
  unfold maxLen at h2
  have hf' : ∀ s ∈ ss, s.size ≤ 2 ^ 63 - 1 := hf
  have Hf := Lib.hid hf'
  clear hf hf'
  by_cases hbig : (ss.length : Int) ≤ k0
  · go_enter Try.func4, Try.ntmps4
    go_wp2_with fail
    go_loop [1, 5] (fun l i => ∃ k : Nat, ∃ r : Int, k ≤ ss.length ∧ i = .int .i64 k ∧ l = .int .i64 r ∧ 0 ≤ r ∧ r ≤ 1048576 ∧ ∀ s ∈ ss.take k, s.size ≤ 1048576) (fun _ i => ss.length - (intOf i).toNat)
    case atStart => exact ⟨0, k0 - ss.length, by omega, rfl, rfl, by omega, by omega, by simp⟩
    case round =>
      obtain ⟨k, r, hk, rfl, rfl, hr0, hr1, hs⟩ := hrel
      have Hs := Lib.hid hs
      clear hs
      have hBr := Below.refl w.heap.size w
      by_cases hlt : k < ss.length
      · obtain ⟨ad, rfl, hC⟩ := strs_el hr hlt
        have hsz := Hf.out _ (List.getElem_mem hlt)
        go_wp2_with fail
        · go_ret
          exact ⟨_, rfl, by omega, by omega, fun h => absurd h (by omega), rfl⟩
        · refine ⟨⟨k + 1, _, by omega, by go_num, rfl, by assumption, by omega, take_all hlt Hs.out (by omega)⟩, by simp [intOf]; omega⟩
      · go_wp2_with fail
        go_ret
        obtain rfl : k = ss.length := by omega
        refine ⟨_, rfl, by omega, by omega, fun _ => ⟨by omega, ?_⟩, rfl⟩
        have := Hs.out
        rwa [List.take_length] at this
  · go_enter Try.func4, Try.ntmps4
    go_wp2_with fail
    go_ret
    exact ⟨_, rfl, by omega, by omega, fun h => absurd h (by omega), rfl⟩
theorem toStringS_any (v : Value) (zs : List ByteArray) (w : World) (h : Strs w v zs) (hbig : zs.length ≤ 1048576) : Calls Try.prog 8 #[v] w fun e w' =>
    ∃ r : Value, e = .returned r ∧ w'.ownsRow w.heap.size 9 1 r zs.length (zs.map Value.string) ∧ Below w.heap.size w w' := by
  obtain ⟨A, c, rfl, h1, h2, hr⟩ := h
  unfold maxLen at h2
  obtain ⟨i0, hi0, hz0, hs0, hb0⟩ := info_parts info_str
  go_enter Try.func8, Try.ntmps8
  go_wp2_with (at_make; refine wpList_make_full _ rfl _ _ _ rfl w.heap.size 9 i0 _ 1 Try.underlying24 hi0 hz0 hs0 _ _ _ _ zs.length rfl rfl rfl rfl (by rw [hb0]; omega) (by unfold maxLen; omega) (Nat.le_refl _) ?_; intro w1 hown1 hgr1)
  have hB1 := bw_gr (Below.refl _ _) hgr1
  go_loopw [4] (fun i wr => ∃ k : Nat, k ≤ zs.length ∧ i = .int .i64 k ∧ Below w.heap.size w wr ∧ ∃ cs : List Value, wr.ownsRow w.heap.size 9 1 (.slice (some ⟨w.heap.size, 0, none⟩) zs.length zs.length) zs.length cs ∧ cs.take k = (zs.take k).map Value.string)
    (fun i _ => zs.length - (intOf i).toNat)
  case atStart => exact ⟨0, by omega, rfl, hB1, _, hown1, by simp⟩
  case round =>
    obtain ⟨k, hk, rfl, hB, cs, hown, hcs⟩ := hrel
    have Hcs := Lib.hid hcs
    clear hcs
    by_cases hlt : k < zs.length
    · obtain ⟨ad, rfl, hC⟩ := strs_el hr hlt
      obtain ⟨y0, hy⟩ := own_some hown (j := k) (by omega)
      have hf := hown.frozenAt k
      go_wp2_with fail
      refine ⟨⟨k + 1, by omega, by go_num, grow_set hB (Nat.le_refl _) _, _, own_set hown _ _, ?_⟩, by simp [intOf]; omega⟩
      rw [take_set_last (by have := hown.1; omega), Hcs.out, map_take_succ hlt]
    · go_wp2_with fail
      go_ret
      obtain rfl : k = zs.length := by omega
      refine ⟨_, rfl, ?_, hB⟩
      have hcs := Hcs.out
      rw [List.take_of_length_le (by rw [hown.1]; omega), List.take_length] at hcs
      rw [← hcs]
      exact hown
theorem eqStringS_same (a b : Value) (zs : List ByteArray) (w : World) (ha : Strs w a zs) (hb : Strs w b zs) : Calls Try.prog 12 #[a, b] w fun e w' => e = .returned (.bool true) ∧ Below w.heap.size w w' := by
  obtain ⟨A, c, rfl, h1, h2, hr⟩ := ha
  obtain ⟨A', c', rfl, h1', h2', hr'⟩ := hb
  unfold maxLen at h2 h2'
  go_enter Try.func12, Try.ntmps12
  go_wp2_with fail
  go_loopw [5] (fun i wr => ∃ k : Nat, k ≤ zs.length ∧ i = .int .i64 k ∧ Below w.heap.size w wr) (fun i _ => zs.length - (intOf i).toNat)
  case atStart => exact ⟨0, by omega, rfl, Below.refl _ _⟩
  case round =>
    obtain ⟨k, hk, rfl, hB⟩ := hrel
    by_cases hlt : k < zs.length
    · obtain ⟨ad, rfl, hC⟩ := strs_el hr hlt
      obtain ⟨ad', rfl, hC'⟩ := strs_el hr' hlt
      go_wp2_with fail
      go_region_held3 (fun w' => Below w.heap.size w w') (exact Below.drew (by assumption)) (fail)
      go_wp2_with fail
      exact ⟨⟨k + 1, by omega, by go_num, by assumption⟩, by simp [intOf]; omega⟩
    · go_wp2_with fail
      go_ret
      exact ⟨rfl, hB⟩
def chgs (n : Int) (ss : List ByteArray) : Bool := ss.all fun s => changeB n s.data.toList
end Go.Proofs.Ytimeecimaokldaa

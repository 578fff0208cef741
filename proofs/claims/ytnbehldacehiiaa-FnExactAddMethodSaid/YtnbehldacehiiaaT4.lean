/- Contracts: room for a slice of strings; two slices joined. -/
import Derived.Test.YtnbehldacehiiaaT3
import Derived.Lib.AppendZeros
namespace Go.Proofs.Ytnbehldacehiiaa
open Go Go.RowKit
set_option linter.unusedVariables false
set_option linter.unusedSimpArgs false

set_option maxRecDepth 100000 in
set_option maxHeartbeats 1000000 in
theorem growStr_any (n : Nat) (w : World) (h0 : 0 < n) (hn : n ≤ 10000000) : Calls Try.prog 113 #[.slice none 0 0, .int .i64 n] w fun e w' =>
    ∃ r : Value, e = .returned r ∧ w'.ownsRow w.heap.size 9 1 r 0 [] ∧ Below w.heap.size w w' := by
  obtain ⟨i0, hi, hz, hsi, hbi⟩ := info_parts info_str
  have hrun := Lib.run_append_nil_zeros (P := Try.prog) w 32 3 32 9 i0 (.string ⟨#[]⟩) .i64 .i64 Try.underlying32 Try.underlying3 hi hz n h0 (by omega) (by omega) (by rw [hbi]; omega)
  have hge := grownCap_ge w n 0 9
  have hcm := grownCap_le_maxLen w n 0 9 (by unfold maxLen; omega)
  go_enter Try.func113, Try.ntmps113
  go_wp2_with (at_builtin; go_must (refine Lib.wpList_append_run w rfl _ _ _ _ rfl _ _ rfl rfl _ _ hrun ?_))
  go_ret
  refine ⟨_, rfl, ⟨rfl, .inr ⟨w.heap.size, _, _, rfl, Nat.le_refl _, heap_alloc_new w.drew _, by omega, hcm, ?_, by simp⟩⟩, bw_al (Below.drew (Below.refl _ _)) _⟩
  simp only [Array.size_append, size_zeroCells]
  show n * 1 + (grownCap w n 0 9 - n) * 1 = grownCap w n 0 9 * 1
  omega
set_option maxRecDepth 100000 in
set_option maxHeartbeats 2000000 in
theorem concatStr2_any (g : Nat) (u v : Value) (xs ys : List ByteArray) (w : World) (hg : ∀ w', Below w.heap.size w w' → w'.cell? ⟨g, 0, none⟩ = some u) (hg1 : ∀ w', Below w.heap.size w w' → w'.cell? ⟨g, 1, none⟩ = some v)
    (hu : Strs w u xs) (hv : Strs w v ys) (hnu : NilOk u) (hnv : NilOk v) (hlen : 0 < xs.length + ys.length) (hmax : xs.length + ys.length ≤ 1000000) : Calls Try.prog 100 #[.slice (some ⟨g, 0, none⟩) 2 2] w fun e w' =>
    ∃ r : Value, e = .returned r ∧ w'.ownsRow w.heap.size 9 1 r (xs.length + ys.length) ((xs ++ ys).map Value.string) ∧ Below w.heap.size w w' := by
  have hu0 := hu
  have hv0 := hv
  obtain ⟨A, c, hA, h1, h2, hr⟩ := hu
  obtain ⟨A', c', hA', h1', h2', hr'⟩ := hv
  unfold maxLen at h2 h2'
  have hBr := Below.refl w.heap.size w
  go_enter Try.func100, Try.ntmps100
  go_wp2_with fail
  go_loop [3, 11] (fun z i => ∃ k : Nat, k ≤ 2 ∧ i = .int .i64 k ∧ z = .int .i64 (if k = 0 then 0 else if k = 1 then (xs.length : Int) else ((xs.length + ys.length : Nat) : Int))) (fun _ i => 2 - (intOf i).toNat)
  case atStart => exact ⟨0, by omega, rfl, rfl⟩
  case round =>
    obtain ⟨k, hk, rfl, rfl⟩ := hrel
    obtain rfl | rfl | rfl : k = 0 ∨ k = 1 ∨ k = 2 := by omega
    · subst hA
      go_wp2_with fail
      exact ⟨⟨1, by omega, rfl, rfl⟩, by simp [intOf]⟩
    · subst hA'
      go_wp2_with fail
      exact ⟨⟨2, by omega, rfl, by simp⟩, by simp [intOf]⟩
    · go_wp2_with fail
      refine (growStr_any (xs.length + ys.length) w hlen (by omega)).mono ?_; rintro e w1 ⟨r, rfl, hown, hb1⟩
      go_wp2_with fail
      go_loopw [6, 27] (fun z i wr => ∃ k : Nat, k ≤ 2 ∧ i = .int .i64 k ∧ Below w.heap.size w wr ∧ ((k = 0 ∧ wr.ownsRow w.heap.size 9 1 z 0 []) ∨ (k = 1 ∧ wr.ownsRow w.heap.size 9 1 z xs.length (xs.map Value.string)) ∨ (k = 2 ∧ wr.ownsRow w.heap.size 9 1 z (xs.length + ys.length) ((xs ++ ys).map Value.string)))) (fun _ i _ => 2 - (intOf i).toNat)
      case atStart => exact ⟨0, by omega, rfl, hb1, .inl ⟨rfl, hown⟩⟩
      case round =>
        obtain ⟨k, hk, rfl, hB, hk3⟩ := hrel
        rcases hk3 with ⟨rfl, ho⟩ | ⟨rfl, ho⟩ | ⟨rfl, ho⟩
        · go_wp2_with (at_builtin; go_must (refine wpList_app_sl _ rfl _ _ _ rfl w.heap.size 9 _ 1 16 Try.underlying32 info_str rfl (by omega) ho rfl (hu0.to hB) hnu hA.symm (strs_one xs) (by omega) (by omega) hB.size ?_); intro v2 w2 hown2 hb2 _ _)
          exact ⟨⟨1, by omega, rfl, hB.trans hb2, .inr (.inl ⟨rfl, by simpa using hown2⟩)⟩, by simp [intOf]⟩
        · go_wp2_with (at_builtin; go_must (refine wpList_app_sl _ rfl _ _ _ rfl w.heap.size 9 _ 1 16 Try.underlying32 info_str rfl (by omega) ho rfl (hv0.to hB) hnv hA'.symm (strs_one ys) (by omega) (by omega) hB.size ?_); intro v2 w2 hown2 hb2 _ _)
          exact ⟨⟨2, by omega, rfl, hB.trans hb2, .inr (.inr ⟨rfl, by rw [List.map_append]; exact hown2⟩)⟩, by simp [intOf]⟩
        · go_wp2_with fail
          go_ret
          exact ⟨_, rfl, ho, hB⟩
end Go.Proofs.Ytnbehldacehiiaa

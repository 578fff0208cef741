/- Contracts: slices of items and of numbers; the total time of a choice. -/
import Derived.Test.YtnbehldacehiiaaC1
namespace Go.Proofs.Ytnbehldacehiiaa
open Go Go.RowKit
set_option linter.unusedVariables false
set_option linter.unusedSimpArgs false

theorem szAfter_le {k : Int} {m : Nat} (h : k ≤ 1048576) : szAfter k m ≤ 1048576 := by unfold szAfter; split <;> omega
theorem eqIntS_same (a b : Value) (zs : List Int) (w : World) (ha : Ints w a zs) (hb : Ints w b zs) : Calls Try.prog 32 #[a, b] w fun e w' => e = .returned (.bool true) ∧ Below w.heap.size w w' := by
  obtain ⟨A, c, rfl, h1, h2, hr⟩ := ha
  obtain ⟨A', c', rfl, h1', h2', hr'⟩ := hb
  unfold maxLen at h2 h2'
  go_enter Try.func32, Try.ntmps32
  go_wp2_with fail
  go_loopw [5] (fun i wr => ∃ k : Nat, k ≤ zs.length ∧ i = .int .i64 k ∧ Below w.heap.size w wr) (fun i _ => zs.length - (intOf i).toNat)
  case atStart => exact ⟨0, by omega, rfl, Below.refl _ _⟩
  case round =>
    obtain ⟨k, hk, rfl, hB⟩ := hrel
    by_cases hlt : k < zs.length
    · obtain ⟨ad, rfl, hC⟩ := ints_el hr hlt
      obtain ⟨ad', rfl, hC'⟩ := ints_el hr' hlt
      go_wp2_with fail
      go_region_held3 (fun w' => Below w.heap.size w w') (exact Below.drew (by assumption)) (fail)
      go_wp2_with fail
      exact ⟨⟨k + 1, by omega, by go_num, by assumption⟩, by simp [intOf]; omega⟩
    · go_wp2_with fail
      go_ret
      exact ⟨rfl, hB⟩
end Go.Proofs.Ytnbehldacehiiaa

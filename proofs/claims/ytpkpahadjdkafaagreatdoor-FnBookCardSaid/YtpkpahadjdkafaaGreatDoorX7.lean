/- Contracts of the laws' helpers: two books alike, a number of bytes. -/
import Derived.Test.YtpkpahadjdkafaaGreatDoorX2
namespace Go.Proofs.YtpkpahadjdkafaaGreatDoor
open Go Go.RowKit
set_option linter.unusedVariables false
set_option linter.unusedSimpArgs false

set_option maxHeartbeats 1000000 in
theorem qSameBook_same (a b : Value) (xs : List Rc) (w : World) (ha : Recs w a xs) (hb : Recs w b xs) : Calls Tryz.prog 13 #[a, b] w fun e w' => e = .returned (.bool true) ∧ Below w.heap.size w w' := by
  obtain ⟨A, c, rfl, h1, h2, hr⟩ := ha
  obtain ⟨A', c', rfl, h1', h2', hr'⟩ := hb
  unfold maxLen at h2 h2'
  go_enter Tryz.func13, Tryz.ntmps13
  go_wp2_with fail
  go_loopw [13] (fun i wr => ∃ k : Nat, k ≤ xs.length ∧ i = .int .i64 k ∧ Below w.heap.size w wr) (fun i _ => xs.length - (intOf i).toNat)
  case atStart => exact ⟨0, by omega, rfl, Below.refl _ _⟩
  case round =>
    obtain ⟨k, hk, rfl, hB⟩ := hrel
    by_cases hlt : k < xs.length
    · obtain ⟨ad, rfl, hC⟩ := recs_el hr rfl hlt
      obtain ⟨ad', rfl, hC'⟩ := recs_el hr' rfl hlt
      have hc0 := hC wr hB
      have hc1 := hC' wr hB
      clear hC hC'
      go_wp2_with fail
      go_big_quiet (fail)
      go_wp2_with fail
      exact ⟨⟨k + 1, by omega, by go_num, bw_dr hB _⟩, by simp [intOf]; omega⟩
    · go_wp2_with fail
      go_ret
      exact ⟨rfl, hB⟩
set_option maxHeartbeats 1000000 in
theorem qNumber_any (V : Value) (w : World) (h : BytesAt w w.heap.size V) : Calls Tryz.prog 15 #[V] w fun e w' => ∃ k : Nat, e = .returned (.int .i64 k) ∧ k ≤ 1000002 ∧ w = w' := by
  obtain ⟨A, n, c, zs, rfl, rfl, hnc, hc, hr, hz⟩ := h
  unfold maxLen at hc
  have Hz := Lib.hid hz
  clear hz
  go_enter Tryz.func15, Tryz.ntmps15
  go_wp2_with fail
  go_loop [3, 8] (fun q i => ∃ k m : Nat, k ≤ zs.length ∧ i = .int .i64 k ∧ q = .int .i64 m ∧ m ≤ 1000002) (fun _ i => zs.length - (intOf i).toNat)
  case atStart => exact ⟨0, 0, by omega, rfl, rfl, by omega⟩
  case round =>
    obtain ⟨k, m, hk, rfl, rfl, hm⟩ := hrel
    by_cases hlt : k < zs.length
    · obtain ⟨ad, u, rfl, hb, hu, hcell⟩ := hr.at_ (k := k) (by omega)
      have hu' : u = .int .u8 zs[k] := by simpa [hlt] using hu.symm
      subst hu'
      have hzk := Hz.out _ (List.getElem_mem hlt)
      obtain ⟨z, ez⟩ : ∃ z, z = zs[k] := ⟨_, rfl⟩
      rw [← ez] at hcell hzk
      obtain ⟨hz0, hz1⟩ := hzk
      clear hu ez
      have hmod0 : 0 ≤ (31 * (m : Int) + z) % 1000003 := Int.emod_nonneg _ (by omega)
      have hmod1 : (31 * (m : Int) + z) % 1000003 < 1000003 := Int.emod_lt_of_pos _ (by omega)
      go_wp2_with fail
      refine ⟨⟨k + 1, ((31 * (m : Int) + z) % 1000003).toNat, by omega, by go_num, congrArg (Value.int .i64) (by omega), by omega⟩, by simp [intOf]; omega⟩
    · go_wp2_with fail
      go_ret
      exact ⟨m, rfl, hm, rfl⟩
end Go.Proofs.YtpkpahadjdkafaaGreatDoor

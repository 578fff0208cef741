/- Contracts: the sign of a row, both sides. -/
import Derived.Test.YtpkpahadjdkafaaPk23
import Derived.Test.YtpkpahadjdkafaaPk8
namespace Go.Proofs.Ytpkpahadjdkafaa
open Go Go.RowKit
set_option linter.unusedVariables false
set_option linter.unusedSimpArgs false

set_option maxRecDepth 10000 in
set_option maxHeartbeats 2000000 in
theorem even_any (a : ByteArray) (w : World) (ha : a.size ≤ 1048576) : Calls Try.prog 96 #[.string a] w fun e w' => e = .returned (.bool (evenB a)) ∧ Below w.heap.size w w' := by
  have HE : Hid (evenB a = evF true [] (a.data.toList.take a.size)) := Lib.hid (by unfold evenB; rw [List.take_of_length_le (by rw [bytes_len]; exact Nat.le_refl _)])
  go_enter Try.func96, Try.ntmps96
  go_wp2_with fail
  go_loopw [3, 8] (fun o i wr => ∃ k : Nat, k ≤ a.size ∧ i = .int .i64 k ∧ o = .bool (evF true [] (a.data.toList.take k)) ∧ Below w.heap.size w wr) (fun _ i _ => a.size - (intOf i).toNat)
  case atStart => exact ⟨0, by omega, rfl, rfl, Below.refl _ _⟩
  case round =>
    obtain ⟨k, hk, rfl, rfl, hB⟩ := hrel
    by_cases hlt : k < a.size
    · have Hk : Hid (evF true [] (a.data.toList.take (k + 1)) = inE a[k] (a.data.toList.take k) (evF true [] (a.data.toList.take k))) := Lib.hid (by rw [evF_take (by rw [bytes_len]; exact hlt), bytes_get a k hlt])
      obtain ⟨E, hE⟩ : ∃ E, E = evF true [] (a.data.toList.take k) := ⟨_, rfl⟩
      rw [← hE] at Hk ⊢
      clear hE
      go_wp2_with fail
      obtain ⟨wo, rfl⟩ : ∃ wo : World, wo = wr := ⟨_, rfl⟩
      go_loopw [3, 12] (fun o i wr => ∃ j : Nat, j ≤ k ∧ i = .int .i64 j ∧ o = .bool (inE a[k] (a.data.toList.take j) E) ∧ Below wo.heap.size wo wr) (fun _ i _ => k - (intOf i).toNat)
      case atStart => exact ⟨0, by omega, rfl, rfl, Below.refl _ _⟩
      case round =>
        obtain ⟨j, hj, rfl, rfl, hB2⟩ := hrel
        by_cases hlt2 : j < k
        · have hja : j < a.size := by omega
          have Hj : Hid (inE a[k] (a.data.toList.take (j + 1)) E = if a[k] < a[j] then !(inE a[k] (a.data.toList.take j) E) else inE a[k] (a.data.toList.take j) E) := Lib.hid (by rw [inE_take E (by rw [bytes_len]; exact hja), bytes_get a j hja])
          obtain ⟨I, hI⟩ : ∃ I, I = inE a[k] (a.data.toList.take j) E := ⟨_, rfl⟩
          rw [← hI] at Hj ⊢
          have Hle := Lib.hid (UInt8.lt_iff_toNat_lt (a := a[k]) (b := a[j]))
          clear hI
          by_cases hc : a[k] < a[j]
          · rw [if_pos hc] at Hj
            have hd : decide ((a[k].toNat : Int) < (a[j].toNat : Int)) = true := decide_eq_true (by have := Hle.out.1 hc; omega)
            have Hc := Lib.hid hc
            clear hc
            go_wp2_with fail
            go_big_quiet (fail)
            go_wp2_with fail
            exact ⟨⟨j + 1, by omega, by go_num, by rw [Hj.out], bw_dr hB2 _⟩, by simp [intOf]; omega⟩
          · rw [if_neg hc] at Hj
            have hd : decide ((a[k].toNat : Int) < (a[j].toNat : Int)) = false := decide_eq_false (fun h => hc (Hle.out.2 (by omega)))
            have Hc := Lib.hid hc
            clear hc
            go_wp2_with fail
            go_big_quiet (fail)
            go_wp2_with fail
            exact ⟨⟨j + 1, by omega, by go_num, by rw [Hj.out], bw_dr hB2 _⟩, by simp [intOf]; omega⟩
        · obtain rfl : j = k := by omega
          go_wp2_with fail
          exact ⟨⟨j + 1, by omega, by go_num, by rw [Hk.out], bw_to hB hB2⟩, by simp [intOf]; omega⟩
    · obtain rfl : k = a.size := by omega
      go_wp2_with fail
      go_ret
      exact ⟨ret_bool HE.out.symm, hB⟩
set_option maxRecDepth 10000 in
set_option maxHeartbeats 2000000 in
theorem l1Even_any (a : ByteArray) (w : World) (ha : a.size ≤ 1048576) : Calls Try.prog 57 #[.string a] w fun e w' => e = .returned (.bool (evenB a)) ∧ Below w.heap.size w w' := by
  have HE : Hid (evenB a = evF true [] (a.data.toList.take a.size)) := Lib.hid (by unfold evenB; rw [List.take_of_length_le (by rw [bytes_len]; exact Nat.le_refl _)])
  go_enter Try.func57, Try.ntmps57
  go_wp2_with fail
  go_loopw [3, 4] (fun o i wr => ∃ k : Nat, k ≤ a.size ∧ i = .int .i64 k ∧ o = .bool (evF true [] (a.data.toList.take k)) ∧ Below w.heap.size w wr) (fun _ i _ => a.size - (intOf i).toNat)
  case atStart => exact ⟨0, by omega, rfl, rfl, Below.refl _ _⟩
  case round =>
    obtain ⟨k, hk, rfl, rfl, hB⟩ := hrel
    by_cases hlt : k < a.size
    · have Hk : Hid (evF true [] (a.data.toList.take (k + 1)) = inE a[k] (a.data.toList.take k) (evF true [] (a.data.toList.take k))) := Lib.hid (by rw [evF_take (by rw [bytes_len]; exact hlt), bytes_get a k hlt])
      obtain ⟨E, hE⟩ : ∃ E, E = evF true [] (a.data.toList.take k) := ⟨_, rfl⟩
      rw [← hE] at Hk ⊢
      clear hE
      go_wp2_with fail
      obtain ⟨wo, rfl⟩ : ∃ wo : World, wo = wr := ⟨_, rfl⟩
      go_loopw [3, 5] (fun o i wr => ∃ j : Nat, j ≤ k ∧ i = .int .i64 j ∧ o = .bool (inE a[k] (a.data.toList.take j) E) ∧ Below wo.heap.size wo wr) (fun _ i _ => k - (intOf i).toNat)
      case atStart => exact ⟨0, by omega, rfl, rfl, Below.refl _ _⟩
      case round =>
        obtain ⟨j, hj, rfl, rfl, hB2⟩ := hrel
        by_cases hlt2 : j < k
        · have hja : j < a.size := by omega
          have Hj : Hid (inE a[k] (a.data.toList.take (j + 1)) E = if a[k] < a[j] then !(inE a[k] (a.data.toList.take j) E) else inE a[k] (a.data.toList.take j) E) := Lib.hid (by rw [inE_take E (by rw [bytes_len]; exact hja), bytes_get a j hja])
          obtain ⟨I, hI⟩ : ∃ I, I = inE a[k] (a.data.toList.take j) E := ⟨_, rfl⟩
          rw [← hI] at Hj ⊢
          have Hle := Lib.hid (UInt8.lt_iff_toNat_lt (a := a[k]) (b := a[j]))
          clear hI
          by_cases hc : a[k] < a[j]
          · rw [if_pos hc] at Hj
            have hd : decide ((a[k].toNat : Int) < (a[j].toNat : Int)) = true := decide_eq_true (by have := Hle.out.1 hc; omega)
            have Hc := Lib.hid hc
            clear hc
            go_wp2_with fail
            go_big_quiet (fail)
            go_wp2_with fail
            exact ⟨⟨j + 1, by omega, by go_num, by rw [Hj.out], bw_dr hB2 _⟩, by simp [intOf]; omega⟩
          · rw [if_neg hc] at Hj
            have hd : decide ((a[k].toNat : Int) < (a[j].toNat : Int)) = false := decide_eq_false (fun h => hc (Hle.out.2 (by omega)))
            have Hc := Lib.hid hc
            clear hc
            go_wp2_with fail
            go_big_quiet (fail)
            go_wp2_with fail
            exact ⟨⟨j + 1, by omega, by go_num, by rw [Hj.out], bw_dr hB2 _⟩, by simp [intOf]; omega⟩
        · obtain rfl : j = k := by omega
          go_wp2_with fail
          exact ⟨⟨j + 1, by omega, by go_num, by rw [Hk.out], bw_to hB hB2⟩, by simp [intOf]; omega⟩
    · obtain rfl : k = a.size := by omega
      go_wp2_with fail
      go_ret
      exact ⟨ret_bool HE.out.symm, hB⟩
end Go.Proofs.Ytpkpahadjdkafaa

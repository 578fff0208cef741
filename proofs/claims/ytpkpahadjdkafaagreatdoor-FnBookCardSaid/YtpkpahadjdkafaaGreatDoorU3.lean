/- Contracts: the reversal and the least rotation of a touch, the program's and the reference's. -/
import Derived.Test.YtpkpahadjdkafaaGreatDoorU2
namespace Go.Proofs.YtpkpahadjdkafaaGreatDoor
open Go Go.RowKit
set_option linter.unusedVariables false
set_option linter.unusedSimpArgs false

theorem cat_nil (a : ByteArray) : a ++ (⟨#[]⟩ : ByteArray) = a := by apply ByteArray.ext; simp
theorem nil_cat (a : ByteArray) : (⟨#[]⟩ : ByteArray) ++ a = a := by apply ByteArray.ext; simp
set_option maxRecDepth 10000 in
set_option maxHeartbeats 1000000 in
theorem backwards_any (s : ByteArray) (w : World) (hs : s.size ≤ 1048576) (h1 : 1 ≤ s.size) : Calls Tryz.prog 70 #[.string s] w fun e w' => e = .returned (.string (revT s)) ∧ w = w' := by
  obtain ⟨T, hT⟩ : ∃ T, T = revT s := ⟨_, rfl⟩
  rw [← hT]
  have HT := Lib.hid hT
  clear hT
  have hw1 : IntKind.i64.wrap ((s.size : Int) - 1) = (s.size : Int) - 1 := IntWalk.i64_in _ (by omega)
  have hi0 : (0 : Int) ≤ (s.size : Int) - 1 := by omega
  have hi1 : ((s.size : Int) - 1).toNat = s.size - 1 := by omega
  go_enter Tryz.func70, Tryz.ntmps70
  go_wp2
  go_loop [3, 8] (fun o i => ∃ k : Nat, k ≤ s.size - 1 ∧ i = .int .i64 k ∧ o = .string (revTo s k)) (fun _ i => s.size - (intOf i).toNat)
  case atStart => exact ⟨0, Nat.zero_le _, rfl, rfl⟩
  case round =>
    obtain ⟨k, hk, rfl, rfl⟩ := hrel
    obtain ⟨R, hR⟩ : ∃ R, R = revTo s k := ⟨_, rfl⟩
    have hRz : R.size = k := by rw [hR]; exact revTo_size s k (by omega)
    rw [← hR]
    have HR := Lib.hid hR
    clear hR
    by_cases hlt : k < s.size - 1
    · have hltI : (k : Int) < (s.size : Int) - 1 := by omega
      have hb : ¬ 9223372036854775807 < (s.extract k (k + 1)).size + R.size := by rw [ByteArray.size_extract, hRz]; omega
      go_wp2
      exact ⟨⟨k + 1, by omega, by go_num, by rw [HR.out]; rfl⟩, by simp [intOf]; omega⟩
    · have hltI : ¬ (k : Int) < (s.size : Int) - 1 := by omega
      have hb : ¬ 9223372036854775807 < R.size + (s.extract (s.size - 1) s.size).size := by rw [ByteArray.size_extract, hRz]; omega
      obtain rfl : k = s.size - 1 := by omega
      go_wp2
      go_ret
      exact ⟨by rw [HT.out, HR.out]; rfl, rfl⟩
set_option maxRecDepth 10000 in
set_option maxHeartbeats 1000000 in
theorem l9Reverse_any (s : ByteArray) (w : World) (hs : s.size ≤ 1048576) (h1 : 1 ≤ s.size) : Calls Tryz.prog 77 #[.string s] w fun e w' => e = .returned (.string (revT s)) ∧ w = w' := by
  obtain ⟨T, hT⟩ : ∃ T, T = revT s := ⟨_, rfl⟩
  rw [← hT]
  have HT := Lib.hid hT
  clear hT
  have hw1 : IntKind.i64.wrap ((s.size : Int) - 1) = (s.size : Int) - 1 := IntWalk.i64_in _ (by omega)
  have hw2 : IntKind.i64.wrap ((s.size : Int) - 2) = (s.size : Int) - 2 := IntWalk.i64_in _ (by omega)
  have hi0 : (0 : Int) ≤ (s.size : Int) - 1 := by omega
  have hi1 : ((s.size : Int) - 1).toNat = s.size - 1 := by omega
  go_enter Tryz.func77, Tryz.ntmps77
  go_wp2
  go_loop [3, 4] (fun o i => ∃ k : Nat, ∃ O : ByteArray, k ≤ s.size - 1 ∧ i = .int .i64 ((k : Int) - 1) ∧ o = .string O ∧ O.size + k = s.size - 1 ∧ O ++ revTo s k = revTo s (s.size - 1)) (fun _ i => (intOf i + 1).toNat)
  case atStart => exact ⟨s.size - 1, ⟨#[]⟩, Nat.le_refl _, by congr 1; omega, rfl, Nat.zero_add _, nil_cat _⟩
  case round =>
    obtain ⟨k, O, hk, rfl, rfl, hz, hO⟩ := hrel
    have HO := Lib.hid hO
    clear hO
    cases k with
    | zero =>
      have hltI : ¬ (0 : Int) ≤ ((0 : Nat) : Int) - 1 := by omega
      have hb : ¬ 9223372036854775807 < O.size + (s.extract (s.size - 1) s.size).size := by rw [ByteArray.size_extract]; omega
      go_wp2
      go_ret
      refine ⟨?_, rfl⟩
      have h := HO.out
      rw [show revTo s 0 = ⟨#[]⟩ from rfl, cat_nil] at h
      rw [HT.out, h]; rfl
    | succ k =>
      have e : (((k + 1 : Nat) : Int) - 1) = (k : Int) := by omega
      rw [e]
      have hb : ¬ 9223372036854775807 < O.size + (s.extract k (k + 1)).size := by rw [ByteArray.size_extract]; omega
      have hz' : (O ++ s.extract k (k + 1)).size + k = s.size - 1 := by rw [ByteArray.size_append, ByteArray.size_extract]; omega
      have Hz := Lib.hid hz'
      clear hz' e
      go_wp2
      refine ⟨⟨k, _, by omega, by go_num, rfl, Hz.out, ?_⟩, by simp [intOf]⟩
      rw [ByteArray.append_assoc]
      exact HO.out
theorem l9Turn_any (s : ByteArray) (n : Nat) (w : World) (hs : s.size ≤ 1048576) (hn : n ≤ s.size) : Calls Tryz.prog 85 #[.string s, .int .i64 n] w fun e w' => e = .returned (.string (rotT s n)) ∧ Below w.heap.size w w' := by
  have hb : ¬ 9223372036854775807 < (s.extract n s.size).size + (s.extract 0 n).size := by rw [ByteArray.size_extract, ByteArray.size_extract]; omega
  have hn0 : (0 : Int) ≤ (n : Int) := by omega
  have hn1 : (n : Int) ≤ (s.size : Int) := by omega
  have hB := Below.refl w.heap.size w
  go_enter Tryz.func85, Tryz.ntmps85
  go_wp2
  go_big_quiet (fail)
  go_wp2
  go_ret
  exact ⟨rfl, bw_dr hB _⟩
set_option maxRecDepth 10000 in
set_option maxHeartbeats 1000000 in
theorem leastTurn_one (s : ByteArray) (w : World) (hs : s.size ≤ 1048576) : Calls Tryz.prog 57 #[.string s, .bool false] w fun e w' => e = .returned (.string (leastT s)) ∧ Below w.heap.size w w' := by
  have hmx : ∀ (w : World) (ts : Array TypeId) (t : TypeId) (x y : ByteArray), (Builtin.min_ ts t #[.string x, .string y]).run Tryz.prog w = .ok (.string (Lib.minS x y)) w := Lib.run_min_strs
  go_enter Tryz.func57, Tryz.ntmps57
  go_wp2
  go_loopw [5, 10] (fun o i wr => ∃ k : Nat, k ≤ s.size ∧ i = .int .i64 k ∧ o = .string (leastTo s k) ∧ Below w.heap.size w wr) (fun _ i _ => s.size - (intOf i).toNat)
  case atStart => exact ⟨0, Nat.zero_le _, rfl, rfl, Below.refl _ _⟩
  case round =>
    obtain ⟨k, hk, rfl, rfl, hB⟩ := hrel
    obtain ⟨R, hR⟩ : ∃ R, R = leastTo s k := ⟨_, rfl⟩
    rw [← hR]
    have HR := Lib.hid hR
    clear hR
    by_cases hlt : k < s.size
    · have hb : ¬ 9223372036854775807 < (s.extract k s.size).size + (s.extract 0 k).size := by rw [ByteArray.size_extract, ByteArray.size_extract]; omega
      have hn0 : (0 : Int) ≤ (k : Int) := by omega
      have hn1 : (k : Int) ≤ (s.size : Int) := by omega
      go_wp2
      go_big_quiet (fail)
      go_wp2
      exact ⟨⟨k + 1, by omega, by go_num, by rw [HR.out, leastTo_succ]; rfl, bw_dr hB _⟩, by simp [intOf]; omega⟩
    · obtain rfl : k = s.size := by omega
      go_wp2
      go_ret
      exact ⟨by rw [HR.out]; rfl, hB⟩
set_option maxRecDepth 10000 in
set_option maxHeartbeats 1000000 in
theorem leastTurn_any (s : ByteArray) (w : World) (hs : s.size ≤ 1048576) (h1 : 1 ≤ s.size) : Calls Tryz.prog 57 #[.string s, .bool true] w fun e w' => e = .returned (.string (leastB s true)) ∧ Below w.heap.size w w' := by
  have hmx : ∀ (w : World) (ts : Array TypeId) (t : TypeId) (x y : ByteArray), (Builtin.min_ ts t #[.string x, .string y]).run Tryz.prog w = .ok (.string (Lib.minS x y)) w := Lib.run_min_strs
  have Hrev := Lib.hid (fun w' => backwards_any s w' hs h1)
  have Hone := Lib.hid (fun w' => leastTurn_one (revT s) w' (by rw [rev_size h1]; exact hs))
  go_enter Tryz.func57, Tryz.ntmps57
  go_wp2
  go_loopw [5, 10] (fun o i wr => ∃ k : Nat, k ≤ s.size ∧ i = .int .i64 k ∧ o = .string (leastTo s k) ∧ Below w.heap.size w wr) (fun _ i _ => s.size - (intOf i).toNat)
  case atStart => exact ⟨0, Nat.zero_le _, rfl, rfl, Below.refl _ _⟩
  case round =>
    obtain ⟨k, hk, rfl, rfl, hB⟩ := hrel
    obtain ⟨R, hR⟩ : ∃ R, R = leastTo s k := ⟨_, rfl⟩
    rw [← hR]
    have HR := Lib.hid hR
    clear hR
    by_cases hlt : k < s.size
    · have hb : ¬ 9223372036854775807 < (s.extract k s.size).size + (s.extract 0 k).size := by rw [ByteArray.size_extract, ByteArray.size_extract]; omega
      have hn0 : (0 : Int) ≤ (k : Int) := by omega
      have hn1 : (k : Int) ≤ (s.size : Int) := by omega
      go_wp2
      go_big_quiet (fail)
      go_wp2
      exact ⟨⟨k + 1, by omega, by go_num, by rw [HR.out, leastTo_succ]; rfl, bw_dr hB _⟩, by simp [intOf]; omega⟩
    · obtain rfl : k = s.size := by omega
      go_wp2_with (first | (go_at_call 57; refine (Hone.out _).mono ?_; rintro e w1 ⟨rfl, hb1⟩) | (go_at_call 70; refine (Hrev.out _).mono ?_; rintro e w2 ⟨rfl, rfl⟩))
      go_ret
      exact ⟨by rw [HR.out]; rfl, bw_to hB hb1⟩
set_option maxRecDepth 10000 in
set_option maxHeartbeats 1000000 in
theorem l9Least_any (s : ByteArray) (w : World) (hs : s.size ≤ 1048576) (ha : Asc s) : Calls Tryz.prog 76 #[.string s] w fun e w' => e = .returned (.string (leastT s)) ∧ Below w.heap.size w w' := by
  obtain ⟨T, hT⟩ : ∃ T, T = leastT s := ⟨_, rfl⟩
  rw [← hT]
  have HT := Lib.hid hT
  clear hT
  have Ha := Lib.hid (fun (k : Nat) (hk : k < s.size) => ha.at_ hk)
  clear ha
  have hk0 := World.iter_heap w s 0
  have hb0 : Below w.heap.size w (w.iter s 0) := (Below.refl _ w).alloc (Nat.le_refl _) _
  go_enter Tryz.func76, Tryz.ntmps76
  go_wp2
  go_loopw [3] (fun o wr => ∃ k : Nat, k ≤ s.size ∧ wr.heap[w.heap.size]? = some (.stringIter s k) ∧ o = .string (leastTo s k) ∧ Below w.heap.size w wr) (fun _ wr => s.size - wr.iterPos w.heap.size)
  case atStart => exact ⟨0, Nat.zero_le _, hk0, rfl, hb0⟩
  case round =>
    obtain ⟨k, hk, hit, rfl, hB⟩ := hrel
    clear hk0 hb0
    obtain ⟨R, hR⟩ : ∃ R, R = leastTo s k := ⟨_, rfl⟩
    rw [← hR]
    have HR := Lib.hid hR
    clear hR
    by_cases hlt : k < s.size
    · have h128 := Ha.out k hlt
      have hnext : ∀ ty, (Instr.next (.pointer (some ⟨w.heap.size, 0, none⟩)) true ty).run Tryz.prog wr = _ := fun ty => Lib.run_next_ascii_at wr w.heap.size s k ty hit hlt h128
      have hk1 := Lib.iterAt_heap wr w.heap.size s k (k + 1) hit
      have hB1 : Below w.heap.size w (wr.iterAt w.heap.size s (k + 1)) := Lib.below_iterAt hB (Nat.le_refl _) s (k + 1)
      have hmu : wr.iterPos w.heap.size = k := by simp [World.iterPos, hit]
      have Hmu := Lib.hid hmu
      generalize wr.iterAt w.heap.size s (k + 1) = W1 at hnext hk1 hB1
      have hW : w.heap.size < W1.heap.size := (Array.getElem?_eq_some_iff.1 hk1).1
      clear hit hB hmu h128
      cases hc : Op.bytesLess (rotT s k).toList R.toList
      · go_wp2_with (go_at_call 85; refine (l9Turn_any s k W1 hs hk).mono ?_; rintro e W2 ⟨rfl, hb2⟩)
        have hk2 : W2.heap[w.heap.size]? = some (.stringIter s (k + 1)) := (hb2.block _ hW).trans hk1
        refine ⟨⟨k + 1, by omega, hk2, ?_, bw_to hB1 hb2⟩, ?_⟩
        · rw [leastTo_succ, ← HR.out, ← minS_lt, hc]; rfl
        · have hmu2 : W2.iterPos w.heap.size = k + 1 := by simp [World.iterPos, hk2]
          rw [Hmu.out, hmu2]; omega
      · go_wp2_with (go_at_call 85; refine (l9Turn_any s k W1 hs hk).mono ?_; rintro e W2 ⟨rfl, hb2⟩)
        have hk2 : W2.heap[w.heap.size]? = some (.stringIter s (k + 1)) := (hb2.block _ hW).trans hk1
        refine ⟨⟨k + 1, by omega, hk2, ?_, bw_to hB1 hb2⟩, ?_⟩
        · rw [leastTo_succ, ← HR.out, ← minS_lt, hc]; rfl
        · have hmu2 : W2.iterPos w.heap.size = k + 1 := by simp [World.iterPos, hk2]
          rw [Hmu.out, hmu2]; omega
    · have hnext : ∀ ty, (Instr.next (.pointer (some ⟨w.heap.size, 0, none⟩)) true ty).run Tryz.prog wr = _ := fun ty => Lib.run_next_end_at wr w.heap.size s k ty hit hlt
      obtain rfl : k = s.size := by omega
      go_wp2
      go_ret
      exact ⟨by rw [HT.out, HR.out]; rfl, hB⟩
theorem LeastTurn_any (s : ByteArray) (w : World) (hg : touchB s.data.toList = true) : Calls Tryz.prog 64 #[.string s, .bool true] w fun e w' => e = .returned (.tuple #[.string (leastB s true), .bool true]) ∧ Below w.heap.size w w' := by
  obtain ⟨h1, h2⟩ := touch_size hg
  have hB := Below.refl w.heap.size w
  have Hg := Lib.hid hg
  have Hr := Lib.hid (fun w' => l9Reverse_any s w' (by omega) h1)
  have Ha := Lib.hid (fun w' => l9Least_any s w' (by omega) (touch_asc hg))
  have Hb := Lib.hid (fun w' => l9Least_any (revT s) w' (by rw [rev_size h1]; omega) (touch_asc hg).rev)
  have Hgd := Lib.hid (fun w' => l9Good_any s w' (by unfold maxLen; omega))
  clear hg
  obtain ⟨x, hx⟩ : ∃ x, x = leastT s := ⟨_, rfl⟩
  obtain ⟨y, hy⟩ : ∃ y, y = leastT (revT s) := ⟨_, rfl⟩
  have hm := minS_lt x y
  have hl : leastB s true = Lib.minS x y := by rw [hx, hy]; rfl
  rw [hl]
  rw [← hx] at Ha
  rw [← hy] at Hb
  have Hm := Lib.hid hm
  clear hm hl hx hy
  cases hc : Op.bytesLess y.toList x.toList
  · go_enter Tryz.func64, Tryz.ntmps64
    go_wp2_with (first
      | (go_at_call 76; (have o := hb1); refine (Hb.out _).mono ?_; rintro e w2 ⟨rfl, hb2⟩)
      | (go_at_call 76; refine (Ha.out _).mono ?_; rintro e w1 ⟨rfl, hb1⟩)
      | (go_at_call 62; refine (Hgd.out _).mono ?_; rintro e w0 ⟨rfl, rfl⟩; rw [Hg.out])
      | (go_at_call 77; refine (Hr.out _).mono ?_; rintro e w3 ⟨rfl, rfl⟩))
    go_ret2
    refine ⟨?_, bw_to (bw_to hB hb1) hb2⟩
    rw [← Hm.out, hc]; rfl
  · go_enter Tryz.func64, Tryz.ntmps64
    go_wp2_with (first
      | (go_at_call 76; (have o := hb1); refine (Hb.out _).mono ?_; rintro e w2 ⟨rfl, hb2⟩)
      | (go_at_call 76; refine (Ha.out _).mono ?_; rintro e w1 ⟨rfl, hb1⟩)
      | (go_at_call 62; refine (Hgd.out _).mono ?_; rintro e w0 ⟨rfl, rfl⟩; rw [Hg.out])
      | (go_at_call 77; refine (Hr.out _).mono ?_; rintro e w3 ⟨rfl, rfl⟩))
    go_ret2
    refine ⟨?_, bw_to (bw_to hB hb1) hb2⟩
    rw [← Hm.out, hc]; rfl
end Go.Proofs.YtpkpahadjdkafaaGreatDoor

/- Contracts of the reference: the rank of a row, what is seen, the group that rows generate. -/
import Derived.Test.YtjiiflpoiaaccaaGreatPk18
import Derived.Test.YtjiiflpoiaaccaaGreatPk21
namespace Go.Proofs.YtjiiflpoiaaccaaGreat
open Go Go.RowKit
set_option linter.unusedVariables false
set_option linter.unusedSimpArgs false

theorem fact_le {n : Nat} (h : n ≤ 8) : factB n ≤ 40320 := by
  have : n = 0 ∨ n = 1 ∨ n = 2 ∨ n = 3 ∨ n = 4 ∨ n = 5 ∨ n = 6 ∨ n = 7 ∨ n = 8 := by omega
  rcases this with rfl | rfl | rfl | rfl | rfl | rfl | rfl | rfl | rfl <;> decide
set_option maxHeartbeats 1000000 in
theorem l1Fact_any (n : Nat) (w : World) (hn : n ≤ 8) : Calls Tryz.prog 230 #[.int .i64 n] w fun e w' => e = .returned (.int .i64 (factB n : Int)) ∧ w = w' := by
  have hf := fact_le hn
  go_enter Tryz.func230, Tryz.ntmps230
  go_wp2_with fail
  go_loop [0, 3] (fun i o => ∃ m k : Nat, m ≤ n ∧ i = .int .i64 m ∧ o = .int .i64 k ∧ k * factB m = factB n) (fun i _ => (intOf i).toNat)
  case atStart => exact ⟨n, 1, by omega, rfl, rfl, by omega⟩
  case round =>
    obtain ⟨m, k, hm, rfl, rfl, hk⟩ := hrel
    have hk2 : k ≤ 40320 := by
      have h1 := fact_pos m
      have : k * 1 ≤ k * factB m := Nat.mul_le_mul_left _ h1
      omega
    by_cases hlt : 1 < m
    · obtain ⟨j, rfl⟩ : ∃ j, m = j + 1 := ⟨m - 1, by omega⟩
      have hkm : k * (j + 1) ≤ 40320 * 8 := Nat.mul_le_mul hk2 (by omega)
      have hw1 : IntKind.i64.wrap ((k : Int) * ((j : Int) + 1)) = ((k * (j + 1) : Nat) : Int) := by
        have e : (k : Int) * ((j : Int) + 1) = ((k * (j + 1) : Nat) : Int) := by simp
        rw [e]
        exact IntWalk.i64_in _ ⟨by omega, by omega⟩
      have hd : decide ((1 : Int) < (j : Int) + 1) = true := decide_eq_true (by omega)
      have Hk : Hid (k * (j + 1) * factB j = factB n) := Lib.hid (by rw [← hk, factB, Nat.mul_assoc])
      clear hk hkm
      go_wp2_with fail
      exact ⟨⟨j, k * (j + 1), by omega, by go_num, by first | rfl | simp, Hk.out⟩, by simp [intOf] <;> omega⟩
    · have hd : decide ((1 : Int) < (m : Int)) = false := decide_eq_false (by omega)
      have hk1 : k = factB n := by
        have : m = 0 ∨ m = 1 := by omega
        rcases this with rfl | rfl
        · simpa [factB] using hk
        · simpa [factB] using hk
      have Hk := Lib.hid hk1
      clear hk hk1
      go_wp2_with fail
      go_ret
      exact ⟨ret_int (by rw [Hk.out]), rfl⟩
/-- A row of truths in block g. -/
def SB (W : World) (base g N : Nat) (f : Nat → Bool) : Prop := W.ownsRow base 4 1 (.slice (some ⟨g, 0, none⟩) N N) N ((List.range N).map fun i => Value.bool (f i))
theorem SB.cell {W : World} {base g N : Nat} {f : Nat → Bool} (h : SB W base g N f) {i : Nat} (hi : i < N) : W.cell? ⟨g, i, none⟩ = some (.bool (f i)) := by
  rw [h.cellAt i (by omega), List.getElem?_map, List.getElem?_eq_getElem (by simpa using hi)]; simp
theorem SB.free {W : World} {base g N : Nat} {f : Nat → Bool} (h : SB W base g N f) (i : Nat) : W.frozen? ⟨g, i, none⟩ = false := h.frozenAt i
theorem SB.to {W W' : World} {base g N : Nat} {f : Nat → Bool} (h : SB W base g N f) (hb : Below W.heap.size W W') : SB W' base g N f := own_to h hb
theorem SB.set {W : World} {base g N : Nat} {f : Nat → Bool} (h : SB W base g N f) {i : Nat} (hi : i < N) : SB (W.setCell ⟨g, i, none⟩ (.bool true)) base g N (fun j => if j = i then true else f j) := by
  have h2 := own_set h i (.bool true)
  unfold SB
  have e : ((List.range N).map fun j => Value.bool (f j)).set i (.bool true) = (List.range N).map fun j => Value.bool (if j = i then true else f j) := by
    apply List.ext_getElem?
    intro j
    rw [List.getElem?_set, List.getElem?_map, List.getElem?_map]
    simp only [List.length_map, List.length_range]
    by_cases hij : i = j
    · subst hij
      rw [if_pos rfl, if_pos hi, List.getElem?_eq_getElem (by simpa using hi)]
      simp
    · rw [if_neg hij]
      by_cases hj : j < N
      · rw [List.getElem?_eq_getElem (by simpa using hj)]
        simp only [Option.map_some, List.getElem_range]
        rw [if_neg (fun e => hij e.symm)]
      · rw [List.getElem?_eq_none (by simpa using hj)]; rfl
  rw [← e]
  exact h2
theorem SB.lt {W : World} {base g N : Nat} {f : Nat → Bool} (h : SB W base g N f) : base ≤ g ∧ g < W.heap.size := World.ownsRow.lt h g rfl
theorem info_bool : (Tryz.prog.info? 4).map (fun i => (i.zero, i.size, i.bytes)) = some (some (.bool false), 1, 1) := by kernel_rfl
set_option maxHeartbeats 1000000 in
theorem l6Seen_any (n : Nat) (w : World) (hn : n ≤ 8) : Calls Tryz.prog 136 #[.int .i64 n] w fun e w' => e = .returned (.slice (some ⟨w.heap.size, 0, none⟩) (factB n) (factB n)) ∧ SB w' w.heap.size w.heap.size (factB n) (fun _ => false) ∧ Below w.heap.size w w' := by
  obtain ⟨i0, hi0, hz0, hs0, hb0⟩ := info_parts info_bool
  have hf := fact_le hn
  go_enter Tryz.func136, Tryz.ntmps136
  go_wp2_with (first | (go_at_call 230; refine (l1Fact_any n _ hn).mono ?_; rintro e w' ⟨rfl, rfl⟩) | (at_make; refine wpList_make_full _ rfl _ _ _ rfl w.heap.size 4 i0 _ 1 Tryz.underlying41 hi0 hz0 hs0 _ _ _ _ (factB n) rfl rfl rfl rfl (by rw [hb0]; omega) (by unfold maxLen; omega) (Nat.le_refl _) ?_; intro w1 hown1 hgr1))
  have hB1 := bw_gr (Below.refl _ _) hgr1
  have h2 : SB w1 w.heap.size w.heap.size (factB n) (fun _ => false) := by
    rw [Nat.mul_one] at hown1
    unfold SB
    have e : (madeCells (Value.bool false).cells (factB n)).toList = (List.range (factB n)).map fun _ => Value.bool false := by
      have e2 := made_rep (.bool false) (factB n)
      rw [show (Value.bool false).cells = #[.bool false] from rfl, e2]
      apply List.ext_getElem?
      intro i
      rw [List.getElem?_map]
      by_cases hi : i < factB n
      · rw [List.getElem?_eq_getElem (by simpa using hi), List.getElem?_eq_getElem (by simpa using hi)]; simp
      · rw [List.getElem?_eq_none (by simpa using hi), List.getElem?_eq_none (by simpa using hi)]; rfl
    rw [← e]; exact hown1
  have H2 := Lib.hid h2
  clear hown1 h2
  go_wp2_with fail
  go_ret
  exact ⟨rfl, H2.out, hB1⟩
theorem lessN_step {l : List UInt8} {i j : Nat} (hij : i < j) (hj : j < l.length) (x : UInt8) : lessN x ((l.take (j + 1)).drop (i + 1)) = lessN x ((l.take j).drop (i + 1)) + (if l[j] < x then 1 else 0) := by
  unfold lessN
  rw [List.take_succ_eq_append_getElem hj, List.drop_append_of_le_length (by rw [List.length_take]; omega), List.countP_append]
  simp [List.countP_cons]
set_option maxRecDepth 10000 in
set_option maxHeartbeats 4000000 in
theorem l1Place_any (n : Nat) (a : ByteArray) (w : World) (hn : n ≤ 8) (ha : PermR n a) : Calls Tryz.prog 138 #[.string a] w fun e w' => e = .returned (.int .i64 (placeB a : Int)) ∧ Below w.heap.size w w' := by
  have hl : a.data.toList.length = n := by rw [ha.length_eq, roundsL_len]
  have hsz : a.size = n := by rw [← bytes_len, hl]
  have hpl := place_lt ha
  have hfl := fact_le hn
  have Hl := Lib.hid hl
  obtain ⟨V, hV⟩ : ∃ V, V = placeB a := ⟨_, rfl⟩
  rw [← hV] at hpl
  have HV : Hid (V = placeF 0 a.data.toList) := Lib.hid hV
  rw [← hV]
  clear hl ha hV
  go_enter Tryz.func138, Tryz.ntmps138
  go_wp2_with fail
  go_loopw [3, 4] (fun o i wr => ∃ k K : Nat, k ≤ n ∧ i = .int .i64 k ∧ o = .int .i64 K ∧ placeF K (a.data.toList.drop k) = V ∧ Below w.heap.size w wr) (fun _ i _ => n - (intOf i).toNat)
  case atStart => exact ⟨0, 0, by omega, rfl, rfl, HV.out.symm, Below.refl _ _⟩
  case round =>
    obtain ⟨k, K, hk, rfl, rfl, hpf, hB⟩ := hrel
    have hKb : K ≤ 40320 := by
      rw [placeF_add] at hpf
      have h1 := fact_pos (a.data.toList.drop k).length
      have : K * 1 ≤ K * factB (a.data.toList.drop k).length := Nat.mul_le_mul_left _ h1
      omega
    by_cases hlt : k < n
    · have hka : k < a.size := by rw [hsz]; exact hlt
      have hkl : k < a.data.toList.length := by rw [Hl.out]; exact hlt
      have Hpf : Hid (placeF (K * (n - k) + lessN a[k] (a.data.toList.drop (k + 1))) (a.data.toList.drop (k + 1)) = V) := Lib.hid (by
        rw [← hpf, List.drop_eq_getElem_cons hkl, placeF, bytes_get a k hka]
        congr 3
        rw [List.length_drop, Hl.out]; omega)
      have hll := lessN_le a[k] (a.data.toList.drop (k + 1))
      rw [List.length_drop, Hl.out] at hll
      obtain ⟨lt, hlt'⟩ : ∃ x, x = lessN a[k] (a.data.toList.drop (k + 1)) := ⟨_, rfl⟩
      rw [← hlt'] at Hpf hll
      have Hfin : Hid (lessN a[k] ((a.data.toList.take n).drop (k + 1)) = lt) := Lib.hid (by rw [hlt', ← Hl.out, List.take_length])
      have H0 : Hid (lessN a[k] ((a.data.toList.take (k + 1)).drop (k + 1)) = 0) := Lib.hid (by rw [List.drop_of_length_le (by rw [List.length_take]; omega)]; rfl)
      clear hpf hlt'
      go_wp2_with fail
      obtain ⟨wo, rfl⟩ : ∃ wo : World, wo = wr := ⟨_, rfl⟩
      go_loopw [5, 6] (fun o i wr => ∃ j c : Nat, k + 1 ≤ j ∧ j ≤ n ∧ i = .int .i64 j ∧ o = .int .i64 c ∧ lessN a[k] ((a.data.toList.take j).drop (k + 1)) = c ∧ c ≤ j ∧ Below wo.heap.size wo wr) (fun _ i _ => n - (intOf i).toNat)
      case atStart => exact ⟨k + 1, 0, by omega, by omega, by go_num, rfl, H0.out, by omega, Below.refl _ _⟩
      case round =>
        obtain ⟨j, c, hj1, hj, rfl, rfl, hc, hcj, hB2⟩ := hrel
        by_cases hlt2 : j < n
        · have hja : j < a.size := by omega
          have Hst : Hid (lessN a[k] ((a.data.toList.take (j + 1)).drop (k + 1)) = c + (if a[j] < a[k] then 1 else 0)) := Lib.hid (by rw [lessN_step (by omega) (by rw [Hl.out]; exact hlt2), hc, bytes_get a j hja])
          have Hle := Lib.hid (UInt8.lt_iff_toNat_lt (a := a[j]) (b := a[k]))
          clear hc
          by_cases hcc : a[j] < a[k]
          · rw [if_pos hcc] at Hst
            have hd : decide ((a[j].toNat : Int) < (a[k].toNat : Int)) = true := decide_eq_true (by have := Hle.out.1 hcc; omega)
            have Hc := Lib.hid hcc
            clear hcc
            go_wp2_with fail
            go_big_quiet (fail)
            go_wp2_with fail
            exact ⟨⟨j + 1, c + 1, by omega, by omega, by go_num, by go_num, Hst.out, by omega, bw_dr hB2 _⟩, by simp [intOf]; omega⟩
          · rw [if_neg hcc] at Hst
            have hd : decide ((a[j].toNat : Int) < (a[k].toNat : Int)) = false := decide_eq_false (fun h => hcc (Hle.out.2 (by omega)))
            have Hc := Lib.hid hcc
            clear hcc
            go_wp2_with fail
            go_big_quiet (fail)
            go_wp2_with fail
            exact ⟨⟨j + 1, c, by omega, by omega, by go_num, by go_num, Hst.out, by omega, bw_dr hB2 _⟩, by simp [intOf]; omega⟩
        · obtain rfl : j = n := by omega
          have hcl : c = lt := by rw [← hc]; exact Hfin.out
          have Hcl := Lib.hid hcl
          have hmul : K * (j - k) ≤ 40320 * 8 := Nat.mul_le_mul hKb (by omega)
          have hs1 : (j : Int) - (k : Int) = ((j - k : Nat) : Int) := by omega
          have hw1 : IntKind.i64.wrap ((K : Int) * ((j : Int) - (k : Int))) = ((K * (j - k) : Nat) : Int) := by
            rw [hs1, show (K : Int) * ((j - k : Nat) : Int) = ((K * (j - k) : Nat) : Int) by simp]
            exact IntWalk.i64_in _ ⟨by omega, by omega⟩
          have hw2 : IntKind.i64.wrap (((K * (j - k) : Nat) : Int) + (c : Int)) = ((K * (j - k) + c : Nat) : Int) := by
            rw [show ((K * (j - k) : Nat) : Int) + (c : Int) = ((K * (j - k) + c : Nat) : Int) by simp]
            exact IntWalk.i64_in _ ⟨by omega, by omega⟩
          have Hpf2 : Hid (placeF (K * (j - k) + c) (a.data.toList.drop (k + 1)) = V) := Lib.hid (by rw [hcl]; exact Hpf.out)
          obtain ⟨M, hM⟩ : ∃ M, M = K * (j - k) + c := ⟨_, rfl⟩
          rw [← hM] at hw2 Hpf2
          obtain ⟨M0, hM0⟩ : ∃ M0, M0 = K * (j - k) := ⟨_, rfl⟩
          rw [← hM0] at hw1 hw2
          clear hc hcl hmul hs1 hM hM0 Hpf Hfin H0
          go_wp2_with fail
          exact ⟨⟨k + 1, M, by omega, by go_num, by first | rfl | (simp [hw1, hw2]), Hpf2.out, bw_to hB hB2⟩, by simp [intOf]; omega⟩
    · obtain rfl : k = n := by omega
      rw [List.drop_of_length_le (by rw [Hl.out]; exact Nat.le_refl _)] at hpf
      have Hp : Hid (K = V) := Lib.hid hpf
      clear hpf
      go_wp2_with fail
      go_ret
      exact ⟨ret_int (by rw [Hp.out]), hB⟩
end Go.Proofs.YtjiiflpoiaaccaaGreat

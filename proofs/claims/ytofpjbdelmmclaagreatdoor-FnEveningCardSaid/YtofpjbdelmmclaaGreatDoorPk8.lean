/- Contracts: the set of a mask; the best choice. -/
import Derived.Test.YtofpjbdelmmclaaGreatDoorPk7
import Derived.Test.YtofpjbdelmmclaaGreatDoorPk1
namespace Go.Proofs.YtofpjbdelmmclaaGreatDoor
open Go Go.RowKit
set_option linter.unusedVariables false
set_option linter.unusedSimpArgs false

theorem info_int3 : (Tryz.prog.info? 3).map (fun i => (i.zero, i.size, i.bytes)) = some (some (.int .i64 0), 1, 8) := by kernel_rfl
theorem mask_lt {n mask k : Nat} (hm : mask < 2 ^ n) (h : 0 < (mask : Int) / 2 ^ k) : k < n := by
  rcases Nat.lt_or_ge k n with hlt | hge
  · exact hlt
  · exfalso
    have h2 : mask < 2 ^ k := Nat.lt_of_lt_of_le hm (Nat.pow_le_pow_right (by omega) hge)
    have h3 : (mask : Int) / 2 ^ k = 0 := Int.ediv_eq_zero_of_lt (by omega) (by have := Int.ofNat_lt.2 h2; rwa [Int.natCast_pow] at this)
    omega
theorem mask_small {mask k : Nat} (h : ¬ 0 < (mask : Int) / 2 ^ k) : mask < 2 ^ k := by
  have e : (mask : Int) / 2 ^ k = ((mask / 2 ^ k : Nat) : Int) := by rw [Int.natCast_ediv, Int.natCast_pow]; rfl
  rw [e] at h
  have : mask / 2 ^ k = 0 := by
    rcases Nat.eq_zero_or_pos (mask / 2 ^ k) with h0 | h0
    · exact h0
    · exact absurd (Int.ofNat_lt.2 h0) h
  rcases Nat.div_eq_zero_iff.1 this with h0 | h0
  · exact absurd h0 (by have := Nat.two_pow_pos k; omega)
  · exact h0
theorem maskL_end {n mask k : Nat} (hm : mask < 2 ^ n) (h : ¬ 0 < (mask : Int) / 2 ^ k) (hk : k ≤ n) : maskL n mask = maskL k mask := maskL_more (mask_small h) n hk
set_option maxHeartbeats 1000000 in
theorem l1Set_any (n mask : Nat) (w : World) (hm : mask < 2 ^ n) (hn : n ≤ 10) : Calls Tryz.prog 86 #[.int .i64 mask] w fun e w' =>
    ∃ r : Value, e = .returned r ∧ w'.ownsRow w.heap.size 3 1 r (maskL n mask).length ((maskL n mask).map (Value.int .i64)) ∧ Below w.heap.size w w' := by
  obtain ⟨i0, hi0, hz0, hs0, hb0⟩ := info_parts info_int3
  have hm63 : mask < 9223372036854775808 := Nat.lt_of_lt_of_le hm (Nat.le_trans (Nat.pow_le_pow_right (by omega) hn) (by omega))
  go_enter Tryz.func86, Tryz.ntmps86
  go_wp2_with fail
  go_loopw [3, 4] (fun v i wr => ∃ k : Nat, k ≤ n ∧ i = .int .i64 k ∧ wr.ownsRow w.heap.size 3 1 v (maskL k mask).length ((maskL k mask).map (Value.int .i64)) ∧ Below w.heap.size w wr) (fun _ i _ => n - (intOf i).toNat)
  case atStart => exact ⟨0, by omega, rfl, World.ownsRow_nil _ _ _ _, Below.refl _ _⟩
  case round =>
    obtain ⟨k, hk, rfl, hown, hB⟩ := hrel
    by_cases hpos : 0 < (mask : Int) / 2 ^ k
    · have hkn : k < n := mask_lt hm hpos
      have hbt := bit_test mask k hm63
      cases htb : mask.testBit k
      · rw [htb] at hbt
        have Hs := Lib.hid (maskL_succ k mask)
        have Htb := Lib.hid htb
        clear htb
        go_wp2_with fail
        refine ⟨⟨k + 1, by omega, by go_num, ?_, hB⟩, by simp [intOf]; omega⟩
        rw [Hs.out, Htb.out]
        simpa using hown
      · rw [htb] at hbt
        have Hs := Lib.hid (maskL_succ k mask)
        have Htb := Lib.hid htb
        clear htb
        have hml := maskL_length k mask
        go_wp2_with (at_builtin; go_must (refine wpList_app wr rfl _ _ _ rfl w.heap.size 3 _ 1 8 Tryz.underlying40 info_int3 rfl (by omega) hown [.int .i64 k] rfl rfl rfl (one_mem rfl) (by omega) (by omega) hB.size ?_); intro v2 w2 hown2 hb2 _ _)
        refine ⟨⟨k + 1, by omega, by go_num, ?_, hB.trans hb2⟩, by simp [intOf]; omega⟩
        rw [Hs.out, Htb.out]
        simpa using hown2
    · have H := Lib.hid (maskL_end hm hpos hk)
      clear hm
      go_wp2_with fail
      go_ret
      exact ⟨_, rfl, by rw [H.out]; exact hown, hB⟩
theorem l30Choice_as {a b c d : Int} {v u : Value} {xs : List It} {ch : List Int} {w : World} {r : Bool} (hr : choiceOk a b c d xs ch = r) (hv : Items w v xs) (hu : Ints w u ch) :
    Calls Tryz.prog 59 #[.agg #[.int .i64 a, .int .i64 b, .int .i64 c, .int .i64 d], v, u] w fun e w' => e = .returned (.bool r) ∧ Below w.heap.size w w' := by subst hr; exact l30Choice_any _ _ _ _ _ _ _ _ _ hv hu
theorem l30Better_as {a b c d : Int} {v p q : Value} {xs : List It} {x y : List Int} {w : World} {r : Bool} (hr : betterB b d xs x y = r) (hv : Items w v xs) (hp : Ints w p x) (hq : Ints w q y)
    (he : evB a b c d = true) (hx : itemsB xs = true) (hcx : choiceB a xs x = true) (hcy : choiceB a xs y = true) :
    Calls Tryz.prog 87 #[.agg #[.int .i64 a, .int .i64 b, .int .i64 c, .int .i64 d], v, p, q] w fun e w' => e = .returned (.bool r) ∧ Below w.heap.size w w' := by subst hr; exact l30Better_any _ _ _ _ _ _ _ _ _ _ _ hv hp hq he hx hcx hcy
theorem pow_wrap {n : Nat} (h : n ≤ 10) : wrap64 ((2 : Int) ^ n) = ((2 ^ n : Nat) : Int) := by
  have h1 : 2 ^ n ≤ 1024 := Nat.le_trans (Nat.pow_le_pow_right (by omega) h) (by omega)
  rw [Int.natCast_pow]
  exact IntWalk.wrap64_in _ ⟨by have : (0 : Int) ≤ 2 ^ n := Int.pow_nonneg (by omega); omega, by have := Int.ofNat_le.2 h1; rw [Int.natCast_pow] at this; simp at this; omega⟩
set_option maxHeartbeats 2000000 in
theorem l30Best_any (a b c d : Int) (v : Value) (xs : List It) (w : World) (hv : Items w v xs) (he : evB a b c d = true) (hx : itemsB xs = true) :
    Calls Tryz.prog 55 #[.agg #[.int .i64 a, .int .i64 b, .int .i64 c, .int .i64 d], v] w fun e w' =>
      ∃ r : Value, e = .returned r ∧ w'.ownsRow w.heap.size 3 1 r (bestTo a b c d xs (2 ^ xs.length)).length ((bestTo a b c d xs (2 ^ xs.length)).map (Value.int .i64)) ∧ Below w.heap.size w w' := by
  have hv0 := hv
  obtain ⟨⟨A, c1, rfl, h1, h2, hr⟩, hg⟩ := hv
  unfold maxLen at h2
  have hlen : xs.length ≤ 10 := by have := hx; simp only [itemsB, Bool.and_eq_true, decide_eq_true_eq] at this; exact this.2
  have Hx := Lib.hid hx
  have He := Lib.hid he
  clear hx he
  have hwr : wrap64 ((2 : Int) ^ xs.length) = ((2 ^ xs.length : Nat) : Int) := pow_wrap hlen
  have hN : 1 ≤ 2 ^ xs.length ∧ 2 ^ xs.length ≤ 1024 := ⟨Nat.one_le_two_pow, Nat.le_trans (Nat.pow_le_pow_right (by omega) hlen) (by omega)⟩
  obtain ⟨N, hNe⟩ : ∃ N, N = 2 ^ xs.length := ⟨_, rfl⟩
  rw [← hNe] at hwr hN ⊢
  have HN := Lib.hid hNe
  clear hNe
  go_enter Tryz.func55, Tryz.ntmps55
  go_wp2_with fail
  refine box1 (C := fun W => Code.wp _ _ _ _ W) ?_
  intro wb hw k1 hB0
  have R1 := boxRule k1
  clear k1
  go_loopw [5, 6] (fun s i wr => ∃ m : Nat, 1 ≤ m ∧ m ≤ N ∧ i = .int .i64 m ∧ wr.ownsRow w.heap.size 3 1 s (bestTo a b c d xs m).length ((bestTo a b c d xs m).map (Value.int .i64)) ∧ Below wb.heap.size wb wr) (fun _ i _ => N - (intOf i).toNat)
  case atStart => exact ⟨1, by omega, by omega, rfl, by rw [bestTo_one]; exact World.ownsRow_nil _ _ _ _, hB0⟩
  case round =>
    obtain ⟨m, hm1, hm, rfl, hown, hB⟩ := hrel
    have hBw := bw_to hw hB
    by_cases hlt : m < N
    · go_wp2_with fail
      refine (l1Set_any xs.length m _ (by have := HN.out; omega) hlen).mono ?_; rintro e w2 ⟨u, rfl, hown2, hb2⟩
      have hB2 := bw_to hB hb2
      have R2 : ∀ (w' : World) (i : Nat), Below w2.heap.size w2 w' → w'.cell? ⟨w.heap.size, i, none⟩ = #[Value.int .i64 a, .int .i64 b, .int .i64 c, .int .i64 d][i]? := fun w' i h => R1 w' i (bw_to hB2 h)
      have hv2 := hv0.to (bw_to hw hB2)
      have hu2 := ints_of_own hown2
      have hbest2 := ints_of_own (own_to hown hb2)
      have hBr := Below.refl w2.heap.size w2
      have hbst := best_ok a b c d xs m
      have Hsucc := Lib.hid (bestTo_succ a b c d xs m)
      have Hbst := Lib.hid hbst
      clear hbst
      have R3 : ∀ (x : Aft w2) (i : Nat), x.w.cell? ⟨w.heap.size, i, none⟩ = #[Value.int .i64 a, .int .i64 b, .int .i64 c, .int .i64 d][i]? := fun x i => R2 x.w i x.h
      clear R1 R2
      by_cases hc : choiceB a xs (maskL xs.length m) = true
      · have Hc := Lib.hid hc
        have hco : choiceOk a b c d xs (maskL xs.length m) = true := by unfold choiceOk; rw [hc, He.out, Hx.out]; rfl
        clear hc
        by_cases hti : timeS b d xs (maskL xs.length m) ≤ c
        · have hdt : decide (timeS b d xs (maskL xs.length m) ≤ c) = true := by simpa using hti
          have Hf : Hid (fitsB a b c d xs (maskL xs.length m) = true) := by unfold fitsB; rw [Hc.out, hdt]; rfl
          cases hbt : betterB b d xs (maskL xs.length m) (bestTo a b c d xs m)
          · have Hstep : Hid (stepBest a b c d xs (bestTo a b c d xs m) m = bestTo a b c d xs m) := by unfold stepBest; rw [Hf.out, hbt]; rfl
            have Hbt := Lib.hid hbt
            clear hbt hti
            go_wp2_with fail
            refine wp_region_aft (wb := w2) (by kernel_rfl) (by kernel_rfl) hBr ?_
            repeat (go_big_quiet_step ((first | (go_at_call 59; exact calls_aft fun w hw => l30Choice_as hco (hv2.to hw) (hu2.to hw)) | (go_at_call 60; exact calls_aft fun w hw => l30Time_any _ _ _ _ _ _ _ _ _ (hv2.to hw) (hu2.to hw) He.out Hx.out Hc.out) | (go_at_call 87; exact calls_aft fun w hw => l30Better_as Hbt.out (hv2.to hw) (hu2.to hw) (hbest2.to hw) He.out Hx.out Hc.out Hbst.out))))
            refine wpQuiet_nil ?_
            rintro _ ⟨⟨w3, hB3⟩, rfl⟩
            go_wp2_with fail
            refine ⟨⟨m + 1, by omega, by omega, by go_num, ?_, bw_to hB2 hB3⟩, by simp [intOf]; omega⟩
            rw [Hsucc.out, Hstep.out]
            exact own_to (own_to hown hb2) hB3
          · have Hstep : Hid (stepBest a b c d xs (bestTo a b c d xs m) m = maskL xs.length m) := by unfold stepBest; rw [Hf.out, hbt]; rfl
            have Hbt := Lib.hid hbt
            clear hbt hti
            go_wp2_with fail
            refine wp_region_aft (wb := w2) (by kernel_rfl) (by kernel_rfl) hBr ?_
            repeat (go_big_quiet_step ((first | (go_at_call 59; exact calls_aft fun w hw => l30Choice_as hco (hv2.to hw) (hu2.to hw)) | (go_at_call 60; exact calls_aft fun w hw => l30Time_any _ _ _ _ _ _ _ _ _ (hv2.to hw) (hu2.to hw) He.out Hx.out Hc.out) | (go_at_call 87; exact calls_aft fun w hw => l30Better_as Hbt.out (hv2.to hw) (hu2.to hw) (hbest2.to hw) He.out Hx.out Hc.out Hbst.out))))
            refine wpQuiet_nil ?_
            rintro _ ⟨⟨w3, hB3⟩, rfl⟩
            go_wp2_with fail
            refine ⟨⟨m + 1, by omega, by omega, by go_num, ?_, bw_to hB2 hB3⟩, by simp [intOf]; omega⟩
            rw [Hsucc.out, Hstep.out]
            exact own_base (own_to hown2 hB3) hBw.size
        · have hdt : decide (timeS b d xs (maskL xs.length m) ≤ c) = false := by simpa using hti
          have Hstep : Hid (stepBest a b c d xs (bestTo a b c d xs m) m = bestTo a b c d xs m) := by unfold stepBest fitsB; rw [hdt, Bool.and_false, Bool.false_and]; rfl
          clear hti
          go_wp2_with fail
          refine wp_region_aft (wb := w2) (by kernel_rfl) (by kernel_rfl) hBr ?_
          repeat (go_big_quiet_step ((first | (go_at_call 59; exact calls_aft fun w hw => l30Choice_as hco (hv2.to hw) (hu2.to hw)) | (go_at_call 60; exact calls_aft fun w hw => l30Time_any _ _ _ _ _ _ _ _ _ (hv2.to hw) (hu2.to hw) He.out Hx.out Hc.out))))
          refine wpQuiet_nil ?_
          rintro _ ⟨⟨w3, hB3⟩, rfl⟩
          go_wp2_with fail
          refine ⟨⟨m + 1, by omega, by omega, by go_num, ?_, bw_to hB2 hB3⟩, by simp [intOf]; omega⟩
          rw [Hsucc.out, Hstep.out]
          exact own_to (own_to hown hb2) hB3
      · have hc' : choiceB a xs (maskL xs.length m) = false := by simpa using hc
        have Hskip : Hid (stepBest a b c d xs (bestTo a b c d xs m) m = bestTo a b c d xs m) := by unfold stepBest fitsB; rw [hc']; rfl
        have hco : choiceOk a b c d xs (maskL xs.length m) = false := by unfold choiceOk; rw [hc', Bool.and_false]
        clear hc hc'
        go_wp2_with fail
        refine wp_region_aft (wb := w2) (by kernel_rfl) (by kernel_rfl) hBr ?_
        repeat (go_big_quiet_step ((go_at_call 59; exact calls_aft fun w hw => l30Choice_as hco (hv2.to hw) (hu2.to hw))))
        refine wpQuiet_nil ?_
        rintro _ ⟨⟨w3, hB3⟩, rfl⟩
        go_wp2_with fail
        refine ⟨⟨m + 1, by omega, by omega, by go_num, ?_, bw_to hB2 hB3⟩, by simp [intOf]; omega⟩
        rw [Hsucc.out, Hskip.out]
        exact own_to (own_to hown hb2) hB3
    · obtain rfl : m = N := by omega
      go_wp2_with fail
      go_ret
      exact ⟨_, rfl, hown, hBw⟩
end Go.Proofs.YtofpjbdelmmclaaGreatDoor

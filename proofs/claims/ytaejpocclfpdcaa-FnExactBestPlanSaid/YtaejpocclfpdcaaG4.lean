/- Contracts: the program's best plan. -/
import Derived.Test.YtaejpocclfpdcaaG3
namespace Go.Proofs.Ytaejpocclfpdcaa
open Go Go.RowKit
set_option linter.unusedVariables false
set_option linter.unusedSimpArgs false

theorem maskL_in {n mask : Nat} : ∀ i (h : i < (maskL n mask).length), ∃ j : Nat, (maskL n mask)[i] = (j : Int) ∧ j < n := by
  intro i h
  have := List.getElem_mem h
  unfold maskL at this
  rw [List.mem_map] at this
  obtain ⟨j, hj, e⟩ := this
  exact ⟨j, e.symm, by have := (List.mem_filter.1 hj).1; simpa using this⟩
theorem worth_mask {xs : List It} {k m : Nat} (hk : k ≤ xs.length) (hx : itemsB xs = true) : 0 ≤ worthS xs (maskL k m) ∧ worthS xs (maskL k m) ≤ 100 * k := by
  have h := worth_bd (ch := maskL k m) hx (fun i h => by obtain ⟨j, e, hj⟩ := maskL_in i h; exact ⟨j, e, by omega⟩) _ (Nat.le_refl _)
  rw [List.take_length] at h
  have := maskL_length k m
  omega
theorem isChoice_as {a b c d : Int} {v u : Value} {xs : List It} {ch : List Int} {w : World} {r : Bool} (hr : choiceB a xs ch = r) (hv : Items w v xs) (hu : Ints w u ch) :
    Calls Try.prog 40 #[.agg #[.int .i64 a, .int .i64 b, .int .i64 c, .int .i64 d], v, u] w fun e w' => e = .returned (.bool r) ∧ Below w.heap.size w w' := by subst hr; exact isChoice_any _ _ _ _ _ _ _ _ _ hv hu
theorem better_gt {b d : Int} {xs : List It} {p q : List Int} (h : worthS xs q < worthS xs p) : betterB b d xs p q = true := by
  unfold betterB; rw [if_neg (by omega)]; simpa using h
theorem better_time {b d : Int} {xs : List It} {p q : List Int} (h : worthS xs p = worthS xs q) (k : timeS b d xs p ≠ timeS b d xs q) : betterB b d xs p q = decide (timeS b d xs p < timeS b d xs q) := by
  unfold betterB; rw [if_pos h, if_neg k]
theorem better_lex {b d : Int} {xs : List It} {p q : List Int} (h : worthS xs p = worthS xs q) (k : timeS b d xs p = timeS b d xs q) : betterB b d xs p q = lexLt p q := by
  unfold betterB; rw [if_pos h, if_pos k]
theorem better_lt {b d : Int} {xs : List It} {p q : List Int} (h : worthS xs p < worthS xs q) : betterB b d xs p q = false := by
  unfold betterB; rw [if_neg (by omega)]; simp; omega
set_option maxRecDepth 100000 in
set_option maxHeartbeats 4000000 in
theorem bestPlan_any (a b c d : Int) (v : Value) (xs : List It) (w : World) (hv : Items w v xs) (he : evB a b c d = true) (hx : itemsB xs = true) :
    Calls Try.prog 46 #[.agg #[.int .i64 a, .int .i64 b, .int .i64 c, .int .i64 d], v] w fun e w' =>
      ∃ r : Value, e = .returned r ∧ w'.ownsRow w.heap.size 3 1 r (bestTo a b c d xs (2 ^ xs.length)).length ((bestTo a b c d xs (2 ^ xs.length)).map (Value.int .i64)) ∧ Below w.heap.size w w' := by
  have hv0 := hv
  obtain ⟨⟨A, c1, rfl, h1, h2, hr⟩, hg⟩ := hv
  unfold maxLen at h2
  have hlen : xs.length ≤ 10 := by have := hx; simp only [itemsB, Bool.and_eq_true, decide_eq_true_eq] at this; exact this.2
  have Hx := Lib.hid hx
  have He := Lib.hid he
  clear hx he
  have hwr : wrap64 ((2 : Int) ^ xs.length) = ((2 ^ xs.length : Nat) : Int) := pow_wrap hlen
  have hN : 1 ≤ 2 ^ xs.length ∧ 2 ^ xs.length ≤ 1024 := ⟨Nat.one_le_two_pow, Nat.le_trans (Nat.pow_le_pow_right (by omega) hlen) (by omega)⟩
  obtain ⟨N, hNe⟩ : ∃ N, N = 2 ^ xs.length := ⟨_, rfl⟩
  rw [← hNe] at hwr hN ⊢
  have HN := Lib.hid hNe
  clear hNe
  go_enter Try.func46, Try.ntmps46
  go_wp2_with fail
  simp only [hwr]
  clear hwr
  refine box2 (C := fun W => Code.wp _ _ _ _ W) ?_
  intro wb hw k1 k2 hB0
  have R1 := boxRule k1
  have hown0 : wb.ownsRow w.heap.size 3 1 (.slice (some ⟨w.heap.size + 1, 0, none⟩) 0 0) 0 [] := own_of_heap (cs := #[]) k2 (by omega) (by unfold maxLen; omega) rfl
  clear k1 k2
  go_loopw [5, 6, 18] (fun s q i wr => ∃ m : Nat, m ≤ N ∧ i = .int .i64 m ∧ wr.ownsRow w.heap.size 3 1 s (bestTo a b c d xs m).length ((bestTo a b c d xs m).map (Value.int .i64)) ∧ q = .int .i64 (worthS xs (bestTo a b c d xs m)) ∧ Below wb.heap.size wb wr) (fun _ _ i _ => N - (intOf i).toNat)
  case atStart => exact ⟨0, by omega, rfl, hown0, rfl, hB0⟩
  case round =>
    obtain ⟨m, hm, rfl, hown, rfl, hB⟩ := hrel
    obtain ⟨wo, rfl⟩ : ∃ wo : World, wo = wr := ⟨_, rfl⟩
    have hBw := bw_to hw hB
    by_cases hlt : m < N
    · have hm63 : m < 9223372036854775808 := by omega
      go_wp2_with fail
      refine box1 (C := fun W => Code.wp _ _ _ _ W) ?_
      intro wc hwc k3 hBc
      have hown1 : wc.ownsRow wo.heap.size 3 1 (.slice (some ⟨wo.heap.size, 0, none⟩) 0 0) 0 [] := own_of_heap (cs := #[]) k3 (by omega) (by unfold maxLen; omega) rfl
      clear k3
      have hBz := bw_to hB hwc
      go_loopw [8, 9, 24] (fun s q i wr => ∃ k : Nat, k ≤ xs.length ∧ i = .int .i64 k ∧ wr.ownsRow wo.heap.size 3 1 s (maskL k m).length ((maskL k m).map (Value.int .i64)) ∧ q = .int .i64 (worthS xs (maskL k m)) ∧ Below wo.heap.size wo wr) (fun _ _ i _ => xs.length - (intOf i).toNat)
      case atStart => exact ⟨0, by omega, rfl, hown1, rfl, hwc⟩
      case round =>
        obtain ⟨k, hk, rfl, hownk, rfl, hBk⟩ := hrel
        have hBkw := bw_to hBw hBk
        by_cases hlk : k < xs.length
        · obtain ⟨ad, rfl, hC⟩ := items_el hr hlk
          have hwb := worth_mask (m := m) hk Hx.out
          obtain ⟨_, _, _, _, h5, h6⟩ := itB_bd (items_good Hx.out hlk)
          have hbt := bit_test m k hm63
          have Hs := Lib.hid (maskL_succ k m)
          have hml := maskL_length k m
          cases htb : m.testBit k
          · rw [htb] at hbt
            have Htb := Lib.hid htb
            clear htb
            go_wp2_with fail
            refine ⟨⟨k + 1, by omega, by go_num, ?_, ?_, bw_al hBk _⟩, by simp [intOf]; omega⟩
            · rw [Hs.out, Htb.out]
              simpa using hownk.alloc _
            · rw [Hs.out, Htb.out]
              simp
          · rw [htb] at hbt
            have Htb := Lib.hid htb
            clear htb
            have Hw := Lib.hid (worthS_snoc xs (maskL k m) k hlk)
            go_wp2_with (at_builtin; go_must (refine wpList_app_at _ rfl _ _ _ rfl wo.heap.size 3 _ 1 8 Try.underlying39 info_int rfl (by omega) (hownk.alloc _) [.int .i64 k] rfl rfl rfl (by simp) (one_mem rfl) (by omega) (by omega) (by have := hBk.size; simp; omega) ?_); intro v2 w2 hown2 hb2 hg2 _; have hx3 := heap_cell (grown_new hownk hg2) 3)
            refine ⟨⟨k + 1, by omega, by go_num, ?_, ?_, bw_tr (bw_al hBk _) hb2 (by omega)⟩, by simp [intOf]; omega⟩
            · rw [Hs.out, Htb.out]
              simpa using hown2
            · rw [Hs.out, Htb.out]
              simp [Hw.out]
        · obtain rfl : k = xs.length := by omega
          have hB2 := bw_to hB hBk
          have hBw2 := bw_to hw hB2
          have R3 : ∀ (x : Aft wr) (i : Nat), x.w.cell? ⟨w.heap.size, i, none⟩ = #[Value.int .i64 a, .int .i64 b, .int .i64 c, .int .i64 d][i]? := fun x i => R1 x.w i (bw_to hB2 x.h)
          have R4 := R1
          clear R1
          have hv2 := hv0.to hBw2
          have hu2 := ints_of_own hownk
          have hbest2 := ints_of_own (own_to hown hBk)
          have hBr := Below.refl wr.heap.size wr
          have Hsucc := Lib.hid (bestTo_succ a b c d xs m)
          have Hbst := Lib.hid (best_ok a b c d xs m)
          by_cases hc : choiceB a xs (maskL xs.length m) = true
          · have Hc := Lib.hid hc
            have hco : choiceB a xs (maskL xs.length m) = true := hc
            clear hc
            by_cases hti : timeS b d xs (maskL xs.length m) ≤ c
            · have hdt : decide (c < timeS b d xs (maskL xs.length m)) = false := by simpa using hti
              have Hf : Hid (fitsB a b c d xs (maskL xs.length m) = true) := by unfold fitsB; rw [Hc.out, decide_eq_true hti]; rfl
              clear hti
              by_cases hwo : worthS xs (maskL xs.length m) < worthS xs (bestTo a b c d xs m)
              · have hdw : decide (worthS xs (maskL xs.length m) < worthS xs (bestTo a b c d xs m)) = true := by simpa using hwo
                have Hstep : Hid (stepBest a b c d xs (bestTo a b c d xs m) m = bestTo a b c d xs m) := by unfold stepBest; rw [better_lt hwo, Bool.and_false]; rfl
                clear hwo
                go_wp2_with fail
                refine wp_region_aft (wb := wr) (by kernel_rfl) (by kernel_rfl) hBr ?_
                repeat (go_big_quiet_step ((first | (go_at_call 40; exact calls_aft fun w hw => isChoice_as hco (hv2.to hw) (hu2.to hw)) | (go_at_call 41; exact calls_aft fun w hw => timeIn_any _ _ _ _ _ _ _ _ _ (hv2.to hw) (hu2.to hw) He.out Hx.out Hc.out))))
                refine wpQuiet_nil ?_
                rintro _ ⟨⟨w3, hB3⟩, rfl⟩
                go_wp2_with fail
                refine ⟨⟨m + 1, by omega, by go_num, ?_, ?_, bw_to hB2 hB3⟩, by simp [intOf]; omega⟩
                · rw [Hsucc.out, Hstep.out]; exact own_to (own_to hown hBk) hB3
                · rw [Hsucc.out, Hstep.out]
              · have hdw : decide (worthS xs (maskL xs.length m) < worthS xs (bestTo a b c d xs m)) = false := by simpa using hwo
                have Hwo := Lib.hid hwo
                clear hwo
                go_wp2_with fail
                refine wp_region_aft (wb := wr) (by kernel_rfl) (by kernel_rfl) hBr ?_
                repeat (go_big_quiet_step ((first | (go_at_call 40; exact calls_aft fun w hw => isChoice_as hco (hv2.to hw) (hu2.to hw)) | (go_at_call 41; exact calls_aft fun w hw => timeIn_any _ _ _ _ _ _ _ _ _ (hv2.to hw) (hu2.to hw) He.out Hx.out Hc.out))))
                refine wpQuiet_nil ?_
                rintro _ ⟨⟨w3, hB3⟩, rfl⟩
                go_wp2_with fail
                refine wp_region_aft (wb := wr) (by kernel_rfl) (by kernel_rfl) hB3 ?_
                repeat (go_big_quiet_step ((first | (go_at_call_of 41 (u8); exact calls_aft fun w hw => timeIn_any _ _ _ _ _ _ _ _ _ (hv2.to hw) (hu2.to hw) He.out Hx.out Hc.out) | (go_at_call_of 41 (u5); exact calls_aft fun w hw => timeIn_any _ _ _ _ _ _ _ _ _ (hv2.to hw) (hbest2.to hw) He.out Hx.out Hbst.out))))
                refine wpQuiet_nil ?_
                rintro _ ⟨⟨w4, hB4⟩, rfl⟩
                by_cases hgt : worthS xs (bestTo a b c d xs m) < worthS xs (maskL xs.length m)
                · have hd1 : decide (worthS xs (bestTo a b c d xs m) < worthS xs (maskL xs.length m)) = true := by simpa using hgt
                  have Hstep : Hid (stepBest a b c d xs (bestTo a b c d xs m) m = maskL xs.length m) := by unfold stepBest; rw [Hf.out, better_gt hgt]; rfl
                  clear hgt
                  go_wp2_with fail
                  refine ⟨⟨m + 1, by omega, by go_num, ?_, ?_, bw_to hB2 hB4⟩, by simp [intOf]; omega⟩
                  · rw [Hsucc.out, Hstep.out]; exact own_base (own_to hownk hB4) hBw.size
                  · rw [Hsucc.out, Hstep.out]
                · have hd1 : decide (worthS xs (bestTo a b c d xs m) < worthS xs (maskL xs.length m)) = false := by simpa using hgt
                  have Heq : Hid (worthS xs (maskL xs.length m) = worthS xs (bestTo a b c d xs m)) := by have := Hwo.out; show _ = _; omega
                  clear hgt
                  by_cases hab : timeS b d xs (maskL xs.length m) < timeS b d xs (bestTo a b c d xs m)
                  · have hd2 : decide (timeS b d xs (maskL xs.length m) < timeS b d xs (bestTo a b c d xs m)) = true := by simpa using hab
                    have Hstep : Hid (stepBest a b c d xs (bestTo a b c d xs m) m = maskL xs.length m) := by unfold stepBest; rw [Hf.out, better_time Heq.out (by omega), hd2]; rfl
                    clear hab
                    go_wp2_with fail
                    refine ⟨⟨m + 1, by omega, by go_num, ?_, ?_, bw_to hB2 hB4⟩, by simp [intOf]; omega⟩
                    · rw [Hsucc.out, Hstep.out]; exact own_base (own_to hownk hB4) hBw.size
                    · rw [Hsucc.out, Hstep.out]
                  · have hd2 : decide (timeS b d xs (maskL xs.length m) < timeS b d xs (bestTo a b c d xs m)) = false := by simpa using hab
                    by_cases hba : timeS b d xs (maskL xs.length m) = timeS b d xs (bestTo a b c d xs m)
                    · have hd3 : (timeS b d xs (maskL xs.length m) == timeS b d xs (bestTo a b c d xs m)) = true := by simpa using hba
                      have Hbe := Lib.hid (better_lex Heq.out hba)
                      have hcm := cmpL_neg (maskL xs.length m) (bestTo a b c d xs m)
                      clear hab hba
                      cases hlx : lexLt (maskL xs.length m) (bestTo a b c d xs m)
                      · rw [hlx] at hcm
                        have Hstep : Hid (stepBest a b c d xs (bestTo a b c d xs m) m = bestTo a b c d xs m) := by unfold stepBest; rw [Hf.out, Hbe.out, hlx]; rfl
                        clear hlx
                        go_wp2_with (go_at_call 54; refine (slicesCompareInt_any _ _ _ _ _ (hu2.to hB4) (hbest2.to hB4)).mono ?_; rintro e w5 ⟨rfl, rfl⟩)
                        refine ⟨⟨m + 1, by omega, by go_num, ?_, ?_, bw_to hB2 hB4⟩, by simp [intOf]; omega⟩
                        · rw [Hsucc.out, Hstep.out]; exact own_to (own_to hown hBk) hB4
                        · rw [Hsucc.out, Hstep.out]
                      · rw [hlx] at hcm
                        have Hstep : Hid (stepBest a b c d xs (bestTo a b c d xs m) m = maskL xs.length m) := by unfold stepBest; rw [Hf.out, Hbe.out, hlx]; rfl
                        clear hlx
                        go_wp2_with (go_at_call 54; refine (slicesCompareInt_any _ _ _ _ _ (hu2.to hB4) (hbest2.to hB4)).mono ?_; rintro e w5 ⟨rfl, rfl⟩)
                        refine ⟨⟨m + 1, by omega, by go_num, ?_, ?_, bw_to hB2 hB4⟩, by simp [intOf]; omega⟩
                        · rw [Hsucc.out, Hstep.out]; exact own_base (own_to hownk hB4) hBw.size
                        · rw [Hsucc.out, Hstep.out]
                    · have hd3 : (timeS b d xs (maskL xs.length m) == timeS b d xs (bestTo a b c d xs m)) = false := by simpa using hba
                      have Hstep : Hid (stepBest a b c d xs (bestTo a b c d xs m) m = bestTo a b c d xs m) := by unfold stepBest; rw [Hf.out, better_time Heq.out hba, hd2]; rfl
                      clear hab hba
                      go_wp2_with fail
                      refine ⟨⟨m + 1, by omega, by go_num, ?_, ?_, bw_to hB2 hB4⟩, by simp [intOf]; omega⟩
                      · rw [Hsucc.out, Hstep.out]; exact own_to (own_to hown hBk) hB4
                      · rw [Hsucc.out, Hstep.out]
            · have hdt : decide (c < timeS b d xs (maskL xs.length m)) = true := by simpa using hti
              have Hstep : Hid (stepBest a b c d xs (bestTo a b c d xs m) m = bestTo a b c d xs m) := by unfold stepBest fitsB; rw [decide_eq_false (by simpa using hti), Bool.and_false, Bool.false_and]; rfl
              clear hti
              go_wp2_with fail
              refine wp_region_aft (wb := wr) (by kernel_rfl) (by kernel_rfl) hBr ?_
              repeat (go_big_quiet_step ((first | (go_at_call 40; exact calls_aft fun w hw => isChoice_as hco (hv2.to hw) (hu2.to hw)) | (go_at_call 41; exact calls_aft fun w hw => timeIn_any _ _ _ _ _ _ _ _ _ (hv2.to hw) (hu2.to hw) He.out Hx.out Hc.out))))
              refine wpQuiet_nil ?_
              rintro _ ⟨⟨w3, hB3⟩, rfl⟩
              go_wp2_with fail
              refine ⟨⟨m + 1, by omega, by go_num, ?_, ?_, bw_to hB2 hB3⟩, by simp [intOf]; omega⟩
              · rw [Hsucc.out, Hstep.out]; exact own_to (own_to hown hBk) hB3
              · rw [Hsucc.out, Hstep.out]
          · have hco : choiceB a xs (maskL xs.length m) = false := by simpa using hc
            have Hstep : Hid (stepBest a b c d xs (bestTo a b c d xs m) m = bestTo a b c d xs m) := by unfold stepBest fitsB; rw [hco]; rfl
            clear hc
            go_wp2_with fail
            refine wp_region_aft (wb := wr) (by kernel_rfl) (by kernel_rfl) hBr ?_
            repeat (go_big_quiet_step ((first | (go_at_call 40; exact calls_aft fun w hw => isChoice_as hco (hv2.to hw) (hu2.to hw)))))
            refine wpQuiet_nil ?_
            rintro _ ⟨⟨w3, hB3⟩, rfl⟩
            go_wp2_with fail
            refine ⟨⟨m + 1, by omega, by go_num, ?_, ?_, bw_to hB2 hB3⟩, by simp [intOf]; omega⟩
            · rw [Hsucc.out, Hstep.out]; exact own_to (own_to hown hBk) hB3
            · rw [Hsucc.out, Hstep.out]
    · obtain rfl : m = N := by omega
      go_wp2_with fail
      go_ret
      exact ⟨_, rfl, hown, hBw⟩
end Go.Proofs.Ytaejpocclfpdcaa

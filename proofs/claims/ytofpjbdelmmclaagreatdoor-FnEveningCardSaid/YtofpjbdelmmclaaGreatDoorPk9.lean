/- Contracts: the program's best plan. -/
import Derived.Test.YtofpjbdelmmclaaGreatDoorPk8
import Derived.Test.YtofpjbdelmmclaaGreatDoorPk5
import Derived.Test.YtofpjbdelmmclaaGreatDoorPk3
import Derived.Test.YtofpjbdelmmclaaGreatDoorPk7
namespace Go.Proofs.YtofpjbdelmmclaaGreatDoor
open Go Go.RowKit
set_option linter.unusedVariables false
set_option linter.unusedSimpArgs false

theorem maskL_in {n mask : Nat} : ∀ i (h : i < (maskL n mask).length), ∃ j : Nat, (maskL n mask)[i] = (j : Int) ∧ j < n := by
  intro i h
  have := List.getElem_mem h
  unfold maskL at this
  rw [List.mem_map] at this
  obtain ⟨j, hj, e⟩ := this
  exact ⟨j, e.symm, by have := (List.mem_filter.1 hj).1; simpa using this⟩
theorem worth_mask {xs : List It} {k m : Nat} (hk : k ≤ xs.length) (hx : itemsB xs = true) : 0 ≤ worthS xs (maskL k m) ∧ worthS xs (maskL k m) ≤ 100 * k := by
  have h := worth_bd (ch := maskL k m) hx (fun i h => by obtain ⟨j, e, hj⟩ := maskL_in i h; exact ⟨j, e, by omega⟩) _ (Nat.le_refl _)
  rw [List.take_length] at h
  have := maskL_length k m
  omega
theorem isChoice_as {a b c d : Int} {v u : Value} {xs : List It} {ch : List Int} {w : World} {r : Bool} (hr : choiceB a xs ch = r) (hv : Items w v xs) (hu : Ints w u ch) :
    Calls Tryz.prog 57 #[.agg #[.int .i64 a, .int .i64 b, .int .i64 c, .int .i64 d], v, u] w fun e w' => e = .returned (.bool r) ∧ Below w.heap.size w w' := by subst hr; exact isChoice_any _ _ _ _ _ _ _ _ _ hv hu
theorem better_gt {b d : Int} {xs : List It} {p q : List Int} (h : worthS xs q < worthS xs p) : betterB b d xs p q = true := by
  unfold betterB; rw [if_neg (by omega)]; simpa using h
theorem better_time {b d : Int} {xs : List It} {p q : List Int} (h : worthS xs p = worthS xs q) (k : timeS b d xs p ≠ timeS b d xs q) : betterB b d xs p q = decide (timeS b d xs p < timeS b d xs q) := by
  unfold betterB; rw [if_pos h, if_neg k]
theorem better_lex {b d : Int} {xs : List It} {p q : List Int} (h : worthS xs p = worthS xs q) (k : timeS b d xs p = timeS b d xs q) : betterB b d xs p q = lexLt p q := by
  unfold betterB; rw [if_pos h, if_pos k]
theorem better_lt {b d : Int} {xs : List It} {p q : List Int} (h : worthS xs p < worthS xs q) : betterB b d xs p q = false := by
  unfold betterB; rw [if_neg (by omega)]; simp; omega
set_option maxRecDepth 100000 in
set_option maxHeartbeats 4000000 in
theorem bestPlan_any (a b c d : Int) (v : Value) (xs : List It) (w : World) (hv : Items w v xs) (he : evB a b c d = true) (hx : itemsB xs = true) :
    Calls Tryz.prog 52 #[.agg #[.int .i64 a, .int .i64 b, .int .i64 c, .int .i64 d], v] w fun e w' =>
      ∃ r : Value, e = .returned r ∧ w'.ownsRow w.heap.size 3 1 r (bestTo a b c d xs (2 ^ xs.length)).length ((bestTo a b c d xs (2 ^ xs.length)).map (Value.int .i64)) ∧ Below w.heap.size w w' := by
  have hv0 := hv
  obtain ⟨⟨A, c1, rfl, h1, h2, hr⟩, hg⟩ := hv
  unfold maxLen at h2
  have hlen : xs.length ≤ 10 := by have := hx; simp only [itemsB, Bool.and_eq_true, decide_eq_true_eq] at this; exact this.2
  have Hx := Lib.hid hx
  have He := Lib.hid he
  clear hx he
  have hwr : wrap64 ((2 : Int) ^ xs.length) = ((2 ^ xs.length : Nat) : Int) := pow_wrap hlen
  have hN : 1 ≤ 2 ^ xs.length ∧ 2 ^ xs.length ≤ 1024 := ⟨Nat.one_le_two_pow, Nat.le_trans (Nat.pow_le_pow_right (by omega) hlen) (by omega)⟩
  obtain ⟨N, hNe⟩ : ∃ N, N = 2 ^ xs.length := ⟨_, rfl⟩
  rw [← hNe] at hwr hN ⊢
  have HN := Lib.hid hNe
  clear hNe
  go_enter Tryz.func52, Tryz.ntmps52
  go_wp2_with fail
  simp only [hwr]
  clear hwr
  refine box2 (C := fun W => Code.wp _ _ _ _ W) ?_
  intro wb hw k1 k2 hB0
  have R1 := boxRule k1
  have hown0 : wb.ownsRow w.heap.size 3 1 (.slice (some ⟨w.heap.size + 1, 0, none⟩) 0 0) 0 [] := own_of_heap (cs := #[]) k2 (by omega) (by unfold maxLen; omega) rfl
  clear k1 k2
  go_loopw [5, 6, 18] (fun s q i wr => ∃ m : Nat, m ≤ N ∧ i = .int .i64 m ∧ wr.ownsRow w.heap.size 3 1 s (bestTo a b c d xs m).length ((bestTo a b c d xs m).map (Value.int .i64)) ∧ q = .int .i64 (worthS xs (bestTo a b c d xs m)) ∧ Below wb.heap.size wb wr) (fun _ _ i _ => N - (intOf i).toNat)
  case atStart => exact ⟨0, by omega, rfl, hown0, rfl, hB0⟩
  case round =>
    obtain ⟨m, hm, rfl, hown, rfl, hB⟩ := hrel
    obtain ⟨wo, rfl⟩ : ∃ wo : World, wo = wr := ⟨_, rfl⟩
    have hBw := bw_to hw hB
    by_cases hlt : m < N
    · have hm63 : m < 9223372036854775808 := by omega
      go_wp2_with fail
      refine box1 (C := fun W => Code.wp _ _ _ _ W) ?_
      intro wc hwc k3 hBc
      have hown1 : wc.ownsRow wo.heap.size 3 1 (.slice (some ⟨wo.heap.size, 0, none⟩) 0 0) 0 [] := own_of_heap (cs := #[]) k3 (by omega) (by unfold maxLen; omega) rfl
      clear k3
      have hBz := bw_to hB hwc
      go_loopw [8, 9, 24] (fun s q i wr => ∃ k : Nat, k ≤ xs.length ∧ i = .int .i64 k ∧ wr.ownsRow wo.heap.size 3 1 s (maskL k m).length ((maskL k m).map (Value.int .i64)) ∧ q = .int .i64 (worthS xs (maskL k m)) ∧ Below wo.heap.size wo wr) (fun _ _ i _ => xs.length - (intOf i).toNat)
      case atStart => exact ⟨0, by omega, rfl, hown1, rfl, hwc⟩
      case round =>
        obtain ⟨k, hk, rfl, hownk, rfl, hBk⟩ := hrel
        have hBkw := bw_to hBw hBk
        by_cases hlk : k < xs.length
        · obtain ⟨ad, rfl, hC⟩ := items_el hr hlk
          have hwb := worth_mask (m := m) hk Hx.out
          obtain ⟨_, _, _, _, h5, h6⟩ := itB_bd (items_good Hx.out hlk)
          have hbt := bit_test m k hm63
          have Hs := Lib.hid (maskL_succ k m)
          have hml := maskL_length k m
          cases htb : m.testBit k
          · rw [htb] at hbt
            have Htb := Lib.hid htb
            clear htb
            go_wp2_with fail
            refine ⟨⟨k + 1, by omega, by go_num, ?_, ?_, bw_al hBk _⟩, by simp [intOf]; omega⟩
            · rw [Hs.out, Htb.out]
              simpa using hownk.alloc _
            · rw [Hs.out, Htb.out]
              simp
          · rw [htb] at hbt
            have Htb := Lib.hid htb
            clear htb
            have Hw := Lib.hid (worthS_snoc xs (maskL k m) k hlk)
            go_wp2_with (at_builtin; go_must (refine wpList_app_at _ rfl _ _ _ rfl wo.heap.size 3 _ 1 8 Tryz.underlying40 info_int3 rfl (by omega) (hownk.alloc _) [.int .i64 k] rfl rfl rfl (by simp) (one_mem rfl) (by omega) (by omega) (by have := hBk.size; simp; omega) ?_); intro v2 w2 hown2 hb2 hg2 _; have hx3 := heap_cell (grown_new hownk hg2) 3)
            refine ⟨⟨k + 1, by omega, by go_num, ?_, ?_, bw_tr (bw_al hBk _) hb2 (by omega)⟩, by simp [intOf]; omega⟩
            · rw [Hs.out, Htb.out]
              simpa using hown2
            · rw [Hs.out, Htb.out]
              simp [Hw.out]
        · obtain rfl : k = xs.length := by omega
          have hB2 := bw_to hB hBk
          have hBw2 := bw_to hw hB2
          have R3 : ∀ (x : Aft wr) (i : Nat), x.w.cell? ⟨w.heap.size, i, none⟩ = #[Value.int .i64 a, .int .i64 b, .int .i64 c, .int .i64 d][i]? := fun x i => R1 x.w i (bw_to hB2 x.h)
          have R4 := R1
          clear R1
          have hv2 := hv0.to hBw2
          have hu2 := ints_of_own hownk
          have hbest2 := ints_of_own (own_to hown hBk)
          have hBr := Below.refl wr.heap.size wr
          have Hsucc := Lib.hid (bestTo_succ a b c d xs m)
          have Hbst := Lib.hid (best_ok a b c d xs m)
          by_cases hc : choiceB a xs (maskL xs.length m) = true
          · have Hc := Lib.hid hc
            have hco : choiceB a xs (maskL xs.length m) = true := hc
            clear hc
            by_cases hti : timeS b d xs (maskL xs.length m) ≤ c
            · have hdt : decide (c < timeS b d xs (maskL xs.length m)) = false := by simpa using hti
              have Hf : Hid (fitsB a b c d xs (maskL xs.length m) = true) := by unfold fitsB; rw [Hc.out, decide_eq_true hti]; rfl
              clear hti
              by_cases hwo : worthS xs (maskL xs.length m) < worthS xs (bestTo a b c d xs m)
              · have hdw : decide (worthS xs (maskL xs.length m) < worthS xs (bestTo a b c d xs m)) = true := by simpa using hwo
                have Hstep : Hid (stepBest a b c d xs (bestTo a b c d xs m) m = bestTo a b c d xs m) := by unfold stepBest; rw [better_lt hwo, Bool.and_false]; rfl
                clear hwo
                go_wp2_with fail
                refine wp_region_aft (wb := wr) (by kernel_rfl) (by kernel_rfl) hBr ?_
                repeat (go_big_quiet_step ((first | (go_at_call 57; exact calls_aft fun w hw => isChoice_as hco (hv2.to hw) (hu2.to hw)) | (go_at_call 58; exact calls_aft fun w hw => timeIn_any _ _ _ _ _ _ _ _ _ (hv2.to hw) (hu2.to hw) He.out Hx.out Hc.out))))
                refine wpQuiet_nil ?_
                rintro _ ⟨⟨w3, hB3⟩, rfl⟩
                go_wp2_with fail
                refine ⟨⟨m + 1, by omega, by go_num, ?_, ?_, bw_to hB2 hB3⟩, by simp [intOf]; omega⟩
                · rw [Hsucc.out, Hstep.out]; exact own_to (own_to hown hBk) hB3
                · rw [Hsucc.out, Hstep.out]
              · have hdw : decide (worthS xs (maskL xs.length m) < worthS xs (bestTo a b c d xs m)) = false := by simpa using hwo
                have Hwo := Lib.hid hwo
                clear hwo
                go_wp2_with fail
                refine wp_region_aft (wb := wr) (by kernel_rfl) (by kernel_rfl) hBr ?_
                repeat (go_big_quiet_step ((first | (go_at_call 57; exact calls_aft fun w hw => isChoice_as hco (hv2.to hw) (hu2.to hw)) | (go_at_call 58; exact calls_aft fun w hw => timeIn_any _ _ _ _ _ _ _ _ _ (hv2.to hw) (hu2.to hw) He.out Hx.out Hc.out))))
                refine wpQuiet_nil ?_
                rintro _ ⟨⟨w3, hB3⟩, rfl⟩
                go_wp2_with fail
                refine wp_region_aft (wb := wr) (by kernel_rfl) (by kernel_rfl) hB3 ?_
                repeat (go_big_quiet_step ((first | (go_at_call_of 58 (u8); exact calls_aft fun w hw => timeIn_any _ _ _ _ _ _ _ _ _ (hv2.to hw) (hu2.to hw) He.out Hx.out Hc.out) | (go_at_call_of 58 (u5); exact calls_aft fun w hw => timeIn_any _ _ _ _ _ _ _ _ _ (hv2.to hw) (hbest2.to hw) He.out Hx.out Hbst.out))))
                refine wpQuiet_nil ?_
                rintro _ ⟨⟨w4, hB4⟩, rfl⟩
                by_cases hgt : worthS xs (bestTo a b c d xs m) < worthS xs (maskL xs.length m)
                · have hd1 : decide (worthS xs (bestTo a b c d xs m) < worthS xs (maskL xs.length m)) = true := by simpa using hgt
                  have Hstep : Hid (stepBest a b c d xs (bestTo a b c d xs m) m = maskL xs.length m) := by unfold stepBest; rw [Hf.out, better_gt hgt]; rfl
                  clear hgt
                  go_wp2_with fail
                  refine ⟨⟨m + 1, by omega, by go_num, ?_, ?_, bw_to hB2 hB4⟩, by simp [intOf]; omega⟩
                  · rw [Hsucc.out, Hstep.out]; exact own_base (own_to hownk hB4) hBw.size
                  · rw [Hsucc.out, Hstep.out]
                · have hd1 : decide (worthS xs (bestTo a b c d xs m) < worthS xs (maskL xs.length m)) = false := by simpa using hgt
                  have Heq : Hid (worthS xs (maskL xs.length m) = worthS xs (bestTo a b c d xs m)) := by have := Hwo.out; show _ = _; omega
                  clear hgt
                  by_cases hab : timeS b d xs (maskL xs.length m) < timeS b d xs (bestTo a b c d xs m)
                  · have hd2 : decide (timeS b d xs (maskL xs.length m) < timeS b d xs (bestTo a b c d xs m)) = true := by simpa using hab
                    have Hstep : Hid (stepBest a b c d xs (bestTo a b c d xs m) m = maskL xs.length m) := by unfold stepBest; rw [Hf.out, better_time Heq.out (by omega), hd2]; rfl
                    clear hab
                    go_wp2_with fail
                    refine ⟨⟨m + 1, by omega, by go_num, ?_, ?_, bw_to hB2 hB4⟩, by simp [intOf]; omega⟩
                    · rw [Hsucc.out, Hstep.out]; exact own_base (own_to hownk hB4) hBw.size
                    · rw [Hsucc.out, Hstep.out]
                  · have hd2 : decide (timeS b d xs (maskL xs.length m) < timeS b d xs (bestTo a b c d xs m)) = false := by simpa using hab
                    by_cases hba : timeS b d xs (maskL xs.length m) = timeS b d xs (bestTo a b c d xs m)
                    · have hd3 : (timeS b d xs (maskL xs.length m) == timeS b d xs (bestTo a b c d xs m)) = true := by simpa using hba
                      have Hbe := Lib.hid (better_lex Heq.out hba)
                      have hcm := cmpL_neg (maskL xs.length m) (bestTo a b c d xs m)
                      clear hab hba
                      cases hlx : lexLt (maskL xs.length m) (bestTo a b c d xs m)
                      · rw [hlx] at hcm
                        have Hstep : Hid (stepBest a b c d xs (bestTo a b c d xs m) m = bestTo a b c d xs m) := by unfold stepBest; rw [Hf.out, Hbe.out, hlx]; rfl
                        clear hlx
                        go_wp2_with (go_at_call 85; refine (slicesCompareInt_any _ _ _ _ _ (hu2.to hB4) (hbest2.to hB4)).mono ?_; rintro e w5 ⟨rfl, rfl⟩)
                        refine ⟨⟨m + 1, by omega, by go_num, ?_, ?_, bw_to hB2 hB4⟩, by simp [intOf]; omega⟩
                        · rw [Hsucc.out, Hstep.out]; exact own_to (own_to hown hBk) hB4
                        · rw [Hsucc.out, Hstep.out]
                      · rw [hlx] at hcm
                        have Hstep : Hid (stepBest a b c d xs (bestTo a b c d xs m) m = maskL xs.length m) := by unfold stepBest; rw [Hf.out, Hbe.out, hlx]; rfl
                        clear hlx
                        go_wp2_with (go_at_call 85; refine (slicesCompareInt_any _ _ _ _ _ (hu2.to hB4) (hbest2.to hB4)).mono ?_; rintro e w5 ⟨rfl, rfl⟩)
                        refine ⟨⟨m + 1, by omega, by go_num, ?_, ?_, bw_to hB2 hB4⟩, by simp [intOf]; omega⟩
                        · rw [Hsucc.out, Hstep.out]; exact own_base (own_to hownk hB4) hBw.size
                        · rw [Hsucc.out, Hstep.out]
                    · have hd3 : (timeS b d xs (maskL xs.length m) == timeS b d xs (bestTo a b c d xs m)) = false := by simpa using hba
                      have Hstep : Hid (stepBest a b c d xs (bestTo a b c d xs m) m = bestTo a b c d xs m) := by unfold stepBest; rw [Hf.out, better_time Heq.out hba, hd2]; rfl
                      clear hab hba
                      go_wp2_with fail
                      refine ⟨⟨m + 1, by omega, by go_num, ?_, ?_, bw_to hB2 hB4⟩, by simp [intOf]; omega⟩
                      · rw [Hsucc.out, Hstep.out]; exact own_to (own_to hown hBk) hB4
                      · rw [Hsucc.out, Hstep.out]
            · have hdt : decide (c < timeS b d xs (maskL xs.length m)) = true := by simpa using hti
              have Hstep : Hid (stepBest a b c d xs (bestTo a b c d xs m) m = bestTo a b c d xs m) := by unfold stepBest fitsB; rw [decide_eq_false (by simpa using hti), Bool.and_false, Bool.false_and]; rfl
              clear hti
              go_wp2_with fail
              refine wp_region_aft (wb := wr) (by kernel_rfl) (by kernel_rfl) hBr ?_
              repeat (go_big_quiet_step ((first | (go_at_call 57; exact calls_aft fun w hw => isChoice_as hco (hv2.to hw) (hu2.to hw)) | (go_at_call 58; exact calls_aft fun w hw => timeIn_any _ _ _ _ _ _ _ _ _ (hv2.to hw) (hu2.to hw) He.out Hx.out Hc.out))))
              refine wpQuiet_nil ?_
              rintro _ ⟨⟨w3, hB3⟩, rfl⟩
              go_wp2_with fail
              refine ⟨⟨m + 1, by omega, by go_num, ?_, ?_, bw_to hB2 hB3⟩, by simp [intOf]; omega⟩
              · rw [Hsucc.out, Hstep.out]; exact own_to (own_to hown hBk) hB3
              · rw [Hsucc.out, Hstep.out]
          · have hco : choiceB a xs (maskL xs.length m) = false := by simpa using hc
            have Hstep : Hid (stepBest a b c d xs (bestTo a b c d xs m) m = bestTo a b c d xs m) := by unfold stepBest fitsB; rw [hco]; rfl
            clear hc
            go_wp2_with fail
            refine wp_region_aft (wb := wr) (by kernel_rfl) (by kernel_rfl) hBr ?_
            repeat (go_big_quiet_step ((first | (go_at_call 57; exact calls_aft fun w hw => isChoice_as hco (hv2.to hw) (hu2.to hw)))))
            refine wpQuiet_nil ?_
            rintro _ ⟨⟨w3, hB3⟩, rfl⟩
            go_wp2_with fail
            refine ⟨⟨m + 1, by omega, by go_num, ?_, ?_, bw_to hB2 hB3⟩, by simp [intOf]; omega⟩
            · rw [Hsucc.out, Hstep.out]; exact own_to (own_to hown hBk) hB3
            · rw [Hsucc.out, Hstep.out]
    · obtain rfl : m = N := by omega
      go_wp2_with fail
      go_ret
      exact ⟨_, rfl, hown, hBw⟩
end Go.Proofs.YtofpjbdelmmclaaGreatDoor

/- The law of TimeIn. -/
namespace Go.Proofs.YtofpjbdelmmclaaGreatDoor
open Go Go.RowKit
set_option linter.unusedVariables false
set_option linter.unusedSimpArgs false

theorem items_of_own {w : World} {base : Nat} {e : TypeId} {v : Value} {xs : List It} (h : w.ownsRow base e 4 v xs.length (xs.flatMap It.cells)) (hg : ∀ x ∈ xs, x.name.size ≤ maxLen) : Items w v xs := ⟨sl_of_own h, hg⟩

end Go.Proofs.YtofpjbdelmmclaaGreatDoor

/- Contracts: CheckBest and BestPlan, the program's and the reference's; the law of CheckBest. -/
namespace Go.Proofs.YtofpjbdelmmclaaGreatDoor
open Go Go.RowKit
set_option linter.unusedVariables false
set_option linter.unusedSimpArgs false

def bestS (a b c d : Int) (xs : List It) : List Int := bestTo a b c d xs (2 ^ xs.length)
def checkB (a b c d : Int) (xs : List It) (ch : List Int) : Bool := planB a b c d xs && decide (bestS a b c d xs = ch)
theorem plan_parts {a b c d : Int} {xs : List It} (h : planB a b c d xs = true) : evB a b c d = true ∧ itemsB xs = true := by unfold planB at h; simpa using h
theorem check_spec {a b c d : Int} {xs : List It} {ch : List Int} (h : choiceOk a b c d xs ch = false) : checkB a b c d xs ch = false := by
  unfold checkB
  cases hp : planB a b c d xs
  · rfl
  · rw [Bool.true_and, decide_eq_false_iff_not]
    rintro rfl
    obtain ⟨h1, h2⟩ := plan_parts hp
    unfold choiceOk at h
    rw [h1, h2, show choiceB a xs (bestS a b c d xs) = true from best_ok _ _ _ _ _ _] at h
    cases h

set_option maxHeartbeats 1000000 in
theorem implCheckBest_any (a b c d : Int) (v u : Value) (xs : List It) (ch : List Int) (w : World) (hv : Items w v xs) (hu : Ints w u ch) :
    Calls Tryz.prog 28 #[.agg #[.int .i64 a, .int .i64 b, .int .i64 c, .int .i64 d], v, u] w fun e w' => e = .returned (.bool (checkB a b c d xs ch)) ∧ Below w.heap.size w w' := by
  go_enter Tryz.func28, Tryz.ntmps28
  go_wp2_with fail
  refine box1 (C := fun W => Calls _ _ _ W _) ?_
  intro wb hw k1 hB0
  have R1 := boxRule k1
  clear k1
  refine (goodPlan_any _ _ _ _ _ _ _ (hv.to hw)).mono ?_; rintro e w2 ⟨rfl, hb2⟩
  have hB2 := bw_to hB0 hb2
  have hBw2 := bw_to hw hB2
  by_cases hpl : planB a b c d xs = true
  · have Hpl := Lib.hid hpl
    go_wp2_with fail
    refine (bestPlan_any _ _ _ _ _ _ _ (hv.to hBw2) (plan_parts Hpl.out).1 (plan_parts Hpl.out).2).mono ?_; rintro e w3 ⟨r, rfl, ho3, hb3⟩
    have hB3 := bw_to hB2 hb3
    have hBw3 := bw_to hw hB3
    go_wp2_with fail
    refine (slicesEqualInt_any _ _ _ ch _ (ints_of_own ho3) (hu.to hBw3)).mono ?_; rintro e w4 ⟨rfl, hb4⟩
    go_wp2_with fail
    go_ret
    exact ⟨ret_bool (by unfold checkB; rw [Hpl.out]; rfl), bw_to hBw3 hb4⟩
  · have hpl' : planB a b c d xs = false := by simpa using hpl
    have Hpl := Lib.hid hpl'
    clear hpl
    go_wp2_with fail
    go_ret
    exact ⟨ret_bool (by unfold checkB; rw [Hpl.out]; rfl), hBw2⟩
set_option maxHeartbeats 1000000 in
theorem specCheckBest_any (a b c d : Int) (v u : Value) (xs : List It) (ch : List Int) (w : World) (hv : Items w v xs) (hu : Ints w u ch) :
    Calls Tryz.prog 29 #[.agg #[.int .i64 a, .int .i64 b, .int .i64 c, .int .i64 d], v, u] w fun e w' => e = .returned (.bool (checkB a b c d xs ch)) ∧ Below w.heap.size w w' := by
  go_enter Tryz.func29, Tryz.ntmps29
  go_wp2_with fail
  refine box1 (C := fun W => Calls _ _ _ W _) ?_
  intro wb hw k1 hB0
  have R1 := boxRule k1
  clear k1
  refine (l30Choice_any _ _ _ _ _ _ _ _ _ (hv.to hw) (hu.to hw)).mono ?_; rintro e w2 ⟨rfl, hb2⟩
  have hB2 := bw_to hB0 hb2
  have hBw2 := bw_to hw hB2
  by_cases hok : choiceOk a b c d xs ch = true
  · have Hp := Lib.hid (choiceOk_parts hok)
    have Hpl : Hid (planB a b c d xs = true) := by have := Hp.out; unfold planB; rw [this.1, this.2.1]; rfl
    go_wp2_with fail
    refine (l30Best_any _ _ _ _ _ _ _ (hv.to hBw2) Hp.out.1 Hp.out.2.1).mono ?_; rintro e w3 ⟨r, rfl, ho3, hb3⟩
    have hB3 := bw_to hB2 hb3
    have hBw3 := bw_to hw hB3
    go_wp2_with fail
    refine (l1Same_any _ _ ch _ _ (hu.to hBw3) (ints_of_own ho3)).mono ?_; rintro e w4 ⟨rfl, hb4⟩
    go_wp2_with fail
    go_ret
    exact ⟨ret_bool (by unfold checkB; rw [Hpl.out, Bool.true_and]; exact decide_eq_decide.2 ⟨fun h => h.symm, fun h => h.symm⟩), bw_to hBw3 hb4⟩
  · have hok' : choiceOk a b c d xs ch = false := by simpa using hok
    have Hok := Lib.hid (check_spec hok')
    clear hok
    go_wp2_with fail
    go_ret
    exact ⟨ret_bool Hok.out.symm, hBw2⟩
end Go.Proofs.YtofpjbdelmmclaaGreatDoor

/- The law of BestPlan. -/
namespace Go.Proofs.YtofpjbdelmmclaaGreatDoor
open Go Go.RowKit
set_option linter.unusedVariables false
set_option linter.unusedSimpArgs false

def planL (a b c d : Int) (xs : List It) : List Int := if planB a b c d xs then bestS a b c d xs else []
theorem planL_yes {a b c d : Int} {xs : List It} (h : planB a b c d xs = true) : planL a b c d xs = bestTo a b c d xs (2 ^ xs.length) := by unfold planL; rw [h]; rfl
theorem planL_no {a b c d : Int} {xs : List It} (h : planB a b c d xs = false) : planL a b c d xs = [] := by unfold planL; rw [h]; rfl
theorem ret_sb {v : Value} {p q : Bool} (k : p = q) : Ending.returned (.tuple #[v, .bool p]) = .returned (.tuple #[v, .bool q]) := by rw [k]
theorem planL_len (a b c d : Int) (xs : List It) : (planL a b c d xs).length ≤ xs.length := by
  unfold planL
  split
  · exact rising_len (choice_rising (best_ok a b c d xs _))
  · simp

set_option maxHeartbeats 1000000 in
theorem implBestPlan_any (a b c d : Int) (v : Value) (xs : List It) (w : World) (hv : Items w v xs) :
    Calls Tryz.prog 14 #[.agg #[.int .i64 a, .int .i64 b, .int .i64 c, .int .i64 d], v] w fun e w' =>
      ∃ r : Value, e = .returned (.tuple #[r, .bool (planB a b c d xs)]) ∧ w'.ownsRow w.heap.size 3 1 r (planL a b c d xs).length ((planL a b c d xs).map (Value.int .i64)) ∧ Below w.heap.size w w' := by
  go_enter Tryz.func14, Tryz.ntmps14
  go_wp2_with fail
  refine box1 (C := fun W => Calls _ _ _ W _) ?_
  intro wb hw k1 hB0
  have R1 := boxRule k1
  clear k1
  refine (goodPlan_any _ _ _ _ _ _ _ (hv.to hw)).mono ?_; rintro e w2 ⟨rfl, hb2⟩
  have hB2 := bw_to hB0 hb2
  have hBw2 := bw_to hw hB2
  by_cases hpl : planB a b c d xs = true
  · have Hpl := Lib.hid hpl
    go_wp2_with fail
    refine (bestPlan_any _ _ _ _ _ _ _ (hv.to hBw2) (plan_parts Hpl.out).1 (plan_parts Hpl.out).2).mono ?_; rintro e w3 ⟨r, rfl, ho3, hb3⟩
    go_wp2_with fail
    go_ret2
    refine ⟨r, ret_sb Hpl.out.symm, ?_, bw_to hBw2 hb3⟩
    rw [planL_yes Hpl.out]
    exact own_base ho3 hBw2.size
  · have hpl' : planB a b c d xs = false := by simpa using hpl
    have Hpl := Lib.hid hpl'
    clear hpl
    go_wp2_with fail
    go_ret2
    refine ⟨_, ret_sb Hpl.out.symm, ?_, hBw2⟩
    rw [planL_no Hpl.out]
    exact World.ownsRow_nil _ _ _ _
set_option maxHeartbeats 1000000 in
theorem specBestPlan_any (a b c d : Int) (v : Value) (xs : List It) (w : World) (hv : Items w v xs) :
    Calls Tryz.prog 15 #[.agg #[.int .i64 a, .int .i64 b, .int .i64 c, .int .i64 d], v] w fun e w' =>
      ∃ r : Value, e = .returned (.tuple #[r, .bool (planB a b c d xs)]) ∧ w'.ownsRow w.heap.size 3 1 r (planL a b c d xs).length ((planL a b c d xs).map (Value.int .i64)) ∧ Below w.heap.size w w' := by
  go_enter Tryz.func15, Tryz.ntmps15
  go_wp2_with fail
  refine box1 (C := fun W => Calls _ _ _ W _) ?_
  intro wb hw k1 hB0
  have R1 := boxRule k1
  clear k1
  refine (l30Evening_any _ _ _ _ _).mono ?_; rintro e w2 ⟨rfl, hb2⟩
  have hB2 := bw_to hB0 hb2
  have hBw2 := bw_to hw hB2
  by_cases he : evB a b c d = true
  · have He := Lib.hid he
    go_wp2_with fail
    refine (l30Items_any _ _ _ (hv.to hBw2)).mono ?_; rintro e w3 ⟨rfl, hb3⟩
    have hB3 := bw_to hB2 hb3
    have hBw3 := bw_to hw hB3
    by_cases hx : itemsB xs = true
    · have Hx := Lib.hid hx
      have Hpl : Hid (planB a b c d xs = true) := by unfold planB; rw [He.out, Hx.out]; rfl
      go_wp2_with fail
      refine (l30Best_any _ _ _ _ _ _ _ (hv.to hBw3) He.out Hx.out).mono ?_; rintro e w4 ⟨r, rfl, ho4, hb4⟩
      go_wp2_with fail
      go_ret2
      refine ⟨r, ret_sb Hpl.out.symm, ?_, bw_to hBw3 hb4⟩
      rw [planL_yes Hpl.out]
      exact own_base ho4 hBw3.size
    · have hx' : itemsB xs = false := by simpa using hx
      have Hpl : Hid (planB a b c d xs = false) := by unfold planB; rw [hx', Bool.and_false]; rfl
      clear hx
      go_wp2_with fail
      go_ret2
      refine ⟨_, ret_sb Hpl.out.symm, ?_, hBw3⟩
      rw [planL_no Hpl.out]
      exact World.ownsRow_nil _ _ _ _
  · have he' : evB a b c d = false := by simpa using he
    have Hpl : Hid (planB a b c d xs = false) := by unfold planB; rw [he', Bool.false_and]; rfl
    clear he
    go_wp2_with fail
    go_ret2
    refine ⟨_, ret_sb Hpl.out.symm, ?_, hBw2⟩
    rw [planL_no Hpl.out]
    exact World.ownsRow_nil _ _ _ _
end Go.Proofs.YtofpjbdelmmclaaGreatDoor

/- No choice that fits is worth more than the best one; the best one fits: a plain account. -/
namespace Go.Proofs.YtofpjbdelmmclaaGreatDoor
open Go Go.RowKit
set_option linter.unusedVariables false
set_option linter.unusedSimpArgs false

theorem best_fits (a b c d : Int) (xs : List It) (hc : 0 ≤ c) : ∀ n, fitsB a b c d xs (bestTo a b c d xs n) = true := by
  intro n
  induction n with
  | zero =>
    show fitsB a b c d xs [] = true
    unfold fitsB
    rw [choice_nil, Bool.true_and]
    apply decide_eq_true
    unfold timeS
    simp
    exact hc
  | succ n ih =>
    rw [bestTo_succ]
    unfold stepBest
    split
    · rename_i h
      rw [Bool.and_eq_true] at h
      exact h.1
    · exact ih
theorem better_worth {b d : Int} {xs : List It} {p q : List Int} (h : betterB b d xs p q = true) : worthS xs q ≤ worthS xs p := by
  unfold betterB at h
  by_cases e : worthS xs p = worthS xs q
  · omega
  · rw [if_neg e] at h
    have := of_decide_eq_true h
    omega
theorem worse_worth {b d : Int} {xs : List It} {p q : List Int} (h : betterB b d xs p q = false) : worthS xs p ≤ worthS xs q := by
  unfold betterB at h
  by_cases e : worthS xs p = worthS xs q
  · omega
  · rw [if_neg e] at h
    have := of_decide_eq_false h
    omega
theorem best_most (a b c d : Int) (xs : List It) : ∀ n mask, mask < n → fitsB a b c d xs (maskL xs.length mask) = true → worthS xs (maskL xs.length mask) ≤ worthS xs (bestTo a b c d xs n) := by
  intro n
  induction n with
  | zero => intro mask hm; omega
  | succ n ih =>
    intro mask hm hf
    rw [bestTo_succ]
    unfold stepBest
    rcases Nat.lt_or_ge mask n with h1 | h1
    · have h2 := ih mask h1 hf
      split
      · rename_i h
        rw [Bool.and_eq_true] at h
        have := better_worth h.2
        omega
      · exact h2
    · obtain rfl : mask = n := by omega
      rw [hf, Bool.true_and]
      split
      · exact Int.le_refl _
      · rename_i h
        exact worse_worth (by simpa using h)
/-- Only the lower bits of a mask count. -/
theorem maskL_mod (n mask : Nat) : maskL n mask = maskL n (mask % 2 ^ n) := by
  unfold maskL
  congr 1
  apply List.filter_congr
  intro k hk
  rw [Nat.testBit_mod_two_pow, decide_eq_true (List.mem_range.1 hk), Bool.true_and]
theorem best_all (a b c d : Int) (xs : List It) (mask : Nat) (hf : fitsB a b c d xs (maskL xs.length mask) = true) : worthS xs (maskL xs.length mask) ≤ worthS xs (bestTo a b c d xs (2 ^ xs.length)) := by
  rw [maskL_mod] at hf ⊢
  exact best_most a b c d xs _ _ (Nat.mod_lt _ (Nat.two_pow_pos _)) hf
end Go.Proofs.YtofpjbdelmmclaaGreatDoor

/- Contracts: the reference's choices and times; TimeIn. -/
import Derived.Test.YtofpjbdelmmclaaGreatDoorPk4
namespace Go.Proofs.YtofpjbdelmmclaaGreatDoor
open Go Go.RowKit
set_option linter.unusedVariables false
set_option linter.unusedSimpArgs false

set_option maxHeartbeats 1000000 in
theorem l30Items_any (v : Value) (xs : List It) (w : World) (hv : Items w v xs) : Calls Tryz.prog 54 #[v] w fun e w' => e = .returned (.bool (itemsB xs)) ∧ Below w.heap.size w w' := by
  obtain ⟨⟨A, c1, rfl, h1, h2, hr⟩, hg⟩ := hv
  unfold maxLen at h2
  go_enter Tryz.func54, Tryz.ntmps54
  go_wp2_with fail
  go_loopw [7] (fun i wr => ∃ k : Nat, k ≤ xs.length ∧ i = .int .i64 k ∧ Below w.heap.size w wr ∧ (xs.take k).all itB = true) (fun i _ => xs.length - (intOf i).toNat)
  case atStart => exact ⟨0, by omega, rfl, Below.refl _ _, rfl⟩
  case round =>
    obtain ⟨k, hk, rfl, hB, ha⟩ := hrel
    have Ha := Lib.hid ha
    clear ha
    by_cases hlt : k < xs.length
    · obtain ⟨ad, rfl, hC⟩ := items_el hr hlt
      go_wp2_with fail
      refine (l30Item_any xs[k] _ (hg _ (List.getElem_mem hlt))).mono ?_; rintro e w2 ⟨rfl, hb2⟩
      have hB2 := bw_to (bw_al hB _) hb2
      by_cases hi : itB xs[k] = true
      · go_wp2_with fail
        exact ⟨⟨k + 1, by omega, by go_num, hB2, all_step hlt Ha.out hi⟩, by simp [intOf]; omega⟩
      · have hi' : itB xs[k] = false := by simpa using hi
        have Hi := Lib.hid hi'
        clear hi
        go_wp2_with fail
        go_ret
        exact ⟨ret_bool (by unfold itemsB; rw [all_false hlt Hi.out]; rfl), hB2⟩
    · obtain rfl : k = xs.length := by omega
      have Ha' := Lib.hid (all_true rfl Ha.out)
      go_wp2_with fail
      go_ret
      exact ⟨ret_bool (by unfold itemsB; rw [Ha'.out]; simp; try omega), hB⟩
set_option maxHeartbeats 1000000 in
theorem l1Rising_any (u : Value) (len : Nat) (ch : List Int) (w : World) (hu : Ints w u ch) (hlen : len ≤ maxLen) : Calls Tryz.prog 89 #[u, .int .i64 0, .int .i64 ((len : Int) - 1)] w fun e w' => e = .returned (.bool (risingB len ch)) ∧ w = w' := by
  obtain ⟨A', c2, rfl, h1', h2', hr'⟩ := hu
  unfold maxLen at h2' hlen
  go_enter Tryz.func89, Tryz.ntmps89
  go_wp2_with fail
  go_loop [11] (fun i => ∃ k : Nat, k ≤ ch.length ∧ i = .int .i64 k ∧ (List.range k).all (ok1 len ch) = true) (fun i => ch.length - (intOf i).toNat)
  case atStart => exact ⟨0, by omega, rfl, rfl⟩
  case round =>
    obtain ⟨k, hk, rfl, ha⟩ := hrel
    have Ha := Lib.hid ha
    clear ha
    have hB := Below.refl w.heap.size w
    by_cases hlt : k < ch.length
    · obtain ⟨ad', rfl, hC'⟩ := ints_el hr' hlt
      have hok := Lib.hid (getD_get hlt)
      by_cases hin : 0 ≤ ch[k] ∧ ch[k] ≤ (len : Int) - 1
      · by_cases hk0 : 0 < k
        · obtain ⟨_, e', hC2⟩ := ints_el hr' (k := k - 1) (by omega)
          injection e' with e'
          subst e'
          have hpre := getD_get (ch := ch) (i := k - 1) (by omega)
          by_cases hup : ch[k - 1] < ch[k]
          · have Hok := Lib.hid (ok1_yes (len := len) hok.out hin (.inr (by rw [hpre]; omega)))
            clear hpre
            go_wp2_with (go_at_call 68; refine (l1In_any _ _ _ _).mono ?_; rintro e w' ⟨rfl, rfl⟩)
            exact ⟨⟨k + 1, by omega, by go_num, rall_step Ha.out Hok.out⟩, by simp [intOf]; omega⟩
          · have Hok := Lib.hid (ok1_no2 (len := len) hok.out hpre hk0 (by omega))
            clear hpre
            go_wp2_with (go_at_call 68; refine (l1In_any _ _ _ _).mono ?_; rintro e w' ⟨rfl, rfl⟩)
            go_ret
            exact ⟨ret_bool (rall_false hlt Hok.out).symm, rfl⟩
        · have Hok := Lib.hid (ok1_yes (len := len) hok.out hin (.inl (by omega)))
          go_wp2_with (go_at_call 68; refine (l1In_any _ _ _ _).mono ?_; rintro e w' ⟨rfl, rfl⟩)
          exact ⟨⟨k + 1, by omega, by go_num, rall_step Ha.out Hok.out⟩, by simp [intOf]; omega⟩
      · have Hok := Lib.hid (ok1_no (getD_get hlt) hin)
        go_wp2_with (go_at_call 68; refine (l1In_any _ _ _ _).mono ?_; rintro e w' ⟨rfl, rfl⟩)
        go_ret
        exact ⟨ret_bool (rall_false hlt Hok.out).symm, rfl⟩
    · obtain rfl : k = ch.length := by omega
      go_wp2_with fail
      go_ret
      exact ⟨ret_bool Ha.out.symm, rfl⟩
def choiceOk (a b c d : Int) (xs : List It) (ch : List Int) : Bool := evB a b c d && itemsB xs && choiceB a xs ch
theorem choiceOk_ev {a b c d : Int} {xs : List It} {ch : List Int} (h : evB a b c d = false) : choiceOk a b c d xs ch = false := by unfold choiceOk; rw [h]; rfl
theorem choiceOk_items {a b c d : Int} {xs : List It} {ch : List Int} (h : itemsB xs = false) : choiceOk a b c d xs ch = false := by unfold choiceOk; rw [h]; simp
theorem choiceOk_rise {a b c d : Int} {xs : List It} {ch : List Int} (h : risingB xs.length ch = false) : choiceOk a b c d xs ch = false := by unfold choiceOk; rw [choice_two, h]; simp
theorem choiceOk_stage {a b c d : Int} {xs : List It} {ch : List Int} (h : stagesB a xs ch = false) : choiceOk a b c d xs ch = false := by unfold choiceOk; rw [choice_two, h]; simp
theorem choiceOk_yes {a b c d : Int} {xs : List It} {ch : List Int} (h1 : evB a b c d = true) (h2 : itemsB xs = true) (h3 : risingB xs.length ch = true) (h4 : stagesB a xs ch = true) : choiceOk a b c d xs ch = true := by
  unfold choiceOk; rw [choice_two, h1, h2, h3, h4]; rfl
theorem rising_in {len : Nat} {ch : List Int} (h : risingB len ch = true) {i : Nat} (hi : i < ch.length) : ∃ m : Nat, ch[i] = (m : Int) ∧ m < len := by
  have h1 := rising_ge h i hi
  rw [getD_get hi] at h1
  exact ⟨ch[i].toNat, by omega, by omega⟩
set_option maxHeartbeats 1000000 in
theorem l30Choice_any (a b c d : Int) (v u : Value) (xs : List It) (ch : List Int) (w : World) (hv : Items w v xs) (hu : Ints w u ch) :
    Calls Tryz.prog 59 #[.agg #[.int .i64 a, .int .i64 b, .int .i64 c, .int .i64 d], v, u] w fun e w' => e = .returned (.bool (choiceOk a b c d xs ch)) ∧ Below w.heap.size w w' := by
  have hv0 := hv
  have hu0 := hu
  obtain ⟨⟨A, c1, rfl, h1, h2, hr⟩, hg⟩ := hv
  obtain ⟨A', c2, rfl, h1', h2', hr'⟩ := hu
  have h3 : xs.length ≤ maxLen := by omega
  unfold maxLen at h2 h2'
  go_enter Tryz.func59, Tryz.ntmps59
  go_wp2_with fail
  refine box1 (C := fun W => Calls _ _ _ W _) ?_
  intro wb hw k1 hB0
  have R1 := boxRule k1
  clear k1
  refine (l30Evening_any _ _ _ _ _).mono ?_; rintro e w2 ⟨rfl, hb2⟩
  have hB2 := bw_to hB0 hb2
  have hBw2 := bw_to hw hB2
  by_cases he : evB a b c d = true
  · have hi2 := hv0.to hBw2
    go_wp2_with fail
    refine (l30Items_any _ _ _ hi2).mono ?_; rintro e w3 ⟨rfl, hb3⟩
    have hB3 := bw_to hB2 hb3
    have hBw3 := bw_to hw hB3
    by_cases hx : itemsB xs = true
    · have hu3 := hu0.to hBw3
      go_wp2_with fail
      refine (l1Rising_any _ xs.length ch _ hu3 h3).mono ?_; rintro e w4 ⟨rfl, rfl⟩
      by_cases hri : risingB xs.length ch = true
      · have He := Lib.hid he
        have Hx := Lib.hid hx
        have Hri := Lib.hid hri
        go_wp2_with fail
        clear he hx hri
        go_loopw [27] (fun i wr => ∃ k : Nat, k ≤ ch.length ∧ i = .int .i64 k ∧ Below wb.heap.size wb wr ∧ (List.range k).all (ok2 a xs ch) = true) (fun i _ => ch.length - (intOf i).toNat)
        case atStart => exact ⟨0, by omega, rfl, hB3, rfl⟩
        case round =>
          obtain ⟨k, hk, rfl, hB, ha⟩ := hrel
          have Ha := Lib.hid ha
          clear ha
          have hBw := bw_to hw hB
          by_cases hlt : k < ch.length
          · obtain ⟨m, hm, hmx⟩ := rising_in Hri.out hlt
            have hok := getD_get hlt
            obtain ⟨ad', rfl, hC'⟩ := ints_el hr' hlt
            obtain ⟨ad, rfl, hC⟩ := items_el hr hmx
            have hmi : (m : Int) < xs.length := by omega
            by_cases hst : xs[m].stage ≤ a
            · have Hok := Lib.hid (ok2_yes hok hm hmx hst)
              clear hok
              have hdst : decide (a < xs[m].stage) = false := by simpa using hst
              go_wp2_with fail
              go_big_quiet (fail)
              go_wp2_with fail
              exact ⟨⟨k + 1, by omega, by go_num, bw_dr hB _, rall_step Ha.out Hok.out⟩, by simp [intOf]; omega⟩
            · have Hok := Lib.hid (ok2_no hok hm hmx hst)
              clear hok
              have hdst : decide (a < xs[m].stage) = true := by simpa using hst
              go_wp2_with fail
              go_big_quiet (fail)
              go_wp2_with fail
              go_ret
              exact ⟨ret_bool (choiceOk_stage (rall_false hlt Hok.out)).symm, bw_to hw (bw_dr hB _)⟩
          · obtain rfl : k = ch.length := by omega
            go_wp2_with fail
            go_ret
            exact ⟨ret_bool (choiceOk_yes He.out Hx.out Hri.out Ha.out).symm, hBw⟩
      · have hri' : risingB xs.length ch = false := by simpa using hri
        have Hri := Lib.hid hri'
        clear hri
        go_wp2_with fail
        go_ret
        exact ⟨ret_bool (choiceOk_rise Hri.out).symm, hBw3⟩
    · have hx' : itemsB xs = false := by simpa using hx
      have Hx := Lib.hid hx'
      clear hx
      go_wp2_with fail
      go_ret
      exact ⟨ret_bool (choiceOk_items Hx.out).symm, hBw3⟩
  · have he' : evB a b c d = false := by simpa using he
    have He := Lib.hid he'
    clear he
    go_wp2_with fail
    go_ret
    exact ⟨ret_bool (choiceOk_ev He.out).symm, hBw2⟩
set_option maxHeartbeats 1000000 in
theorem l30Time_any (a b c d : Int) (v u : Value) (xs : List It) (ch : List Int) (w : World) (hv : Items w v xs) (hu : Ints w u ch) (he : evB a b c d = true) (hx : itemsB xs = true) (hc : choiceB a xs ch = true) :
    Calls Tryz.prog 60 #[.agg #[.int .i64 a, .int .i64 b, .int .i64 c, .int .i64 d], v, u] w fun e w' => e = .returned (.int .i64 (timeS b d xs ch)) ∧ Below w.heap.size w w' := by
  obtain ⟨⟨A, c1, rfl, h1, h2, hr⟩, hg⟩ := hv
  obtain ⟨A', c2, rfl, h1', h2', hr'⟩ := hu
  unfold maxLen at h2 h2'
  have hlen := choice_len hx hc
  obtain ⟨_, _, _, _, _, _, hd0, hd1⟩ := evB_bd he
  have Hc := Lib.hid hc
  have He := Lib.hid he
  have Hx := Lib.hid hx
  clear hc he hx
  go_enter Tryz.func60, Tryz.ntmps60
  go_wp2_with fail
  refine box1 (C := fun W => Code.wp _ _ _ _ W) ?_
  intro wb hw k1 hB0
  have R1 := boxRule k1
  clear k1
  go_loopw [7, 12] (fun s i wr => ∃ k : Nat, k ≤ ch.length ∧ i = .int .i64 k ∧ s = .int .i64 (gaps d k + sumR b xs (ch.take k)) ∧ Below wb.heap.size wb wr) (fun _ i _ => ch.length - (intOf i).toNat)
  case atStart => exact ⟨0, by omega, rfl, by simp [gaps_zero, sumR], hB0⟩
  case round =>
    obtain ⟨k, hk, rfl, rfl, hB⟩ := hrel
    have hBw := bw_to hw hB
    by_cases hlt : k < ch.length
    · obtain ⟨m, hm, hmx⟩ := choice_in Hc.out hlt
      have hS := sumR_bd He.out Hx.out Hc.out k hk
      have Hsucc := Lib.hid (sumR_succ (b := b) hlt hm hmx)
      have hrp := rows_pace He.out (items_good Hx.out hmx)
      have hgk := gaps_bd hd0 hd1 (i := k) (by omega)
      obtain ⟨ad', rfl, hC'⟩ := ints_el hr' hlt
      obtain ⟨ad, rfl, hC⟩ := items_el hr hmx
      have hmi : (m : Int) < xs.length := by omega
      have hw1 : IntKind.i64.wrap (xs[m].rows * b) = xs[m].rows * b := IntWalk.i64_in _ (by omega)
      have hw2 : IntKind.i64.wrap (gaps d k + sumR b xs (ch.take k) + xs[m].rows * b) = gaps d k + sumR b xs (ch.take k) + xs[m].rows * b := IntWalk.i64_in _ (by omega)
      by_cases hk0 : 0 < k
      · have Hg := Lib.hid (gaps_succ d hk0)
        go_wp2_with fail
        go_big_quiet (fail)
        clear hw1 hw2
        go_wp2_with fail
        refine ⟨⟨k + 1, by omega, by go_num, ?_, bw_dr hB _⟩, by simp [intOf]; omega⟩
        rw [Hsucc.out, Hg.out]
        exact congrArg (Value.int .i64) (by omega)
      · have Hg := Lib.hid (gaps_first d (i := k) (by omega))
        have hd : decide (0 < (k : Int)) = false := by simpa using hk0
        have hd2 : decide (0 < k) = false := by simpa using hk0
        clear hk0
        go_wp2_with fail
        go_big_quiet (fail)
        clear hw1 hw2
        go_wp2_with fail
        refine ⟨⟨k + 1, by omega, by go_num, ?_, bw_dr hB _⟩, by simp [intOf]; omega⟩
        rw [Hsucc.out, Hg.out]
        exact congrArg (Value.int .i64) (by omega)
    · obtain rfl : k = ch.length := by omega
      go_wp2_with fail
      go_ret
      refine ⟨ret_int ?_, hBw⟩
      rw [timeS_eq, List.take_length, Int.add_comm]
def timeInN (a b c d : Int) (xs : List It) (ch : List Int) : Int := if choiceOk a b c d xs ch then timeS b d xs ch else 0
theorem timeInN_no {a b c d : Int} {xs : List It} {ch : List Int} (h : choiceOk a b c d xs ch = false) : timeInN a b c d xs ch = 0 := by unfold timeInN; rw [h]; rfl
theorem timeInN_yes {a b c d : Int} {xs : List It} {ch : List Int} (h : choiceOk a b c d xs ch = true) : timeInN a b c d xs ch = timeS b d xs ch := by unfold timeInN; rw [h]; rfl
theorem choiceOk_parts {a b c d : Int} {xs : List It} {ch : List Int} (h : choiceOk a b c d xs ch = true) : evB a b c d = true ∧ itemsB xs = true ∧ choiceB a xs ch = true := by
  unfold choiceOk at h; simp only [Bool.and_eq_true] at h; exact ⟨h.1.1, h.1.2, h.2⟩
theorem ret_ib {a b : Int} {p q : Bool} (h : a = b) (k : p = q) : Ending.returned (.tuple #[.int .i64 a, .bool p]) = .returned (.tuple #[.int .i64 b, .bool q]) := by rw [h, k]
set_option maxHeartbeats 1000000 in
theorem specTimeIn_any (a b c d : Int) (v u : Value) (xs : List It) (ch : List Int) (w : World) (hv : Items w v xs) (hu : Ints w u ch) :
    Calls Tryz.prog 18 #[.agg #[.int .i64 a, .int .i64 b, .int .i64 c, .int .i64 d], v, u] w fun e w' => e = .returned (.tuple #[.int .i64 (timeInN a b c d xs ch), .bool (choiceOk a b c d xs ch)]) ∧ Below w.heap.size w w' := by
  go_enter Tryz.func18, Tryz.ntmps18
  go_wp2_with fail
  refine box1 (C := fun W => Calls _ _ _ W _) ?_
  intro wb hw k1 hB0
  have R1 := boxRule k1
  clear k1
  refine (l30Choice_any _ _ _ _ _ _ _ _ _ (hv.to hw) (hu.to hw)).mono ?_; rintro e w2 ⟨rfl, hb2⟩
  have hB2 := bw_to hB0 hb2
  have hBw2 := bw_to hw hB2
  by_cases hok : choiceOk a b c d xs ch = true
  · obtain ⟨he, hx, hc⟩ := choiceOk_parts hok
    have Hok := Lib.hid hok
    have He := Lib.hid he
    have Hx := Lib.hid hx
    have Hc := Lib.hid hc
    clear he hx hc
    go_wp2_with fail
    refine (l30Time_any _ _ _ _ _ _ _ _ _ (hv.to hBw2) (hu.to hBw2) He.out Hx.out Hc.out).mono ?_; rintro e w3 ⟨rfl, hb3⟩
    go_wp2_with fail
    go_ret2
    exact ⟨ret_ib (timeInN_yes Hok.out).symm Hok.out.symm, bw_to hBw2 hb3⟩
  · have hok' : choiceOk a b c d xs ch = false := by simpa using hok
    have Hok := Lib.hid hok'
    clear hok
    go_wp2_with fail
    go_ret2
    exact ⟨ret_ib (timeInN_no Hok.out).symm Hok.out.symm, hBw2⟩
set_option maxHeartbeats 1000000 in
theorem implTimeIn_any (a b c d : Int) (v u : Value) (xs : List It) (ch : List Int) (w : World) (hv : Items w v xs) (hu : Ints w u ch) :
    Calls Tryz.prog 17 #[.agg #[.int .i64 a, .int .i64 b, .int .i64 c, .int .i64 d], v, u] w fun e w' => e = .returned (.tuple #[.int .i64 (timeInN a b c d xs ch), .bool (choiceOk a b c d xs ch)]) ∧ Below w.heap.size w w' := by
  go_enter Tryz.func17, Tryz.ntmps17
  go_wp2_with fail
  refine box1 (C := fun W => Calls _ _ _ W _) ?_
  intro wb hw k1 hB0
  have R1 := boxRule k1
  clear k1
  refine (goodPlan_any _ _ _ _ _ _ _ (hv.to hw)).mono ?_; rintro e w2 ⟨rfl, hb2⟩
  have hB2 := bw_to hB0 hb2
  have hBw2 := bw_to hw hB2
  by_cases hpl : planB a b c d xs = true
  · have Hpl := Lib.hid hpl
    go_wp2_with fail
    refine (isChoice_any _ _ _ _ _ _ _ _ _ (hv.to hBw2) (hu.to hBw2)).mono ?_; rintro e w3 ⟨rfl, hb3⟩
    have hB3 := bw_to hB2 hb3
    have hBw3 := bw_to hw hB3
    by_cases hc : choiceB a xs ch = true
    · have Hc := Lib.hid hc
      have hpl2 := Hpl.out
      simp only [planB, Bool.and_eq_true] at hpl2
      have He := Lib.hid hpl2.1
      have Hx := Lib.hid hpl2.2
      have Hok : Hid (choiceOk a b c d xs ch = true) := by unfold choiceOk; rw [He.out, Hx.out, Hc.out]; rfl
      clear hpl2
      go_wp2_with fail
      refine (timeIn_any _ _ _ _ _ _ _ _ _ (hv.to hBw3) (hu.to hBw3) He.out Hx.out Hc.out).mono ?_; rintro e w4 ⟨rfl, hb4⟩
      go_wp2_with fail
      go_ret2
      exact ⟨ret_ib (timeInN_yes Hok.out).symm Hok.out.symm, bw_to hBw3 hb4⟩
    · have hc' : choiceB a xs ch = false := by simpa using hc
      have Hok : Hid (choiceOk a b c d xs ch = false) := by unfold choiceOk; rw [hc', Bool.and_false]; rfl
      clear hc
      go_wp2_with fail
      go_ret2
      exact ⟨ret_ib (timeInN_no Hok.out).symm Hok.out.symm, hBw3⟩
  · have hpl' : planB a b c d xs = false := by simpa using hpl
    have Hok : Hid (choiceOk a b c d xs ch = false) := by unfold choiceOk; unfold planB at hpl'; rw [hpl', Bool.false_and]; rfl
    clear hpl
    go_wp2_with fail
    go_ret2
    exact ⟨ret_ib (timeInN_no Hok.out).symm Hok.out.symm, hBw2⟩
end Go.Proofs.YtofpjbdelmmclaaGreatDoor

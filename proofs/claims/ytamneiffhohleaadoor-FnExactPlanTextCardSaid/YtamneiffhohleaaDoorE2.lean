/- Contracts: plans' guards, and the time of a choice. -/
import Derived.Test.YtamneiffhohleaaDoorE1
namespace Go.Proofs.YtamneiffhohleaaDoor
open Go Go.RowKit
set_option linter.unusedVariables false
set_option linter.unusedSimpArgs false

set_option maxHeartbeats 1000000 in
theorem goodPlan_any (a b c d : Int) (v : Value) (xs : List It) (w : World) (hv : Items w v xs) :
    Calls Tryd.prog 59 #[.agg #[.int .i64 a, .int .i64 b, .int .i64 c, .int .i64 d], v] w fun e w' => e = .returned (.bool (planB a b c d xs)) ∧ Below w.heap.size w w' := by
  obtain ⟨⟨A, c1, rfl, h1, h2, hr⟩, hg⟩ := hv
  unfold maxLen at h2
  go_enter Tryd.func59, Tryd.ntmps59
  go_wp2_with fail
  refine box1 (C := fun W => Code.wp _ _ _ _ W) ?_
  intro wb hw k1 hB0
  have R1 := boxRule k1
  clear k1
  go_loopw [9] (fun i wr => ∃ k : Nat, k ≤ xs.length ∧ i = .int .i64 k ∧ Below wb.heap.size wb wr ∧ (xs.take k).all itB = true) (fun i _ => xs.length - (intOf i).toNat)
  case atStart => exact ⟨0, by omega, rfl, hB0, rfl⟩
  case round =>
    obtain ⟨k, hk, rfl, hB, ha⟩ := hrel
    have Ha := Lib.hid ha
    clear ha
    have hBw := bw_to hw hB
    by_cases hlt : k < xs.length
    · obtain ⟨ad, rfl, hC⟩ := items_el hr hlt
      go_wp2_with fail
      refine (implGoodItem_any xs[k] _ (hg _ (List.getElem_mem hlt))).mono ?_; rintro e w2 ⟨rfl, hb2⟩
      have hB2 := bw_to (bw_al hB _) hb2
      by_cases hi : itB xs[k] = true
      · go_wp2_with fail
        exact ⟨⟨k + 1, by omega, by go_num, hB2, all_step hlt Ha.out hi⟩, by simp [intOf]; omega⟩
      · have hi' : itB xs[k] = false := by simpa using hi
        have Hi := Lib.hid hi'
        clear hi
        go_wp2_with fail
        go_ret
        exact ⟨ret_bool (by unfold planB itemsB; rw [all_false hlt Hi.out]; simp), bw_to hw hB2⟩
    · obtain rfl : k = xs.length := by omega
      have Ha' := Lib.hid (all_true rfl Ha.out)
      go_wp2_with fail
      refine (implGoodEvening_any _ _ _ _ _).mono ?_; rintro e w2 ⟨rfl, hb2⟩
      have hB2 := bw_to hB hb2
      go_wp2_with fail
      all_goals
        go_ret
        exact ⟨ret_bool (by unfold planB itemsB; rw [Ha'.out]; simp [*]; try omega), bw_to hw hB2⟩
set_option maxHeartbeats 1000000 in
theorem timeIn_any (a b c d : Int) (v u : Value) (xs : List It) (ch : List Int) (w : World) (hv : Items w v xs) (hu : Ints w u ch) (he : evB a b c d = true) (hx : itemsB xs = true) (hc : choiceB a xs ch = true) :
    Calls Tryd.prog 61 #[.agg #[.int .i64 a, .int .i64 b, .int .i64 c, .int .i64 d], v, u] w fun e w' => e = .returned (.int .i64 (timeS b d xs ch)) ∧ Below w.heap.size w w' := by
  obtain ⟨⟨A, c1, rfl, h1, h2, hr⟩, hg⟩ := hv
  obtain ⟨A', c2, rfl, h1', h2', hr'⟩ := hu
  unfold maxLen at h2 h2'
  have hlen := choice_len hx hc
  obtain ⟨_, _, _, _, _, _, hd0, hd1⟩ := evB_bd he
  have hgap := gaps_bd hd0 hd1 hlen
  have Hc := Lib.hid hc
  have He := Lib.hid he
  have Hx := Lib.hid hx
  clear hc he hx
  by_cases hz : 1 < ch.length
  all_goals
    have hgd := Lib.hid (gaps_one_of d ch.length)
    have hq := gaps_raw hd0 hd1 hlen
    go_enter Tryd.func61, Tryd.ntmps61
    go_wp2_with fail
    refine box1 (C := fun W => Code.wp _ _ _ _ W) ?_
    intro wb hw k1 hB0
    have R1 := boxRule k1
    clear k1
    go_loopw [7, 19] (fun s i wr => ∃ k : Nat, k ≤ ch.length ∧ i = .int .i64 k ∧ s = .int .i64 (gaps d ch.length + sumR b xs (ch.take k)) ∧ Below wb.heap.size wb wr) (fun _ i _ => ch.length - (intOf i).toNat)
    case atStart =>
      refine ⟨0, by omega, rfl, ?_, hB0⟩
      rw [hgd.out]
      first | rw [if_neg (by omega)] | rw [if_pos (by omega)]
      simp [sumR]
    case round =>
      obtain ⟨k, hk, rfl, rfl, hB⟩ := hrel
      have hBw := bw_to hw hB
      by_cases hlt : k < ch.length
      · obtain ⟨m, hm, hmx⟩ := choice_in Hc.out hlt
        have hS := sumR_bd He.out Hx.out Hc.out k hk
        have hS2 := sumR_bd He.out Hx.out Hc.out (k + 1) hlt
        have Hsucc := Lib.hid (sumR_succ (b := b) hlt hm hmx)
        rw [Hsucc.out] at hS2
        have hrp := rows_pace He.out (items_good Hx.out hmx)
        obtain ⟨ad', rfl, hC'⟩ := ints_el hr' hlt
        obtain ⟨ad, rfl, hC⟩ := items_el hr hmx
        have hmi : (m : Int) < xs.length := by omega
        have hw1 : IntKind.i64.wrap (xs[m].rows * b) = xs[m].rows * b := IntWalk.i64_in _ (by omega)
        have hw2 : IntKind.i64.wrap (gaps d ch.length + sumR b xs (ch.take k) + xs[m].rows * b) = gaps d ch.length + sumR b xs (ch.take k) + xs[m].rows * b := IntWalk.i64_in _ (by omega)
        go_wp2_with fail
        go_big_quiet (fail)
        clear hw1 hw2
        go_wp2_with fail
        refine ⟨⟨k + 1, by omega, by go_num, ?_, bw_dr hB _⟩, by simp [intOf]; omega⟩
        rw [Hsucc.out, Int.add_assoc]
      · obtain rfl : k = ch.length := by omega
        go_wp2_with fail
        go_ret
        refine ⟨ret_int ?_, bw_to hw hB⟩
        rw [timeS_eq, List.take_length, Int.add_comm]
end Go.Proofs.YtamneiffhohleaaDoor

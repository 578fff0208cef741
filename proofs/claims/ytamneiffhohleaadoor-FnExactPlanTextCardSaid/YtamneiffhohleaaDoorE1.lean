/- Contracts: choices, and the time of one. -/
import Derived.Test.YtamneiffhohleaaDoorD1
import Derived.Test.YtamneiffhohleaaDoorP1
namespace Go.Proofs.YtamneiffhohleaaDoor
open Go Go.RowKit
set_option linter.unusedVariables false
set_option linter.unusedSimpArgs false

theorem quiet_left {P : Program} {f : FuncId} {args : Array Value} {w : World} {n : Nat} {v : Value}
    (h : Calls P f args (w.drewN n) fun e w' => e = .returned v ∧ w.drewN n = w') : Calls P f args (w.drewN n) fun e w'' => e = .returned v ∧ ∃ m, w'' = w.drewN m :=
  h.mono fun _ _ ⟨he, hm⟩ => ⟨he, n, hm.symm⟩

theorem ok2_no {a : Int} {xs : List It} {ch : List Int} {i m : Nat} {z : Int} (hz : ch.getD i 0 = z) (hm : z = (m : Int)) (hx : m < xs.length) (h : ¬ xs[m].stage ≤ a) : ok2 a xs ch i = false := by
  unfold ok2; rw [hz, hm, Int.toNat_natCast, stageAt_get hx]; simpa using h
theorem ok2_yes {a : Int} {xs : List It} {ch : List Int} {i m : Nat} {z : Int} (hz : ch.getD i 0 = z) (hm : z = (m : Int)) (hx : m < xs.length) (h : xs[m].stage ≤ a) : ok2 a xs ch i = true := by
  unfold ok2; rw [hz, hm, Int.toNat_natCast, stageAt_get hx]; simpa using h
set_option maxHeartbeats 1000000 in
theorem isChoice_any (a b c d : Int) (v u : Value) (xs : List It) (ch : List Int) (w : World) (hv : Items w v xs) (hu : Ints w u ch) :
    Calls Tryd.prog 60 #[.agg #[.int .i64 a, .int .i64 b, .int .i64 c, .int .i64 d], v, u] w fun e w' => e = .returned (.bool (choiceB a xs ch)) ∧ Below w.heap.size w w' := by
  obtain ⟨⟨A, c1, rfl, h1, h2, hr⟩, hg⟩ := hv
  obtain ⟨A', c2, rfl, h1', h2', hr'⟩ := hu
  unfold maxLen at h2 h2'
  go_enter Tryd.func60, Tryd.ntmps60
  go_wp2_with fail
  refine box1 (C := fun W => Code.wp _ _ _ _ W) ?_
  intro wb hw k1 hB0
  have R1 := boxRule k1
  clear k1
  go_loopw [11] (fun i wr => ∃ k : Nat, k ≤ ch.length ∧ i = .int .i64 k ∧ Below wb.heap.size wb wr ∧ (List.range k).all (fun i => ok1 xs.length ch i && ok2 a xs ch i) = true) (fun i _ => ch.length - (intOf i).toNat)
  case atStart => exact ⟨0, by omega, rfl, hB0, rfl⟩
  case round =>
    obtain ⟨k, hk, rfl, hB, ha⟩ := hrel
    have Ha := Lib.hid ha
    clear ha
    by_cases hlt : k < ch.length
    · obtain ⟨ad', rfl, hC'⟩ := ints_el hr' hlt
      have hBw := bw_to hw hB
      by_cases hin : 0 ≤ ch[k] ∧ ch[k] ≤ (xs.length : Int) - 1
      · obtain ⟨m, hm⟩ := Int.eq_ofNat_of_zero_le hin.1
        have hmx : m < xs.length := by omega
        have hok := Lib.hid (getD_get hlt)
        have Hm := Lib.hid hm
        obtain ⟨ad, rfl, hC⟩ := items_el hr hmx
        have hw1 : IntKind.i64.wrap ((xs.length : Int) - 1) = (xs.length : Int) - 1 := IntWalk.i64_in _ (by omega)
        have hd1 : decide ((m : Int) ≤ (xs.length : Int) - 1) = true := by simp; omega
        have hmi : (m : Int) < xs.length := by omega
        by_cases hst : xs[m].stage ≤ a
        · have hdst : decide (a < xs[m].stage) = false := by simpa using hst
          by_cases hk0 : 0 < k
          · obtain ⟨_, e', hC2⟩ := ints_el hr' (k := k - 1) (by omega)
            injection e' with e'
            subst e'
            have hpre := getD_get (ch := ch) (i := k - 1) (by omega)
            by_cases hup : ch[k - 1] < m
            · have Hok := Lib.hid (ok1_yes (len := xs.length) hok.out hin (.inr (by rw [hpre]; omega)))
              have Hok2 := Lib.hid (ok2_yes hok.out Hm.out hmx hst)
              clear hpre
              have hw2 : IntKind.i64.wrap ((k : Int) - 1) = (k : Int) - 1 := IntWalk.i64_in _ (by omega)
              have hw3 : 0 ≤ (k : Int) - 1 := by omega
              have hw4 : ((k : Int) - 1).toNat = k - 1 := by omega
              have hw5 : (k : Int) - 1 < ch.length := by omega
              have hw6 : 1 ≤ (k : Int) := by omega
              have hw7 : (k : Int) ≤ ch.length := by omega
              go_wp2_with fail
              go_big_quiet ((go_at_call 31; exact quiet_left (within_any _ _ _ _)))
              clear hw1 hw2 hw3 hw4 hw5 hw6 hw7
              go_wp2_with fail
              exact ⟨⟨k + 1, by omega, by go_num, bw_dr hB _, rall_step Ha.out (by rw [Hok.out, Hok2.out]; rfl)⟩, by simp [intOf]; omega⟩
            · have Hok := Lib.hid (ok1_no2 (len := xs.length) hok.out hpre hk0 (by omega))
              clear hpre
              have hw2 : IntKind.i64.wrap ((k : Int) - 1) = (k : Int) - 1 := IntWalk.i64_in _ (by omega)
              have hw3 : 0 ≤ (k : Int) - 1 := by omega
              have hw4 : ((k : Int) - 1).toNat = k - 1 := by omega
              have hw5 : (k : Int) - 1 < ch.length := by omega
              have hw6 : 1 ≤ (k : Int) := by omega
              have hw7 : (k : Int) ≤ ch.length := by omega
              go_wp2_with fail
              go_big_quiet ((go_at_call 31; exact quiet_left (within_any _ _ _ _)))
              clear hw1 hw2 hw3 hw4 hw5 hw6 hw7
              go_wp2_with fail
              go_ret
              exact ⟨ret_bool (rall_false hlt (by rw [Hok.out, Bool.false_and])).symm, bw_to hw (bw_dr hB _)⟩
          · have hd : decide (0 < (k : Int)) = false := by simpa using hk0
            have hd2 : decide (0 < k) = false := by simpa using hk0
            have Hok := Lib.hid (ok1_yes (len := xs.length) hok.out hin (.inl (by omega)))
            have Hok2 := Lib.hid (ok2_yes hok.out Hm.out hmx hst)
            clear hk0
            go_wp2_with fail
            go_big_quiet ((go_at_call 31; exact quiet_left (within_any _ _ _ _)))
            clear hw1
            go_wp2_with fail
            exact ⟨⟨k + 1, by omega, by go_num, bw_dr hB _, rall_step Ha.out (by rw [Hok.out, Hok2.out]; rfl)⟩, by simp [intOf]; omega⟩
        · have Hok2 := Lib.hid (ok2_no hok.out Hm.out hmx hst)
          have hdst : decide (a < xs[m].stage) = true := by simpa using hst
          go_wp2_with fail
          go_big_quiet ((go_at_call 31; exact quiet_left (within_any _ _ _ _)))
          go_wp2_with fail
          go_ret
          exact ⟨ret_bool (rall_false hlt (by rw [Hok2.out, Bool.and_false])).symm, bw_to hw (bw_dr hB _)⟩
      · go_wp2_with fail
        go_big_quiet ((go_at_call 31; exact quiet_left (within_any _ _ _ _)))
        go_wp2_with fail
        go_ret
        exact ⟨ret_bool (rall_false hlt (by rw [ok1_no (getD_get hlt) hin, Bool.false_and])).symm, bw_to hw (bw_dr hB _)⟩
    · go_wp2_with fail
      go_ret
      obtain rfl : k = ch.length := by omega
      exact ⟨ret_bool Ha.out.symm, bw_to hw hB⟩
end Go.Proofs.YtamneiffhohleaaDoor

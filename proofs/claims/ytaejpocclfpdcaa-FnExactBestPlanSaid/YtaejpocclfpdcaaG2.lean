/- Contracts: lists of numbers in order; the worth of a choice; which is better. -/
import Derived.Test.YtaejpocclfpdcaaG1
import Derived.Test.YtaejpocclfpdcaaE3
namespace Go.Proofs.Ytaejpocclfpdcaa
open Go Go.RowKit
set_option linter.unusedVariables false
set_option linter.unusedSimpArgs false

def cmpL (x y : List Int) : Int := if lexLt x y then -1 else if x = y then 0 else 1
theorem cmpL_lt {x y : List Int} (h : lexLt x y = true) : cmpL x y = -1 := by unfold cmpL; rw [if_pos h]
theorem cmpL_eq {x y : List Int} {k : Nat} (h : x.take k = y.take k) (hx : ¬ k < x.length) (hy : ¬ k < y.length) : cmpL x y = 0 := by
  unfold cmpL
  rw [lexLt_end1 h hy, if_neg (by simp), if_pos]
  rwa [List.take_of_length_le (by omega), List.take_of_length_le (by omega)] at h
theorem cmpL_gt {x y : List Int} (h : lexLt x y = false) (hne : x ≠ y) : cmpL x y = 1 := by unfold cmpL; rw [h, if_neg (by simp), if_neg hne]
theorem cmpL_at {x y : List Int} {k : Nat} (h : x.take k = y.take k) (hx : k < x.length) (hy : k < y.length) (hne : x[k] ≠ y[k]) : cmpL x y = cmpI x[k] y[k] := by
  have hl := lexLt_ne h hx hy hne
  unfold cmpI
  by_cases hlt : x[k] < y[k]
  · rw [if_pos hlt]; exact cmpL_lt (by rw [hl]; simpa using hlt)
  · rw [if_neg hlt, if_pos (by omega)]
    exact cmpL_gt (by rw [hl]; simpa using hlt) (by rintro rfl; exact hne rfl)
theorem cmpL_neg (x y : List Int) : decide (cmpL x y < 0) = lexLt x y := by
  unfold cmpL
  cases h : lexLt x y
  · simp; split <;> omega
  · simp
theorem cmpI_ne {a b : Int} (h : a ≠ b) : cmpI a b ≠ 0 := by unfold cmpI; split <;> (try split) <;> omega
theorem cmpI_eq {a b : Int} (h : a = b) : cmpI a b = 0 := by unfold cmpI; rw [if_neg (by omega), if_neg (by omega)]

set_option maxHeartbeats 1000000 in
theorem slicesCompareInt_any (u v : Value) (xs ys : List Int) (w : World) (hu : Ints w u xs) (hv : Ints w v ys) : Calls Try.prog 54 #[u, v] w fun e w' => e = .returned (.int .i64 (cmpL xs ys)) ∧ w = w' := by
  obtain ⟨A, c, rfl, h1, h2, hr⟩ := hu
  obtain ⟨A', c', rfl, h1', h2', hr'⟩ := hv
  unfold maxLen at h2 h2'
  have hB := Below.refl w.heap.size w
  go_enter Try.func54, Try.ntmps54
  go_wp2_with fail
  go_loop [11] (fun i => ∃ k : Nat, k ≤ xs.length ∧ i = .int .i64 k ∧ k ≤ ys.length ∧ xs.take k = ys.take k) (fun i => xs.length - (intOf i).toNat)
  case atStart => exact ⟨0, by omega, rfl, by omega, by simp⟩
  case round =>
    obtain ⟨k, hk, rfl, hky, ht⟩ := hrel
    have Ht := Lib.hid ht
    clear ht
    by_cases hlt : k < xs.length
    · obtain ⟨ad, rfl, hC⟩ := ints_el hr hlt
      by_cases hlt' : k < ys.length
      · obtain ⟨ad', rfl, hC'⟩ := ints_el hr' hlt'
        by_cases he : xs[k] = ys[k]
        · have He := Lib.hid (takes_step Ht.out hlt hlt' he)
          have hz := cmpI_eq he
          clear he
          go_wp2_with (go_at_call 57; refine (cmpCompareInt_any _ _ _).mono ?_; rintro e w' ⟨rfl, rfl⟩)
          exact ⟨⟨k + 1, by omega, by go_num, by omega, He.out⟩, by simp [intOf]; omega⟩
        · have He := Lib.hid (cmpL_at Ht.out hlt hlt' he)
          have hz : (cmpI xs[k] ys[k] != 0) = true := by simpa using cmpI_ne he
          clear he
          go_wp2_with (go_at_call 57; refine (cmpCompareInt_any _ _ _).mono ?_; rintro e w' ⟨rfl, rfl⟩)
          go_ret
          exact ⟨ret_int He.out.symm, rfl⟩
      · have He := Lib.hid (cmpL_gt (lexLt_end1 Ht.out hlt') (by rintro rfl; exact hlt' hlt))
        go_wp2_with fail
        go_ret
        exact ⟨ret_int He.out.symm, rfl⟩
    · by_cases hlt' : k < ys.length
      · have He := Lib.hid (cmpL_lt (lexLt_end2 Ht.out hlt hlt'))
        have hl : xs.length < ys.length := by omega
        go_wp2_with fail
        go_ret
        exact ⟨ret_int He.out.symm, rfl⟩
      · have He := Lib.hid (cmpL_eq Ht.out hlt hlt')
        have hl : ¬ xs.length < ys.length := by omega
        go_wp2_with fail
        go_ret
        exact ⟨ret_int He.out.symm, rfl⟩
set_option maxHeartbeats 1000000 in
theorem l30First_any (u v : Value) (xs ys : List Int) (w : World) (hu : Ints w u xs) (hv : Ints w v ys) : Calls Try.prog 56 #[u, v] w fun e w' => e = .returned (.bool (lexLt xs ys)) ∧ Below w.heap.size w w' := by
  obtain ⟨A, c, rfl, h1, h2, hr⟩ := hu
  obtain ⟨A', c', rfl, h1', h2', hr'⟩ := hv
  unfold maxLen at h2 h2'
  go_enter Try.func56, Try.ntmps56
  go_wp2_with fail
  go_loopw [5] (fun i wr => ∃ k : Nat, k ≤ xs.length ∧ i = .int .i64 k ∧ Below w.heap.size w wr ∧ k ≤ ys.length ∧ xs.take k = ys.take k) (fun i _ => xs.length - (intOf i).toNat)
  case atStart => exact ⟨0, by omega, rfl, Below.refl _ _, by omega, by simp⟩
  case round =>
    obtain ⟨k, hk, rfl, hB, hky, ht⟩ := hrel
    have Ht := Lib.hid ht
    clear ht
    by_cases hlt : k < xs.length
    · by_cases hlt' : k < ys.length
      · obtain ⟨ad, rfl, hC⟩ := ints_el hr hlt
        obtain ⟨ad', rfl, hC'⟩ := ints_el hr' hlt'
        by_cases he : xs[k] = ys[k]
        · have He := Lib.hid (takes_step Ht.out hlt hlt' he)
          go_wp2_with fail
          go_big_quiet (fail)
          go_wp2_with fail
          exact ⟨⟨k + 1, by omega, by go_num, bw_dr hB _, by omega, He.out⟩, by simp [intOf]; omega⟩
        · have He := Lib.hid (lexLt_ne Ht.out hlt hlt' he)
          have hb : (xs[k] != ys[k]) = true := by simpa using he
          clear he
          go_wp2_with fail
          go_big_quiet (fail)
          go_wp2_with fail
          have hB2 := bw_dr hB nq
          go_big_quiet (fail)
          go_wp2_with fail
          go_ret
          exact ⟨ret_bool (by rw [He.out]), bw_dr hB2 _⟩
      · have He := Lib.hid (lexLt_end1 Ht.out hlt')
        have hl : ¬ xs.length < ys.length := by omega
        go_wp2_with fail
        go_ret
        exact ⟨ret_bool (by rw [He.out]), hB⟩
    · by_cases hlt' : k < ys.length
      · have He := Lib.hid (lexLt_end2 Ht.out hlt hlt')
        have hl : xs.length < ys.length := by omega
        go_wp2_with fail
        go_ret
        exact ⟨ret_bool (by rw [He.out]), hB⟩
      · have He := Lib.hid (lexLt_end1 Ht.out hlt')
        have hl : ¬ xs.length < ys.length := by omega
        go_wp2_with fail
        go_ret
        exact ⟨ret_bool (by rw [He.out]), hB⟩
theorem worth_bd {xs : List It} {ch : List Int} (hx : itemsB xs = true) (hin : ∀ i (h : i < ch.length), ∃ m : Nat, ch[i] = (m : Int) ∧ m < xs.length) : ∀ i, i ≤ ch.length → 0 ≤ worthS xs (ch.take i) ∧ worthS xs (ch.take i) ≤ 100 * i := by
  intro i
  induction i with
  | zero => intro _; simp [worthS]
  | succ i ih =>
    intro hi
    obtain ⟨m, hm, hmx⟩ := hin i (by omega)
    rw [List.take_succ_eq_append_getElem (by omega), hm, worthS_snoc _ _ _ hmx]
    obtain ⟨_, _, _, _, h0, h1⟩ := itB_bd (items_good hx hmx)
    have := ih (by omega)
    omega
set_option maxHeartbeats 1000000 in
theorem l30Worth_any (v u : Value) (xs : List It) (ch : List Int) (w : World) (hv : Items w v xs) (hu : Ints w u ch) (hx : itemsB xs = true) (hin : ∀ i (h : i < ch.length), ∃ m : Nat, ch[i] = (m : Int) ∧ m < xs.length) (hl : ch.length ≤ 1000) :
    Calls Try.prog 55 #[v, u] w fun e w' => e = .returned (.int .i64 (worthS xs ch)) ∧ w = w' := by
  obtain ⟨⟨A, c1, rfl, h1, h2, hr⟩, hg⟩ := hv
  obtain ⟨A', c2, rfl, h1', h2', hr'⟩ := hu
  unfold maxLen at h2 h2'
  have hB := Below.refl w.heap.size w
  have Hin := Lib.hid hin
  have Hx := Lib.hid hx
  clear hin hx
  go_enter Try.func55, Try.ntmps55
  go_wp2_with fail
  go_loop [5, 10] (fun s i => ∃ k : Nat, k ≤ ch.length ∧ i = .int .i64 k ∧ s = .int .i64 (worthS xs (ch.take k))) (fun _ i => ch.length - (intOf i).toNat)
  case atStart => exact ⟨0, by omega, rfl, by simp [worthS]⟩
  case round =>
    obtain ⟨k, hk, rfl, rfl⟩ := hrel
    by_cases hlt : k < ch.length
    · obtain ⟨m, hm, hmx⟩ := Hin.out k hlt
      have hS := worth_bd Hx.out Hin.out k hk
      obtain ⟨_, _, _, _, h5, h6⟩ := itB_bd (items_good Hx.out hmx)
      have Hs : Hid (worthS xs (ch.take (k + 1)) = worthS xs (ch.take k) + xs[m].worth) := by
        rw [List.take_succ_eq_append_getElem hlt, hm, worthS_snoc _ _ _ hmx]; rfl
      obtain ⟨ad', rfl, hC'⟩ := ints_el hr' hlt
      obtain ⟨ad, rfl, hC⟩ := items_el hr hmx
      have hmi : (m : Int) < xs.length := by omega
      go_wp2_with fail
      exact ⟨⟨k + 1, by omega, by go_num, by rw [Hs.out]⟩, by simp [intOf]; omega⟩
    · obtain rfl : k = ch.length := by omega
      go_wp2_with fail
      go_ret
      exact ⟨ret_int (by simp), rfl⟩
set_option maxHeartbeats 2000000 in
theorem l30Better_any (a b c d : Int) (v p q : Value) (xs : List It) (x y : List Int) (w : World) (hv : Items w v xs) (hp : Ints w p x) (hq : Ints w q y)
    (he : evB a b c d = true) (hx : itemsB xs = true) (hcx : choiceB a xs x = true) (hcy : choiceB a xs y = true) :
    Calls Try.prog 53 #[.agg #[.int .i64 a, .int .i64 b, .int .i64 c, .int .i64 d], v, p, q] w fun e w' => e = .returned (.bool (betterB b d xs x y)) ∧ Below w.heap.size w w' := by
  have hlx := choice_len hx hcx
  have hly := choice_len hx hcy
  have Hx := Lib.hid hx
  have He := Lib.hid he
  have Hcx := Lib.hid hcx
  have Hcy := Lib.hid hcy
  clear hx he hcx hcy
  go_enter Try.func53, Try.ntmps53
  go_wp2_with fail
  refine box1 (C := fun W => Calls _ _ _ W _) ?_
  intro wb hw k1 hB0
  have R1 := boxRule k1
  clear k1
  refine (l30Worth_any _ _ xs x _ (hv.to hw) (hp.to hw) Hx.out (fun i h => choice_in Hcx.out h) (by omega)).mono ?_; rintro e w2 ⟨rfl, rfl⟩
  go_wp2_with fail
  refine (l30Worth_any _ _ xs y _ (hv.to hw) (hq.to hw) Hx.out (fun i h => choice_in Hcy.out h) (by omega)).mono ?_; rintro e w2 ⟨rfl, rfl⟩
  by_cases hwo : worthS xs x = worthS xs y
  · have hne : (worthS xs x != worthS xs y) = false := by rw [hwo]; simp
    have Hwo := Lib.hid hwo
    clear hwo
    go_wp2_with fail
    go_region_held3 (fun w' => Below wb.heap.size wb w') (first | exact Below.drew (by assumption) | exact bw_to (by assumption) hb')
      (first
        | (go_at_call_of 38 (p); refine (l30Time_any _ _ _ _ _ _ xs x _ (hv.to (bw_to hw (by assumption))) (hp.to (bw_to hw (by assumption))) He.out Hx.out Hcx.out).mono ?_; rintro e w' ⟨rfl, hb'⟩)
        | (go_at_call_of 38 (q); refine (l30Time_any _ _ _ _ _ _ xs y _ (hv.to (bw_to hw (by assumption))) (hq.to (bw_to hw (by assumption))) He.out Hx.out Hcy.out).mono ?_; rintro e w' ⟨rfl, hb'⟩))
    have hBz : Below w.heap.size w w' := bw_to hw (by assumption)
    have hxz := hp.to hBz
    have hyz := hq.to hBz
    by_cases hti : timeS b d xs x = timeS b d xs y
    · have hnt : (timeS b d xs x != timeS b d xs y) = false := by rw [hti]; simp
      have H : Hid (betterB b d xs x y = lexLt x y) := by unfold betterB; rw [if_pos Hwo.out, if_pos hti]; rfl
      clear hti
      go_wp2_with fail
      refine (l30First_any _ _ x y _ hxz hyz).mono ?_; rintro e w9 ⟨rfl, hb9⟩
      go_wp2_with fail
      go_ret
      exact ⟨ret_bool (by rw [H.out]), bw_to hBz hb9⟩
    · have hnt : (timeS b d xs x != timeS b d xs y) = true := by simpa using hti
      have H : Hid (betterB b d xs x y = decide (timeS b d xs x < timeS b d xs y)) := by unfold betterB; rw [if_pos Hwo.out, if_neg hti]; rfl
      clear hti
      go_wp2_with fail
      go_ret
      exact ⟨ret_bool (by rw [H.out]), hBz⟩
  · have hne : (worthS xs x != worthS xs y) = true := by simpa using hwo
    have H : Hid (betterB b d xs x y = decide (worthS xs y < worthS xs x)) := by unfold betterB; rw [if_neg hwo]; rfl
    clear hwo
    go_wp2_with fail
    go_ret
    exact ⟨ret_bool (by rw [H.out]), hw⟩
end Go.Proofs.Ytaejpocclfpdcaa

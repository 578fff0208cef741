/- Plain facts on the best choice; no program. -/
import Derived.Test.YtofpjbdelmmclaaGreatDoorPk4
import Derived.Test.YtofpjbdelmmclaaGreatDoorPk5
namespace Go.Proofs.YtofpjbdelmmclaaGreatDoor
open Go Go.RowKit
set_option linter.unusedVariables false
set_option linter.unusedSimpArgs false

def maskL (n mask : Nat) : List Int := ((List.range n).filter fun k => mask.testBit k).map fun (k : Nat) => (k : Int)
theorem maskL_zero (mask : Nat) : maskL 0 mask = [] := rfl
theorem maskL_succ (n mask : Nat) : maskL (n + 1) mask = maskL n mask ++ if mask.testBit n then [(n : Int)] else [] := by
  unfold maskL
  rw [List.range_succ, List.filter_append, List.map_append]
  cases h : mask.testBit n <;> simp [h]
theorem maskL_more {n mask : Nat} (h : mask < 2 ^ n) : ∀ m, n ≤ m → maskL m mask = maskL n mask := by
  intro m hm
  induction m with
  | zero => have : n = 0 := by omega
            subst this; rfl
  | succ m ih =>
    rcases Nat.lt_or_ge m n with hlt | hge
    · have : n = m + 1 := by omega
      subst this; rfl
    · rw [maskL_succ, ih hge, Nat.testBit_lt_two_pow (Nat.lt_of_lt_of_le h (Nat.pow_le_pow_right (by omega) hge))]
      simp
theorem maskL_length (n mask : Nat) : (maskL n mask).length ≤ n := by
  unfold maskL
  rw [List.length_map]
  exact Nat.le_trans (List.length_filter_le _ _) (by simp)
theorem maskL_null (n : Nat) : maskL n 0 = [] := by unfold maskL; simp

def worthS (xs : List It) (ch : List Int) : Int := (ch.map fun k => worthAt xs k.toNat).sum
theorem worthS_nil (xs : List It) : worthS xs [] = 0 := rfl
theorem worthS_snoc (xs : List It) (ch : List Int) (n : Nat) (h : n < xs.length) : worthS xs (ch ++ [(n : Int)]) = worthS xs ch + xs[n].worth := by
  unfold worthS
  rw [List.map_append, List.sum_append]
  simp [worthAt_get h]

def lexLt : List Int → List Int → Bool
  | _, [] => false
  | [], _ :: _ => true
  | a :: r, b :: s => decide (a < b) || (decide (a = b) && lexLt r s)
theorem lexLt_pre (p x y : List Int) : lexLt (p ++ x) (p ++ y) = lexLt x y := by
  induction p with
  | nil => rfl
  | cons a p ih => simp [lexLt, ih]
theorem lexLt_nil (x : List Int) : lexLt x [] = false := by cases x <;> rfl
theorem split_at {x y : List Int} {k : Nat} (h : x.take k = y.take k) : x = y.take k ++ x.drop k := by rw [← h, List.take_append_drop]
theorem lexLt_drop {x y : List Int} {k : Nat} (h : x.take k = y.take k) : lexLt x y = lexLt (x.drop k) (y.drop k) := by
  have e1 := split_at h
  have e2 : y = y.take k ++ y.drop k := (List.take_append_drop k y).symm
  have e3 : lexLt x y = lexLt (y.take k ++ x.drop k) (y.take k ++ y.drop k) := by rw [← e1, ← e2]
  rw [e3, lexLt_pre]
theorem lexLt_ne {x y : List Int} {k : Nat} (h : x.take k = y.take k) (hx : k < x.length) (hy : k < y.length) (hne : x[k] ≠ y[k]) : lexLt x y = decide (x[k] < y[k]) := by
  rw [lexLt_drop h, List.drop_eq_getElem_cons hx, List.drop_eq_getElem_cons hy]
  simp [lexLt, hne]
theorem lexLt_end1 {x y : List Int} {k : Nat} (h : x.take k = y.take k) (hy : ¬ k < y.length) : lexLt x y = false := by
  rw [lexLt_drop h, List.drop_of_length_le (l := y) (by omega), lexLt_nil]
theorem lexLt_end2 {x y : List Int} {k : Nat} (h : x.take k = y.take k) (hx : ¬ k < x.length) (hy : k < y.length) : lexLt x y = true := by
  rw [lexLt_drop h, List.drop_of_length_le (l := x) (by omega), List.drop_eq_getElem_cons hy]
  rfl
theorem take_eq_step {x y : List Int} {k : Nat} (h : x.take k = y.take k) (hx : k < x.length) (hy : k < y.length) (he : x[k] = y[k]) : x.take (k + 1) = y.take (k + 1) := by
  rw [List.take_succ_eq_append_getElem hx, List.take_succ_eq_append_getElem hy, h, he]

def betterB (b d : Int) (xs : List It) (p q : List Int) : Bool :=
  if worthS xs p = worthS xs q then (if timeS b d xs p = timeS b d xs q then lexLt p q else decide (timeS b d xs p < timeS b d xs q)) else decide (worthS xs q < worthS xs p)
def fitsB (a b c d : Int) (xs : List It) (ch : List Int) : Bool := choiceB a xs ch && decide (timeS b d xs ch ≤ c)
def stepBest (a b c d : Int) (xs : List It) (best : List Int) (mask : Nat) : List Int :=
  if fitsB a b c d xs (maskL xs.length mask) && betterB b d xs (maskL xs.length mask) best then maskL xs.length mask else best
def bestTo (a b c d : Int) (xs : List It) (n : Nat) : List Int := (List.range n).foldl (stepBest a b c d xs) []
theorem bestTo_succ (a b c d : Int) (xs : List It) (n : Nat) : bestTo a b c d xs (n + 1) = stepBest a b c d xs (bestTo a b c d xs n) n := by
  unfold bestTo; rw [List.range_succ, List.foldl_append]; rfl
theorem bestTo_one (a b c d : Int) (xs : List It) : bestTo a b c d xs 1 = [] := by
  show stepBest a b c d xs [] 0 = []
  unfold stepBest
  rw [maskL_null]
  split <;> rfl
theorem choice_nil (a : Int) (xs : List It) : choiceB a xs [] = true := rfl
theorem best_ok (a b c d : Int) (xs : List It) : ∀ n, choiceB a xs (bestTo a b c d xs n) = true := by
  intro n
  induction n with
  | zero => rfl
  | succ n ih =>
    rw [bestTo_succ]
    unfold stepBest
    split
    · rename_i h; simp only [fitsB, Bool.and_eq_true] at h; exact h.1.1
    · exact ih
end Go.Proofs.YtofpjbdelmmclaaGreatDoor

/- Contracts: slices of numbers compared. -/
namespace Go.Proofs.YtofpjbdelmmclaaGreatDoor
open Go Go.RowKit
set_option linter.unusedVariables false
set_option linter.unusedSimpArgs false

theorem eq_no_len {α : Type} [DecidableEq α] {x y : List α} (h : x.length ≠ y.length) : decide (x = y) = false := by
  rw [decide_eq_false_iff_not]; rintro rfl; exact h rfl
theorem eq_no_at {α : Type} [DecidableEq α] {x y : List α} {k : Nat} (hx : k < x.length) (hy : k < y.length) (h : x[k] ≠ y[k]) : decide (x = y) = false := by
  rw [decide_eq_false_iff_not]; rintro rfl; exact h rfl
theorem eq_yes {α : Type} [DecidableEq α] {x y : List α} {k : Nat} (h : x.take k = y.take k) (hx : ¬ k < x.length) (hl : x.length = y.length) : decide (x = y) = true := by
  rw [decide_eq_true_eq]
  rwa [List.take_of_length_le (by omega), List.take_of_length_le (by omega)] at h
theorem takes_step {α : Type} {x y : List α} {k : Nat} (h : x.take k = y.take k) (hx : k < x.length) (hy : k < y.length) (he : x[k] = y[k]) : x.take (k + 1) = y.take (k + 1) := by
  rw [List.take_succ_eq_append_getElem hx, List.take_succ_eq_append_getElem hy, h, he]

set_option maxHeartbeats 1000000 in
theorem slicesEqualInt_any (u v : Value) (xs ys : List Int) (w : World) (hu : Ints w u xs) (hv : Ints w v ys) : Calls Tryz.prog 71 #[u, v] w fun e w' => e = .returned (.bool (decide (xs = ys))) ∧ Below w.heap.size w w' := by
  obtain ⟨A, c, rfl, h1, h2, hr⟩ := hu
  obtain ⟨A', c', rfl, h1', h2', hr'⟩ := hv
  unfold maxLen at h2 h2'
  by_cases hl : xs.length = ys.length
  · have hle : ((xs.length : Int) == ys.length) = true := by rw [hl]; simp
    have hne : ((xs.length : Int) != ys.length) = false := by rw [hl]; simp
    have Hl := Lib.hid hl
    clear hl
    go_enter Tryz.func71, Tryz.ntmps71
    go_wp2_with fail
    go_loopw [13] (fun i wr => ∃ k : Nat, k ≤ xs.length ∧ i = .int .i64 k ∧ Below w.heap.size w wr ∧ xs.take k = ys.take k) (fun i _ => xs.length - (intOf i).toNat)
    case atStart => exact ⟨0, by omega, rfl, Below.refl _ _, by simp⟩
    case round =>
      obtain ⟨k, hk, rfl, hB, ht⟩ := hrel
      have Ht := Lib.hid ht
      clear ht
      by_cases hlt : k < xs.length
      · have hlt' : k < ys.length := by have := Hl.out; omega
        obtain ⟨ad, rfl, hC⟩ := ints_el hr hlt
        obtain ⟨ad', rfl, hC'⟩ := ints_el hr' hlt'
        by_cases he : xs[k] = ys[k]
        · have He := Lib.hid (takes_step Ht.out hlt hlt' he)
          go_wp2_with fail
          go_big_quiet (fail)
          go_wp2_with fail
          exact ⟨⟨k + 1, by omega, by go_num, bw_dr hB _, He.out⟩, by simp [intOf]; omega⟩
        · have He := Lib.hid (eq_no_at hlt hlt' he)
          have hb : (xs[k] != ys[k]) = true := by simpa using he
          clear he
          go_wp2_with fail
          go_big_quiet (fail)
          go_wp2_with fail
          go_ret
          exact ⟨ret_bool He.out.symm, bw_dr hB _⟩
      · have He := Lib.hid (eq_yes Ht.out hlt Hl.out)
        go_wp2_with fail
        go_ret
        exact ⟨ret_bool He.out.symm, hB⟩
  · have He := Lib.hid (eq_no_len hl)
    have hle : ((xs.length : Int) == ys.length) = false := by simp; omega
    have hne : ((xs.length : Int) != ys.length) = true := by simp; omega
    clear hl
    go_enter Tryz.func71, Tryz.ntmps71
    go_wp2_with fail
    go_ret
    exact ⟨ret_bool He.out.symm, Below.refl _ _⟩
set_option maxHeartbeats 1000000 in
theorem l1Same_any (u v : Value) (xs ys : List Int) (w : World) (hu : Ints w u xs) (hv : Ints w v ys) : Calls Tryz.prog 72 #[u, v] w fun e w' => e = .returned (.bool (decide (xs = ys))) ∧ Below w.heap.size w w' := by
  obtain ⟨A, c, rfl, h1, h2, hr⟩ := hu
  obtain ⟨A', c', rfl, h1', h2', hr'⟩ := hv
  unfold maxLen at h2 h2'
  by_cases hl : xs.length = ys.length
  · have hle : ((xs.length : Int) == ys.length) = true := by rw [hl]; simp
    have hne : ((xs.length : Int) != ys.length) = false := by rw [hl]; simp
    have Hl := Lib.hid hl
    clear hl
    go_enter Tryz.func72, Tryz.ntmps72
    go_wp2_with fail
    go_loopw [13] (fun i wr => ∃ k : Nat, k ≤ xs.length ∧ i = .int .i64 k ∧ Below w.heap.size w wr ∧ xs.take k = ys.take k) (fun i _ => xs.length - (intOf i).toNat)
    case atStart => exact ⟨0, by omega, rfl, Below.refl _ _, by simp⟩
    case round =>
      obtain ⟨k, hk, rfl, hB, ht⟩ := hrel
      have Ht := Lib.hid ht
      clear ht
      by_cases hlt : k < xs.length
      · have hlt' : k < ys.length := by have := Hl.out; omega
        obtain ⟨ad, rfl, hC⟩ := ints_el hr hlt
        obtain ⟨ad', rfl, hC'⟩ := ints_el hr' hlt'
        by_cases he : xs[k] = ys[k]
        · have He := Lib.hid (takes_step Ht.out hlt hlt' he)
          go_wp2_with fail
          go_big_quiet (fail)
          go_wp2_with fail
          exact ⟨⟨k + 1, by omega, by go_num, bw_dr hB _, He.out⟩, by simp [intOf]; omega⟩
        · have He := Lib.hid (eq_no_at hlt hlt' he)
          have hb : (xs[k] != ys[k]) = true := by simpa using he
          clear he
          go_wp2_with fail
          go_big_quiet (fail)
          go_wp2_with fail
          go_ret
          exact ⟨ret_bool He.out.symm, bw_dr hB _⟩
      · have He := Lib.hid (eq_yes Ht.out hlt Hl.out)
        go_wp2_with fail
        go_ret
        exact ⟨ret_bool He.out.symm, hB⟩
  · have He := Lib.hid (eq_no_len hl)
    have hle : ((xs.length : Int) == ys.length) = false := by simp; omega
    have hne : ((xs.length : Int) != ys.length) = true := by simp; omega
    clear hl
    go_enter Tryz.func72, Tryz.ntmps72
    go_wp2_with fail
    go_ret
    exact ⟨ret_bool He.out.symm, Below.refl _ _⟩
theorem isNaNInt_any (x : Int) (w : World) : Calls Tryz.prog 151 #[.int .i64 x] w fun e w' => e = .returned (.bool false) ∧ w = w' := by
  go_enter Tryz.func151, Tryz.ntmps151
  go_wp2
  go_ret
  exact ⟨rfl, rfl⟩
def cmpI (a b : Int) : Int := if a < b then -1 else if b < a then 1 else 0
theorem cmpCompareInt_any (x y : Int) (w : World) : Calls Tryz.prog 117 #[.int .i64 x, .int .i64 y] w fun e w' => e = .returned (.int .i64 (cmpI x y)) ∧ w = w' := by
  by_cases h1 : x < y
  · have H : Hid (cmpI x y = -1) := by unfold cmpI; rw [if_pos h1]; rfl
    go_enter Tryz.func117, Tryz.ntmps117
    go_wp2_with (go_at_call 151; refine (isNaNInt_any _ _).mono ?_; rintro e w' ⟨rfl, rfl⟩)
    go_ret
    exact ⟨ret_int H.out.symm, rfl⟩
  · by_cases h2 : y < x
    · have H : Hid (cmpI x y = 1) := by unfold cmpI; rw [if_neg h1, if_pos h2]; rfl
      go_enter Tryz.func117, Tryz.ntmps117
      go_wp2_with (go_at_call 151; refine (isNaNInt_any _ _).mono ?_; rintro e w' ⟨rfl, rfl⟩)
      go_ret
      exact ⟨ret_int H.out.symm, rfl⟩
    · have H : Hid (cmpI x y = 0) := by unfold cmpI; rw [if_neg h1, if_neg h2]; rfl
      go_enter Tryz.func117, Tryz.ntmps117
      go_wp2_with (go_at_call 151; refine (isNaNInt_any _ _).mono ?_; rintro e w' ⟨rfl, rfl⟩)
      go_ret
      exact ⟨ret_int H.out.symm, rfl⟩
end Go.Proofs.YtofpjbdelmmclaaGreatDoor

/- Contracts: lists of numbers in order; the worth of a choice; which is better. -/
namespace Go.Proofs.YtofpjbdelmmclaaGreatDoor
open Go Go.RowKit
set_option linter.unusedVariables false
set_option linter.unusedSimpArgs false

def cmpL (x y : List Int) : Int := if lexLt x y then -1 else if x = y then 0 else 1
theorem cmpL_lt {x y : List Int} (h : lexLt x y = true) : cmpL x y = -1 := by unfold cmpL; rw [if_pos h]
theorem cmpL_eq {x y : List Int} {k : Nat} (h : x.take k = y.take k) (hx : ¬ k < x.length) (hy : ¬ k < y.length) : cmpL x y = 0 := by
  unfold cmpL
  rw [lexLt_end1 h hy, if_neg (by simp), if_pos]
  rwa [List.take_of_length_le (by omega), List.take_of_length_le (by omega)] at h
theorem cmpL_gt {x y : List Int} (h : lexLt x y = false) (hne : x ≠ y) : cmpL x y = 1 := by unfold cmpL; rw [h, if_neg (by simp), if_neg hne]
theorem cmpL_at {x y : List Int} {k : Nat} (h : x.take k = y.take k) (hx : k < x.length) (hy : k < y.length) (hne : x[k] ≠ y[k]) : cmpL x y = cmpI x[k] y[k] := by
  have hl := lexLt_ne h hx hy hne
  unfold cmpI
  by_cases hlt : x[k] < y[k]
  · rw [if_pos hlt]; exact cmpL_lt (by rw [hl]; simpa using hlt)
  · rw [if_neg hlt, if_pos (by omega)]
    exact cmpL_gt (by rw [hl]; simpa using hlt) (by rintro rfl; exact hne rfl)
theorem cmpL_neg (x y : List Int) : decide (cmpL x y < 0) = lexLt x y := by
  unfold cmpL
  cases h : lexLt x y
  · simp; split <;> omega
  · simp
theorem cmpI_ne {a b : Int} (h : a ≠ b) : cmpI a b ≠ 0 := by unfold cmpI; split <;> (try split) <;> omega
theorem cmpI_eq {a b : Int} (h : a = b) : cmpI a b = 0 := by unfold cmpI; rw [if_neg (by omega), if_neg (by omega)]

set_option maxHeartbeats 1000000 in
theorem slicesCompareInt_any (u v : Value) (xs ys : List Int) (w : World) (hu : Ints w u xs) (hv : Ints w v ys) : Calls Tryz.prog 85 #[u, v] w fun e w' => e = .returned (.int .i64 (cmpL xs ys)) ∧ w = w' := by
  obtain ⟨A, c, rfl, h1, h2, hr⟩ := hu
  obtain ⟨A', c', rfl, h1', h2', hr'⟩ := hv
  unfold maxLen at h2 h2'
  have hB := Below.refl w.heap.size w
  go_enter Tryz.func85, Tryz.ntmps85
  go_wp2_with fail
  go_loop [11] (fun i => ∃ k : Nat, k ≤ xs.length ∧ i = .int .i64 k ∧ k ≤ ys.length ∧ xs.take k = ys.take k) (fun i => xs.length - (intOf i).toNat)
  case atStart => exact ⟨0, by omega, rfl, by omega, by simp⟩
  case round =>
    obtain ⟨k, hk, rfl, hky, ht⟩ := hrel
    have Ht := Lib.hid ht
    clear ht
    by_cases hlt : k < xs.length
    · obtain ⟨ad, rfl, hC⟩ := ints_el hr hlt
      by_cases hlt' : k < ys.length
      · obtain ⟨ad', rfl, hC'⟩ := ints_el hr' hlt'
        by_cases he : xs[k] = ys[k]
        · have He := Lib.hid (takes_step Ht.out hlt hlt' he)
          have hz := cmpI_eq he
          clear he
          go_wp2_with (go_at_call 117; refine (cmpCompareInt_any _ _ _).mono ?_; rintro e w' ⟨rfl, rfl⟩)
          exact ⟨⟨k + 1, by omega, by go_num, by omega, He.out⟩, by simp [intOf]; omega⟩
        · have He := Lib.hid (cmpL_at Ht.out hlt hlt' he)
          have hz : (cmpI xs[k] ys[k] != 0) = true := by simpa using cmpI_ne he
          clear he
          go_wp2_with (go_at_call 117; refine (cmpCompareInt_any _ _ _).mono ?_; rintro e w' ⟨rfl, rfl⟩)
          go_ret
          exact ⟨ret_int He.out.symm, rfl⟩
      · have He := Lib.hid (cmpL_gt (lexLt_end1 Ht.out hlt') (by rintro rfl; exact hlt' hlt))
        go_wp2_with fail
        go_ret
        exact ⟨ret_int He.out.symm, rfl⟩
    · by_cases hlt' : k < ys.length
      · have He := Lib.hid (cmpL_lt (lexLt_end2 Ht.out hlt hlt'))
        have hl : xs.length < ys.length := by omega
        go_wp2_with fail
        go_ret
        exact ⟨ret_int He.out.symm, rfl⟩
      · have He := Lib.hid (cmpL_eq Ht.out hlt hlt')
        have hl : ¬ xs.length < ys.length := by omega
        go_wp2_with fail
        go_ret
        exact ⟨ret_int He.out.symm, rfl⟩
set_option maxHeartbeats 1000000 in
theorem l30First_any (u v : Value) (xs ys : List Int) (w : World) (hu : Ints w u xs) (hv : Ints w v ys) : Calls Tryz.prog 119 #[u, v] w fun e w' => e = .returned (.bool (lexLt xs ys)) ∧ Below w.heap.size w w' := by
  obtain ⟨A, c, rfl, h1, h2, hr⟩ := hu
  obtain ⟨A', c', rfl, h1', h2', hr'⟩ := hv
  unfold maxLen at h2 h2'
  go_enter Tryz.func119, Tryz.ntmps119
  go_wp2_with fail
  go_loopw [5] (fun i wr => ∃ k : Nat, k ≤ xs.length ∧ i = .int .i64 k ∧ Below w.heap.size w wr ∧ k ≤ ys.length ∧ xs.take k = ys.take k) (fun i _ => xs.length - (intOf i).toNat)
  case atStart => exact ⟨0, by omega, rfl, Below.refl _ _, by omega, by simp⟩
  case round =>
    obtain ⟨k, hk, rfl, hB, hky, ht⟩ := hrel
    have Ht := Lib.hid ht
    clear ht
    by_cases hlt : k < xs.length
    · by_cases hlt' : k < ys.length
      · obtain ⟨ad, rfl, hC⟩ := ints_el hr hlt
        obtain ⟨ad', rfl, hC'⟩ := ints_el hr' hlt'
        by_cases he : xs[k] = ys[k]
        · have He := Lib.hid (takes_step Ht.out hlt hlt' he)
          go_wp2_with fail
          go_big_quiet (fail)
          go_wp2_with fail
          exact ⟨⟨k + 1, by omega, by go_num, bw_dr hB _, by omega, He.out⟩, by simp [intOf]; omega⟩
        · have He := Lib.hid (lexLt_ne Ht.out hlt hlt' he)
          have hb : (xs[k] != ys[k]) = true := by simpa using he
          clear he
          go_wp2_with fail
          go_big_quiet (fail)
          go_wp2_with fail
          have hB2 := bw_dr hB nq
          go_big_quiet (fail)
          go_wp2_with fail
          go_ret
          exact ⟨ret_bool (by rw [He.out]), bw_dr hB2 _⟩
      · have He := Lib.hid (lexLt_end1 Ht.out hlt')
        have hl : ¬ xs.length < ys.length := by omega
        go_wp2_with fail
        go_ret
        exact ⟨ret_bool (by rw [He.out]), hB⟩
    · by_cases hlt' : k < ys.length
      · have He := Lib.hid (lexLt_end2 Ht.out hlt hlt')
        have hl : xs.length < ys.length := by omega
        go_wp2_with fail
        go_ret
        exact ⟨ret_bool (by rw [He.out]), hB⟩
      · have He := Lib.hid (lexLt_end1 Ht.out hlt')
        have hl : ¬ xs.length < ys.length := by omega
        go_wp2_with fail
        go_ret
        exact ⟨ret_bool (by rw [He.out]), hB⟩
theorem worth_bd {xs : List It} {ch : List Int} (hx : itemsB xs = true) (hin : ∀ i (h : i < ch.length), ∃ m : Nat, ch[i] = (m : Int) ∧ m < xs.length) : ∀ i, i ≤ ch.length → 0 ≤ worthS xs (ch.take i) ∧ worthS xs (ch.take i) ≤ 100 * i := by
  intro i
  induction i with
  | zero => intro _; simp [worthS]
  | succ i ih =>
    intro hi
    obtain ⟨m, hm, hmx⟩ := hin i (by omega)
    rw [List.take_succ_eq_append_getElem (by omega), hm, worthS_snoc _ _ _ hmx]
    obtain ⟨_, _, _, _, h0, h1⟩ := itB_bd (items_good hx hmx)
    have := ih (by omega)
    omega
set_option maxHeartbeats 1000000 in
theorem l30Worth_any (v u : Value) (xs : List It) (ch : List Int) (w : World) (hv : Items w v xs) (hu : Ints w u ch) (hx : itemsB xs = true) (hin : ∀ i (h : i < ch.length), ∃ m : Nat, ch[i] = (m : Int) ∧ m < xs.length) (hl : ch.length ≤ 1000) :
    Calls Tryz.prog 118 #[v, u] w fun e w' => e = .returned (.int .i64 (worthS xs ch)) ∧ w = w' := by
  obtain ⟨⟨A, c1, rfl, h1, h2, hr⟩, hg⟩ := hv
  obtain ⟨A', c2, rfl, h1', h2', hr'⟩ := hu
  unfold maxLen at h2 h2'
  have hB := Below.refl w.heap.size w
  have Hin := Lib.hid hin
  have Hx := Lib.hid hx
  clear hin hx
  go_enter Tryz.func118, Tryz.ntmps118
  go_wp2_with fail
  go_loop [5, 10] (fun s i => ∃ k : Nat, k ≤ ch.length ∧ i = .int .i64 k ∧ s = .int .i64 (worthS xs (ch.take k))) (fun _ i => ch.length - (intOf i).toNat)
  case atStart => exact ⟨0, by omega, rfl, by simp [worthS]⟩
  case round =>
    obtain ⟨k, hk, rfl, rfl⟩ := hrel
    by_cases hlt : k < ch.length
    · obtain ⟨m, hm, hmx⟩ := Hin.out k hlt
      have hS := worth_bd Hx.out Hin.out k hk
      obtain ⟨_, _, _, _, h5, h6⟩ := itB_bd (items_good Hx.out hmx)
      have Hs : Hid (worthS xs (ch.take (k + 1)) = worthS xs (ch.take k) + xs[m].worth) := by
        rw [List.take_succ_eq_append_getElem hlt, hm, worthS_snoc _ _ _ hmx]; rfl
      obtain ⟨ad', rfl, hC'⟩ := ints_el hr' hlt
      obtain ⟨ad, rfl, hC⟩ := items_el hr hmx
      have hmi : (m : Int) < xs.length := by omega
      go_wp2_with fail
      exact ⟨⟨k + 1, by omega, by go_num, by rw [Hs.out]⟩, by simp [intOf]; omega⟩
    · obtain rfl : k = ch.length := by omega
      go_wp2_with fail
      go_ret
      exact ⟨ret_int (by simp), rfl⟩
set_option maxHeartbeats 2000000 in
theorem l30Better_any (a b c d : Int) (v p q : Value) (xs : List It) (x y : List Int) (w : World) (hv : Items w v xs) (hp : Ints w p x) (hq : Ints w q y)
    (he : evB a b c d = true) (hx : itemsB xs = true) (hcx : choiceB a xs x = true) (hcy : choiceB a xs y = true) :
    Calls Tryz.prog 87 #[.agg #[.int .i64 a, .int .i64 b, .int .i64 c, .int .i64 d], v, p, q] w fun e w' => e = .returned (.bool (betterB b d xs x y)) ∧ Below w.heap.size w w' := by
  have hlx := choice_len hx hcx
  have hly := choice_len hx hcy
  have Hx := Lib.hid hx
  have He := Lib.hid he
  have Hcx := Lib.hid hcx
  have Hcy := Lib.hid hcy
  clear hx he hcx hcy
  go_enter Tryz.func87, Tryz.ntmps87
  go_wp2_with fail
  refine box1 (C := fun W => Calls _ _ _ W _) ?_
  intro wb hw k1 hB0
  have R1 := boxRule k1
  clear k1
  refine (l30Worth_any _ _ xs x _ (hv.to hw) (hp.to hw) Hx.out (fun i h => choice_in Hcx.out h) (by omega)).mono ?_; rintro e w2 ⟨rfl, rfl⟩
  go_wp2_with fail
  refine (l30Worth_any _ _ xs y _ (hv.to hw) (hq.to hw) Hx.out (fun i h => choice_in Hcy.out h) (by omega)).mono ?_; rintro e w2 ⟨rfl, rfl⟩
  by_cases hwo : worthS xs x = worthS xs y
  · have hne : (worthS xs x != worthS xs y) = false := by rw [hwo]; simp
    have Hwo := Lib.hid hwo
    clear hwo
    go_wp2_with fail
    go_region_held3 (fun w' => Below wb.heap.size wb w') (first | exact Below.drew (by assumption) | exact bw_to (by assumption) hb')
      (first
        | (go_at_call_of 60 (p); refine (l30Time_any _ _ _ _ _ _ xs x _ (hv.to (bw_to hw (by assumption))) (hp.to (bw_to hw (by assumption))) He.out Hx.out Hcx.out).mono ?_; rintro e w' ⟨rfl, hb'⟩)
        | (go_at_call_of 60 (q); refine (l30Time_any _ _ _ _ _ _ xs y _ (hv.to (bw_to hw (by assumption))) (hq.to (bw_to hw (by assumption))) He.out Hx.out Hcy.out).mono ?_; rintro e w' ⟨rfl, hb'⟩))
    have hBz : Below w.heap.size w w' := bw_to hw (by assumption)
    have hxz := hp.to hBz
    have hyz := hq.to hBz
    by_cases hti : timeS b d xs x = timeS b d xs y
    · have hnt : (timeS b d xs x != timeS b d xs y) = false := by rw [hti]; simp
      have H : Hid (betterB b d xs x y = lexLt x y) := by unfold betterB; rw [if_pos Hwo.out, if_pos hti]; rfl
      clear hti
      go_wp2_with fail
      refine (l30First_any _ _ x y _ hxz hyz).mono ?_; rintro e w9 ⟨rfl, hb9⟩
      go_wp2_with fail
      go_ret
      exact ⟨ret_bool (by rw [H.out]), bw_to hBz hb9⟩
    · have hnt : (timeS b d xs x != timeS b d xs y) = true := by simpa using hti
      have H : Hid (betterB b d xs x y = decide (timeS b d xs x < timeS b d xs y)) := by unfold betterB; rw [if_pos Hwo.out, if_neg hti]; rfl
      clear hti
      go_wp2_with fail
      go_ret
      exact ⟨ret_bool (by rw [H.out]), hBz⟩
  · have hne : (worthS xs x != worthS xs y) = true := by simpa using hwo
    have H : Hid (betterB b d xs x y = decide (worthS xs y < worthS xs x)) := by unfold betterB; rw [if_neg hwo]; rfl
    clear hwo
    go_wp2_with fail
    go_ret
    exact ⟨ret_bool (by rw [H.out]), hw⟩
end Go.Proofs.YtofpjbdelmmclaaGreatDoor

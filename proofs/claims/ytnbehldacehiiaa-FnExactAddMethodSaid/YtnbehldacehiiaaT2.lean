/- Contracts: slices of strings compared. -/
import Derived.Test.YtnbehldacehiiaaT1
import Derived.Test.YtnbehldacehiiaaG1
namespace Go.Proofs.Ytnbehldacehiiaa
open Go Go.RowKit
set_option linter.unusedVariables false
set_option linter.unusedSimpArgs false

theorem str_ne {a b : ByteArray} (h : a ≠ b) : (a.toList == b.toList) = false := by
  rw [beq_eq_false_iff_ne]
  intro e
  rw [bytes_toList, bytes_toList] at e
  exact h (by cases a; cases b; simp only [ByteArray.mk.injEq]; exact Array.toList_inj.1 e)
set_option maxHeartbeats 1000000 in
theorem slicesEqualStr_any (u v : Value) (xs ys : List ByteArray) (w : World) (hu : Strs w u xs) (hv : Strs w v ys) : Calls Try.prog 91 #[u, v] w fun e w' => e = .returned (.bool (decide (xs = ys))) ∧ Below w.heap.size w w' := by
  obtain ⟨A, c, rfl, h1, h2, hr⟩ := hu
  obtain ⟨A', c', rfl, h1', h2', hr'⟩ := hv
  unfold maxLen at h2 h2'
  by_cases hl : xs.length = ys.length
  · have hle : ((xs.length : Int) == ys.length) = true := by rw [hl]; simp
    have hne : ((xs.length : Int) != ys.length) = false := by rw [hl]; simp
    have Hl := Lib.hid hl
    clear hl
    go_enter Try.func91, Try.ntmps91
    go_wp2_with fail
    go_loopw [13] (fun i wr => ∃ k : Nat, k ≤ xs.length ∧ i = .int .i64 k ∧ Below w.heap.size w wr ∧ xs.take k = ys.take k) (fun i _ => xs.length - (intOf i).toNat)
    case atStart => exact ⟨0, by omega, rfl, Below.refl _ _, by simp⟩
    case round =>
      obtain ⟨k, hk, rfl, hB, ht⟩ := hrel
      have Ht := Lib.hid ht
      clear ht
      by_cases hlt : k < xs.length
      · have hlt' : k < ys.length := by have := Hl.out; omega
        obtain ⟨ad, rfl, hC⟩ := strs_el hr hlt
        obtain ⟨ad', rfl, hC'⟩ := strs_el hr' hlt'
        by_cases he : xs[k] = ys[k]
        · have He := Lib.hid (takes_step Ht.out hlt hlt' he)
          have hb : (xs[k].toList == ys[k].toList) = true := by rw [he]; exact beq_self_eq_true _
          clear he
          go_wp2_with fail
          go_big_quiet (fail)
          go_wp2_with fail
          exact ⟨⟨k + 1, by omega, by go_num, bw_dr hB _, He.out⟩, by simp [intOf]; omega⟩
        · have He := Lib.hid (eq_no_at hlt hlt' he)
          have hb : (xs[k].toList == ys[k].toList) = false := str_ne he
          clear he
          go_wp2_with fail
          go_big_quiet (fail)
          go_wp2_with fail
          go_ret
          exact ⟨ret_bool He.out.symm, bw_dr hB _⟩
      · have He := Lib.hid (eq_yes Ht.out hlt Hl.out)
        go_wp2_with fail
        go_ret
        exact ⟨ret_bool He.out.symm, hB⟩
  · have He := Lib.hid (eq_no_len hl)
    have hle : ((xs.length : Int) == ys.length) = false := by simp; omega
    have hne : ((xs.length : Int) != ys.length) = true := by simp; omega
    clear hl
    go_enter Try.func91, Try.ntmps91
    go_wp2_with fail
    go_ret
    exact ⟨ret_bool He.out.symm, Below.refl _ _⟩
set_option maxHeartbeats 1000000 in
theorem l1SameS_any (u v : Value) (xs ys : List ByteArray) (w : World) (hu : Strs w u xs) (hv : Strs w v ys) : Calls Try.prog 77 #[u, v] w fun e w' => e = .returned (.bool (decide (xs = ys))) ∧ Below w.heap.size w w' := by
  obtain ⟨A, c, rfl, h1, h2, hr⟩ := hu
  obtain ⟨A', c', rfl, h1', h2', hr'⟩ := hv
  unfold maxLen at h2 h2'
  by_cases hl : xs.length = ys.length
  · have hle : ((xs.length : Int) == ys.length) = true := by rw [hl]; simp
    have hne : ((xs.length : Int) != ys.length) = false := by rw [hl]; simp
    have Hl := Lib.hid hl
    clear hl
    go_enter Try.func77, Try.ntmps77
    go_wp2_with fail
    go_loopw [13] (fun i wr => ∃ k : Nat, k ≤ xs.length ∧ i = .int .i64 k ∧ Below w.heap.size w wr ∧ xs.take k = ys.take k) (fun i _ => xs.length - (intOf i).toNat)
    case atStart => exact ⟨0, by omega, rfl, Below.refl _ _, by simp⟩
    case round =>
      obtain ⟨k, hk, rfl, hB, ht⟩ := hrel
      have Ht := Lib.hid ht
      clear ht
      by_cases hlt : k < xs.length
      · have hlt' : k < ys.length := by have := Hl.out; omega
        obtain ⟨ad, rfl, hC⟩ := strs_el hr hlt
        obtain ⟨ad', rfl, hC'⟩ := strs_el hr' hlt'
        by_cases he : xs[k] = ys[k]
        · have He := Lib.hid (takes_step Ht.out hlt hlt' he)
          have hb : (xs[k].toList == ys[k].toList) = true := by rw [he]; exact beq_self_eq_true _
          clear he
          go_wp2_with fail
          go_big_quiet (fail)
          go_wp2_with fail
          exact ⟨⟨k + 1, by omega, by go_num, bw_dr hB _, He.out⟩, by simp [intOf]; omega⟩
        · have He := Lib.hid (eq_no_at hlt hlt' he)
          have hb : (xs[k].toList == ys[k].toList) = false := str_ne he
          clear he
          go_wp2_with fail
          go_big_quiet (fail)
          go_wp2_with fail
          go_ret
          exact ⟨ret_bool He.out.symm, bw_dr hB _⟩
      · have He := Lib.hid (eq_yes Ht.out hlt Hl.out)
        go_wp2_with fail
        go_ret
        exact ⟨ret_bool He.out.symm, hB⟩
  · have He := Lib.hid (eq_no_len hl)
    have hle : ((xs.length : Int) == ys.length) = false := by simp; omega
    have hne : ((xs.length : Int) != ys.length) = true := by simp; omega
    clear hl
    go_enter Try.func77, Try.ntmps77
    go_wp2_with fail
    go_ret
    exact ⟨ret_bool He.out.symm, Below.refl _ _⟩
def cmpB (a b : ByteArray) : Int := if nmLt a b then -1 else if (a.toList == b.toList) then 0 else 1
def cmpSS : List ByteArray → List ByteArray → Int
  | [], [] => 0
  | [], _ :: _ => -1
  | _ :: _, [] => 1
  | a :: r, b :: s => if cmpB a b = 0 then cmpSS r s else cmpB a b
def lessS : List ByteArray → List ByteArray → Bool
  | a :: r, b :: s => if (a.toList == b.toList) then lessS r s else nmLt a b
  | _, _ => false
theorem less_irr (x : List UInt8) : Op.bytesLess x x = false := by
  have h := less_tot x x
  cases e : Op.bytesLess x x
  · rfl
  · rw [e] at h; simp at h
theorem cmpB_zero (a b : ByteArray) : cmpB a b = 0 ↔ (a.toList == b.toList) = true := by
  unfold cmpB nmLt
  cases e : (a.toList == b.toList)
  · cases Op.bytesLess a.toList b.toList <;> simp
  · rw [eq_of_beq e, less_irr]; simp
theorem less_cmp : ∀ {xs ys : List ByteArray}, xs.length = ys.length → lessS xs ys = decide (cmpSS xs ys < 0)
  | [], [], _ => rfl
  | [], _ :: _, h => by simp at h
  | _ :: _, [], h => by simp at h
  | a :: r, b :: s, h => by
    rw [lessS, cmpSS]
    have hz := cmpB_zero a b
    cases e : (a.toList == b.toList)
    · rw [e] at hz
      rw [if_neg (by simp), if_neg (by simp [hz])]
      unfold cmpB
      rw [e]
      cases nmLt a b <;> rfl
    · rw [if_pos rfl, if_pos (hz.2 e)]
      exact less_cmp (by simpa using h)
theorem cmp_step {xs ys : List ByteArray} {k : Nat} {r : Int} (hx : k < xs.length) (hy : k < ys.length) (h : cmpSS (xs.drop k) (ys.drop k) = r) (hz : cmpB xs[k] ys[k] = 0) : cmpSS (xs.drop (k + 1)) (ys.drop (k + 1)) = r := by
  rw [List.drop_eq_getElem_cons hx, List.drop_eq_getElem_cons hy, cmpSS, if_pos hz] at h; exact h
theorem cmp_at {xs ys : List ByteArray} {k : Nat} {r : Int} (hx : k < xs.length) (hy : k < ys.length) (h : cmpSS (xs.drop k) (ys.drop k) = r) (hz : ¬ cmpB xs[k] ys[k] = 0) : r = cmpB xs[k] ys[k] := by
  rw [List.drop_eq_getElem_cons hx, List.drop_eq_getElem_cons hy, cmpSS, if_neg hz] at h; exact h.symm
theorem cmp_end {xs ys : List ByteArray} {k : Nat} {r : Int} (hx : xs.length ≤ k) (hy : ys.length ≤ k) (h : cmpSS (xs.drop k) (ys.drop k) = r) : r = 0 := by
  rw [List.drop_of_length_le hx, List.drop_of_length_le hy] at h; exact h.symm
theorem cmpCompareStr_any (a b : ByteArray) (w : World) : Calls Try.prog 108 #[.string a, .string b] w fun e w' => e = .returned (.int .i64 (cmpB a b)) ∧ w = w' := by
  have e1 : ∀ x : ByteArray, (x.toList == x.toList) = true := fun x => beq_self_eq_true _
  unfold cmpB nmLt
  cases h1 : Op.bytesLess a.toList b.toList
  · cases h2 : (a.toList == b.toList)
    all_goals
      go_enter Try.func108, Try.ntmps108
      go_wp2
      go_ret
      exact ⟨ret_int (by simp), rfl⟩
  · go_enter Try.func108, Try.ntmps108
    go_wp2
    go_ret
    exact ⟨ret_int (by simp), rfl⟩
set_option maxHeartbeats 1000000 in
theorem slicesCompareStr_any (u v : Value) (xs ys : List ByteArray) (w : World) (hu : Strs w u xs) (hv : Strs w v ys) (hl : xs.length = ys.length) : Calls Try.prog 90 #[u, v] w fun e w' => e = .returned (.int .i64 (cmpSS xs ys)) ∧ w = w' := by
  obtain ⟨A, c, rfl, h1, h2, hr⟩ := hu
  obtain ⟨A', c', rfl, h1', h2', hr'⟩ := hv
  unfold maxLen at h2 h2'
  have hB := Below.refl w.heap.size w
  have Hl := Lib.hid hl
  clear hl
  go_enter Try.func90, Try.ntmps90
  go_wp2_with fail
  go_loop [11] (fun i => ∃ k : Nat, k ≤ xs.length ∧ i = .int .i64 k ∧ cmpSS (xs.drop k) (ys.drop k) = cmpSS xs ys) (fun i => xs.length - (intOf i).toNat)
  case atStart => exact ⟨0, by omega, rfl, rfl⟩
  case round =>
    obtain ⟨k, hk, rfl, ht⟩ := hrel
    have Ht := Lib.hid ht
    clear ht
    by_cases hlt : k < xs.length
    · have hlt' : k < ys.length := by have := Hl.out; omega
      obtain ⟨ad, rfl, hC⟩ := strs_el hr hlt
      obtain ⟨ad', rfl, hC'⟩ := strs_el hr' hlt'
      by_cases he : cmpB xs[k] ys[k] = 0
      · have He := Lib.hid (cmp_step hlt hlt' Ht.out he)
        go_wp2_with (go_at_call 108; refine (cmpCompareStr_any _ _ _).mono ?_; rintro e w' ⟨rfl, rfl⟩)
        exact ⟨⟨k + 1, by omega, by go_num, He.out⟩, by simp [intOf]; omega⟩
      · have He := Lib.hid (cmp_at hlt hlt' Ht.out he)
        have hz : (cmpB xs[k] ys[k] != 0) = true := by simpa using he
        go_wp2_with (go_at_call 108; refine (cmpCompareStr_any _ _ _).mono ?_; rintro e w' ⟨rfl, rfl⟩)
        go_ret
        exact ⟨ret_int He.out.symm, rfl⟩
    · have He := Lib.hid (cmp_end (by omega) (by have := Hl.out; omega) Ht.out)
      have hl' : ¬ xs.length < ys.length := by have := Hl.out; omega
      go_wp2_with fail
      go_ret
      exact ⟨ret_int He.out.symm, rfl⟩
end Go.Proofs.Ytnbehldacehiiaa

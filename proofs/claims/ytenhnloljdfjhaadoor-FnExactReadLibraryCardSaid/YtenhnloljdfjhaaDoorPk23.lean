/- Contracts: lists that read the same both ways. -/
import Derived.Test.YtenhnloljdfjhaaDoorPk22
namespace Go.Proofs.YtenhnloljdfjhaaDoor
open Go Go.RowKit
set_option linter.unusedVariables false
set_option linter.unusedSimpArgs false

def palAt (l : List ByteArray) (i : Nat) : Bool := decide (l.getD i dashT = l.getD (l.length - 1 - i) dashT)
theorem pal_def (l : List ByteArray) : pal l = (List.range l.length).all (palAt l) := rfl
theorem palAt_of {l : List ByteArray} {k : Nat} {x y : ByteArray} (hk : k < l.length) (hx : l[k] = x) (hy : l[l.length - 1 - k]'(by omega) = y) : palAt l k = (x.toList == y.toList) := by
  unfold palAt
  rw [getD_of hk, getD_of (show l.length - 1 - k < l.length by omega), hx, hy]
  rw [Bool.eq_iff_iff, decide_eq_true_eq, beq_iff_eq, bytes_toList, bytes_toList]
  constructor
  · rintro rfl; rfl
  · intro h; exact ByteArray.ext (Array.toList_inj.1 h)
theorem pal_no {l : List ByteArray} {k : Nat} (hk : k < l.length) (h : palAt l k = false) : pal l = false := by
  rw [pal_def]
  cases e : (List.range l.length).all (palAt l)
  · rfl
  · rw [List.all_eq_true] at e
    rw [e k (List.mem_range.2 hk)] at h; cases h
theorem pal_step {l : List ByteArray} {k : Nat} (ha : (List.range k).all (palAt l) = true) (h : palAt l k = true) : (List.range (k + 1)).all (palAt l) = true := by
  rw [List.range_succ, List.all_append, ha]; simp [h]
set_option maxRecDepth 10000 in
set_option maxHeartbeats 2000000 in
theorem sameBothWays_any (v : Value) (l : List ByteArray) (w : World) (h : Strs w v l) (hlen : l.length ≤ 1000) : Calls Tryd.prog 65 #[v] w fun e w' => e = .returned (.bool (pal l)) ∧ Below w.heap.size w w' := by
  obtain ⟨A, c, rfl, h1, h2, hr⟩ := h
  unfold maxLen at h2
  go_enter Tryd.func65, Tryd.ntmps65
  go_wp2_with fail
  go_loopw [6] (fun i wr => ∃ k : Nat, k ≤ l.length ∧ i = .int .i64 k ∧ (List.range k).all (palAt l) = true ∧ Below w.heap.size w wr) (fun i _ => l.length - (intOf i).toNat)
  case atStart => exact ⟨0, by omega, rfl, by simp, Below.refl _ _⟩
  case round =>
    obtain ⟨k, hk, rfl, hall, hB⟩ := hrel
    have Hall := Lib.hid hall
    clear hall
    by_cases hlt : k < l.length
    · obtain ⟨ad, rfl, hC⟩ := strs_el hr hlt
      obtain ⟨ad', e', hC'⟩ := strs_el hr (k := l.length - 1 - k) (by omega)
      cases e'
      have c0 := hC wr hB
      have c1 := hC' wr hB
      obtain ⟨x, ex⟩ : ∃ x, x = l[k] := ⟨_, rfl⟩
      obtain ⟨y, ey⟩ : ∃ y, y = l[l.length - 1 - k]'(by omega) := ⟨_, rfl⟩
      have Hp := Lib.hid (palAt_of hlt ex.symm ey.symm)
      rw [← ex] at c0
      rw [← ey] at c1
      have hw1 : IntKind.i64.wrap ((l.length : Int) - 1) = (l.length : Int) - 1 := IntWalk.i64_in _ (by omega)
      have hw2 : IntKind.i64.wrap ((l.length : Int) - 1 - (k : Int)) = (l.length : Int) - 1 - (k : Int) := IntWalk.i64_in _ (by omega)
      have hi0 : (0 : Int) ≤ (l.length : Int) - 1 - (k : Int) := by omega
      have hi1 : ((l.length : Int) - 1 - (k : Int)).toNat = l.length - 1 - k := by omega
      have hi2 : (l.length : Int) - 1 - (k : Int) < (l.length : Int) := by omega
      have hq0 : (0 : Int) ≤ (k : Int) := by omega
      have hq1 : (k : Int) < (l.length : Int) := by omega
      clear hC hC' ex ey hr
      cases hb : (x.toList == y.toList)
      · have Hno := Lib.hid (pal_no hlt (Hp.out.trans hb))
        go_wp2_with fail
        go_big_quiet (fail)
        go_wp2_with fail
        go_ret
        exact ⟨ret_bool (by rw [Hno.out]), bw_dr hB _⟩
      · have Hst := Lib.hid (pal_step Hall.out (Hp.out.trans hb))
        go_wp2_with fail
        go_big_quiet (fail)
        go_wp2_with fail
        exact ⟨⟨k + 1, by omega, by go_num, Hst.out, bw_dr hB _⟩, by simp [intOf]; omega⟩
    · obtain rfl : k = l.length := by omega
      go_wp2_with fail
      go_ret
      exact ⟨ret_bool (by rw [pal_def, Hall.out]), hB⟩
set_option maxRecDepth 10000 in
set_option maxHeartbeats 2000000 in
theorem l3Same_any (v : Value) (l : List ByteArray) (w : World) (h : Strs w v l) (hlen : l.length ≤ 1000) : Calls Tryd.prog 57 #[v] w fun e w' => e = .returned (.bool (pal l && decide (l.length % 2 = 1))) ∧ Below w.heap.size w w' := by
  obtain ⟨A, c, rfl, h1, h2, hr⟩ := h
  unfold maxLen at h2
  go_enter Tryd.func57, Tryd.ntmps57
  go_wp2_with fail
  go_loopw [6] (fun i wr => ∃ k : Nat, k ≤ l.length ∧ i = .int .i64 k ∧ (List.range k).all (palAt l) = true ∧ Below w.heap.size w wr) (fun i _ => l.length - (intOf i).toNat)
  case atStart => exact ⟨0, by omega, rfl, by simp, Below.refl _ _⟩
  case round =>
    obtain ⟨k, hk, rfl, hall, hB⟩ := hrel
    have Hall := Lib.hid hall
    clear hall
    by_cases hlt : k < l.length
    · obtain ⟨ad, rfl, hC⟩ := strs_el hr hlt
      obtain ⟨ad', e', hC'⟩ := strs_el hr (k := l.length - 1 - k) (by omega)
      cases e'
      have c0 := hC wr hB
      have c1 := hC' wr hB
      obtain ⟨x, ex⟩ : ∃ x, x = l[k] := ⟨_, rfl⟩
      obtain ⟨y, ey⟩ : ∃ y, y = l[l.length - 1 - k]'(by omega) := ⟨_, rfl⟩
      have Hp := Lib.hid (palAt_of hlt ex.symm ey.symm)
      rw [← ex] at c0
      rw [← ey] at c1
      have hw1 : IntKind.i64.wrap ((l.length : Int) - 1) = (l.length : Int) - 1 := IntWalk.i64_in _ (by omega)
      have hw2 : IntKind.i64.wrap ((l.length : Int) - 1 - (k : Int)) = (l.length : Int) - 1 - (k : Int) := IntWalk.i64_in _ (by omega)
      have hi0 : (0 : Int) ≤ (l.length : Int) - 1 - (k : Int) := by omega
      have hi1 : ((l.length : Int) - 1 - (k : Int)).toNat = l.length - 1 - k := by omega
      have hi2 : (l.length : Int) - 1 - (k : Int) < (l.length : Int) := by omega
      have hq0 : (0 : Int) ≤ (k : Int) := by omega
      have hq1 : (k : Int) < (l.length : Int) := by omega
      clear hC hC' ex ey hr
      cases hb : (x.toList == y.toList)
      · have Hno := Lib.hid (pal_no hlt (Hp.out.trans hb))
        go_wp2_with fail
        go_big_quiet (fail)
        go_wp2_with fail
        go_ret
        exact ⟨ret_bool (by rw [Hno.out]; rfl), bw_dr hB _⟩
      · have Hst := Lib.hid (pal_step Hall.out (Hp.out.trans hb))
        go_wp2_with fail
        go_big_quiet (fail)
        go_wp2_with fail
        exact ⟨⟨k + 1, by omega, by go_num, Hst.out, bw_dr hB _⟩, by simp [intOf]; omega⟩
    · obtain rfl : k = l.length := by omega
      go_wp2_with fail
      go_ret
      exact ⟨ret_bool (by rw [pal_def, Hall.out, Bool.true_and, Bool.eq_iff_iff, beq_iff_eq, decide_eq_true_eq]; omega), hB⟩
end Go.Proofs.YtenhnloljdfjhaaDoor

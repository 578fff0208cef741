/- Contracts: changes that read the same both ways, both sides. -/
import Derived.Test.YtpkpahadjdkafaaPk17
import Derived.Test.YtpkpahadjdkafaaPk18
namespace Go.Proofs.Ytpkpahadjdkafaa
open Go Go.RowKit
set_option linter.unusedVariables false
set_option linter.unusedSimpArgs false

def palJ (l : List ByteArray) (i : Nat) : Bool := decide (l[i]? = l[l.length - 1 - i]?)
def palI (l : List ByteArray) : Bool := (List.range l.length).all (palJ l)
theorem palJ_of {l : List ByteArray} {k : Nat} {x y : ByteArray} (hk : k < l.length) (hx : l[k] = x) (hy : l[l.length - 1 - k]'(by omega) = y) : palJ l k = (x.toList == y.toList) := by
  unfold palJ
  rw [List.getElem?_eq_getElem hk, List.getElem?_eq_getElem (show l.length - 1 - k < l.length by omega), hx, hy]
  by_cases h : x = y
  · rw [h, decide_eq_true rfl]; exact (beq_self_eq_true _).symm
  · rw [decide_eq_false (by simpa using h)]
    cases hb : (x.toList == y.toList)
    · rfl
    · exact absurd (eq_of_bl hb) h
theorem palI_no {l : List ByteArray} {k : Nat} (hk : k < l.length) (h : palJ l k = false) : palI l = false := by
  unfold palI
  cases e : (List.range l.length).all (palJ l)
  · rfl
  · rw [List.all_eq_true] at e
    rw [e k (List.mem_range.2 hk)] at h; cases h
theorem palJ_step {l : List ByteArray} {k : Nat} (ha : (List.range k).all (palJ l) = true) (h : palJ l k = true) : (List.range (k + 1)).all (palJ l) = true := by
  rw [List.range_succ, List.all_append, ha]; simp [h]
set_option maxRecDepth 10000 in
set_option maxHeartbeats 2000000 in
theorem sameBothI_any (v : Value) (l : List ByteArray) (w : World) (h : Strs w v l) (hlen : l.length ≤ 1000) : Calls Try.prog 125 #[v] w fun e w' => e = .returned (.bool (palI l)) ∧ Below w.heap.size w w' := by
  obtain ⟨A, c, rfl, h1, h2, hr⟩ := h
  unfold maxLen at h2
  go_enter Try.func125, Try.ntmps125
  go_wp2_with fail
  go_loopw [6] (fun i wr => ∃ k : Nat, k ≤ l.length ∧ i = .int .i64 k ∧ (List.range k).all (palJ l) = true ∧ Below w.heap.size w wr) (fun i _ => l.length - (intOf i).toNat)
  case atStart => exact ⟨0, by omega, rfl, by simp, Below.refl _ _⟩
  case round =>
    obtain ⟨k, hk, rfl, hall, hB⟩ := hrel
    have Hall := Lib.hid hall
    clear hall
    by_cases hlt : k < l.length
    · obtain ⟨ad, rfl, hC⟩ := strs_el hr hlt
      obtain ⟨ad', e', hC'⟩ := strs_el hr (k := l.length - 1 - k) (by omega)
      cases e'
      have c0 := hC wr hB
      have c1 := hC' wr hB
      obtain ⟨x, ex⟩ : ∃ x, x = l[k] := ⟨_, rfl⟩
      obtain ⟨y, ey⟩ : ∃ y, y = l[l.length - 1 - k]'(by omega) := ⟨_, rfl⟩
      have Hp := Lib.hid (palJ_of hlt ex.symm ey.symm)
      rw [← ex] at c0
      rw [← ey] at c1
      have hw1 : IntKind.i64.wrap ((l.length : Int) - 1) = (l.length : Int) - 1 := IntWalk.i64_in _ (by omega)
      have hw2 : IntKind.i64.wrap ((l.length : Int) - 1 - (k : Int)) = (l.length : Int) - 1 - (k : Int) := IntWalk.i64_in _ (by omega)
      have hi0 : (0 : Int) ≤ (l.length : Int) - 1 - (k : Int) := by omega
      have hi1 : ((l.length : Int) - 1 - (k : Int)).toNat = l.length - 1 - k := by omega
      have hi2 : (l.length : Int) - 1 - (k : Int) < (l.length : Int) := by omega
      have hq0 : (0 : Int) ≤ (k : Int) := by omega
      have hq1 : (k : Int) < (l.length : Int) := by omega
      clear hC hC' ex ey hr
      cases hb : (x.toList == y.toList)
      · have Hno := Lib.hid (palI_no hlt (Hp.out.trans hb))
        go_wp2_with fail
        go_big_quiet (fail)
        go_wp2_with fail
        go_ret
        exact ⟨ret_bool (by rw [Hno.out]), bw_dr hB _⟩
      · have Hst := Lib.hid (palJ_step Hall.out (Hp.out.trans hb))
        go_wp2_with fail
        go_big_quiet (fail)
        go_wp2_with fail
        exact ⟨⟨k + 1, by omega, by go_num, Hst.out, bw_dr hB _⟩, by simp [intOf]; omega⟩
    · obtain rfl : k = l.length := by omega
      go_wp2_with fail
      go_ret
      exact ⟨ret_bool (by unfold palI; rw [Hall.out]), hB⟩
def palM (m : Mt) : Bool := palI (m.l.take (m.l.length - 1))
theorem strs_take {w : World} {ad : Addr} {n c : Nat} {l : List ByteArray} (h : Strs w (.slice (some ad) n c) l) {k : Nat} (hk : k ≤ n) : Strs w (.slice (some ad) k c) (l.take k) := by
  obtain ⟨A', c', e, h1, h2, hr⟩ := h
  injection e with ea eb ec
  subst ea ec eb
  have hl : (l.take k).length = k := by rw [List.length_take]; omega
  refine ⟨some ad, c, by rw [hl], by rw [hl]; omega, h2, ?_⟩
  rw [hl]
  refine ⟨by simp; omega, fun hn => ?_⟩
  obtain ⟨ad', e', hb, hcell⟩ := hr.2 (by omega)
  cases e'
  refine ⟨ad, rfl, hb, fun j u hu => hcell j u ?_⟩
  rw [List.map_take, List.getElem?_take] at hu
  split at hu
  · exact hu
  · cases hu
set_option maxHeartbeats 2000000 in
theorem palindrome_any (m : Mt) (v : Value) (n : Nat) (w : World) (hg : MGood m n) (h : MethAt w m v) : Calls Try.prog 97 #[m.v v] w fun e w' => e = .returned (.bool (palM m)) ∧ Below w.heap.size w w' := by
  have hl := hg.len
  obtain ⟨ad, c, hv⟩ := strs_some h.1 hl.1
  subst hv
  obtain ⟨N, hN⟩ : ∃ N, N + 1 = m.l.length := ⟨m.l.length - 1, by omega⟩
  have Hs := Lib.hid (fun W (hW : Below w.heap.size w W) => sameBothI_any (.slice (some ad) N c) (m.l.take N) W (strs_take (h.1.to hW) (by omega)) (by rw [List.length_take]; omega))
  obtain ⟨c', _, hcm, hc1⟩ : ∃ c', c' = c ∧ c ≤ maxLen ∧ m.l.length ≤ c := by obtain ⟨_, _, e, h1, h2, _⟩ := h.1; injection e with _ _ e; exact ⟨c, rfl, by rw [e]; exact h2, by rw [e]; exact h1⟩
  unfold maxLen at hcm
  have Hd : Hid (palM m = palI (m.l.take N)) := Lib.hid (by unfold palM; rw [← hN]; rfl)
  unfold Mt.v
  rw [← hN] at hc1 hl ⊢
  have hn1 : (N : Int) ≤ (c : Int) := by omega
  have hn2 : (N : Int) ≤ (N : Int) + 1 := by omega
  have hcN : ¬ c = N := by omega
  clear h hg hN
  go_enter Try.func97, Try.ntmps97
  go_wp2_with fail
  refine box1 (C := fun W => Calls _ _ _ W _) ?_
  intro wb hw k1 hB0
  refine (Hs.out _ hw).mono ?_; rintro e w1 ⟨rfl, hb1⟩
  go_wp2_with fail
  go_ret
  exact ⟨ret_bool Hd.out.symm, bw_to hw hb1⟩
set_option maxRecDepth 10000 in
set_option maxHeartbeats 2000000 in
theorem l4Palindrome_any (m : Mt) (v : Value) (n : Nat) (w : World) (hg : MGood m n) (h : MethAt w m v) : Calls Try.prog 59 #[m.v v] w fun e w' => e = .returned (.bool (palM m)) ∧ Below w.heap.size w w' := by
  have hl := hg.len
  obtain ⟨ad, c, hv⟩ := strs_some h.1 hl.1
  subst hv
  obtain ⟨N, hN⟩ : ∃ N, N + 1 = m.l.length := ⟨m.l.length - 1, by omega⟩
  obtain ⟨A', c', e', h1, h2, hr⟩ := strs_take h.1 (k := N) (by omega)
  injection e' with ea eb ec
  subst ea ec
  obtain ⟨L, hL⟩ : ∃ L, L = m.l.take N := ⟨_, rfl⟩
  have Hd : Hid (palM m = palI L) := Lib.hid (by unfold palM; rw [hL, ← hN]; rfl)
  unfold Mt.v
  rw [← hN] at hl ⊢
  rw [← hL] at hr eb h1
  have HLN := Lib.hid eb
  unfold maxLen at h2
  rw [← eb] at hr h1
  clear h hg hN hL eb
  go_enter Try.func59, Try.ntmps59
  go_wp2_with fail
  refine box1 (C := fun W => Code.wp _ _ _ _ W) ?_
  intro wb hw k1 hB0
  have R1 := boxRule k1
  clear k1
  go_wp2_with fail
  go_loopw [4] (fun i wr => ∃ k : Nat, k ≤ N ∧ i = .int .i64 k ∧ (List.range k).all (palJ L) = true ∧ Below wb.heap.size wb wr) (fun i _ => N - (intOf i).toNat)
  case atStart => exact ⟨0, by omega, rfl, by simp, Below.refl _ _⟩
  case round =>
    obtain ⟨k, hk, rfl, hall, hB⟩ := hrel
    have Hall := Lib.hid hall
    clear hall
    have R2 := fun i => R1 wr i hB
    by_cases hlt : k < N
    · obtain ⟨ad', e1, hC⟩ := strs_el hr (k := k) (by rw [← HLN.out]; exact hlt)
      cases e1
      obtain ⟨ad', e', hC'⟩ := strs_el hr (k := N - 1 - k) (by rw [← HLN.out]; omega)
      cases e'
      have c0 := hC wr (bw_to hw hB)
      have c1 := hC' wr (bw_to hw hB)
      obtain ⟨x, ex⟩ : ∃ x, x = L[k]'(by rw [← HLN.out]; exact hlt) := ⟨_, rfl⟩
      obtain ⟨y, ey⟩ : ∃ y, y = L[N - 1 - k]'(by rw [← HLN.out]; omega) := ⟨_, rfl⟩
      have Hp := Lib.hid (palJ_of (l := L) (k := k) (x := x) (y := y) (by rw [← HLN.out]; exact hlt) ex.symm (by rw [ey]; simp only [← HLN.out]))
      have Hno1 := Lib.hid (fun h => palI_no (l := L) (k := k) (by rw [← HLN.out]; exact hlt) h)
      rw [← ex] at c0
      rw [← ey] at c1
      have hw1 : IntKind.i64.wrap ((N : Int) - 1) = (N : Int) - 1 := IntWalk.i64_in _ (by omega)
      have hw2 : IntKind.i64.wrap ((N : Int) - 1 - (k : Int)) = (N : Int) - 1 - (k : Int) := IntWalk.i64_in _ (by omega)
      have hi0 : (0 : Int) ≤ (N : Int) - 1 - (k : Int) := by omega
      have hi1 : ((N : Int) - 1 - (k : Int)).toNat = N - 1 - k := by omega
      have hi2 : (N : Int) - 1 - (k : Int) < (N : Int) + 1 := by omega
      have hq0 : (0 : Int) ≤ (k : Int) := by omega
      have hq1 : (k : Int) < (N : Int) + 1 := by omega
      clear hC hC' ex ey hr R1
      cases hb : (x.toList == y.toList)
      · have Hno := Lib.hid (Hno1.out (Hp.out.trans hb))
        go_wp2_with fail
        go_big_quiet (fail)
        go_wp2_with fail
        go_ret
        exact ⟨ret_bool (by rw [Hd.out, Hno.out]), bw_to hw (bw_dr hB _)⟩
      · have Hst := Lib.hid (palJ_step Hall.out (Hp.out.trans hb))
        go_wp2_with fail
        go_big_quiet (fail)
        go_wp2_with fail
        exact ⟨⟨k + 1, by omega, by go_num, Hst.out, bw_dr hB _⟩, by simp [intOf]; omega⟩
    · obtain rfl : k = N := by omega
      have Hy : Hid (palI L = true) := Lib.hid (by unfold palI; rw [← HLN.out]; exact Hall.out)
      go_wp2_with fail
      go_ret
      exact ⟨ret_bool (by rw [Hd.out, Hy.out]), bw_to hw hB⟩
end Go.Proofs.Ytpkpahadjdkafaa

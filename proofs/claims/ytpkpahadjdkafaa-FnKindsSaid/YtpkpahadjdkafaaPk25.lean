/- Contracts: the bells that stay at home, both sides. -/
import Derived.Test.YtpkpahadjdkafaaPk17
import Derived.Test.YtpkpahadjdkafaaPk18
namespace Go.Proofs.Ytpkpahadjdkafaa
open Go Go.RowKit
set_option linter.unusedVariables false
set_option linter.unusedSimpArgs false

/-- Is a bell at home? -/
def homeB (i : Nat) (r : ByteArray) : Bool := decide ((r.data.toList[i]?).map UInt8.toNat = some (49 + i))
def stillL (n : Nat) (rows : List ByteArray) : List Nat := (List.range n).filter fun i => rows.all (homeB i)
theorem home_at {n i : Nat} {r : ByteArray} (hr : RowIn n r) (hi : i < r.size) : homeB i r = decide ((r[i].toNat : Int) = 49 + i) := by
  unfold homeB
  rw [List.getElem?_eq_getElem (by rw [bytes_len]; exact hi), bytes_get r i hi]
  simp only [Option.map_some, Option.some.injEq]
  rw [Bool.eq_iff_iff, decide_eq_true_eq, decide_eq_true_eq]
  omega
theorem still_succ (k : Nat) (rows : List ByteArray) : stillL (k + 1) rows = stillL k rows ++ (if rows.all (homeB k) = true then [k] else []) := by
  unfold stillL
  rw [List.range_succ, List.filter_append]
  congr 1
  by_cases h : rows.all (homeB k) = true
  · rw [if_pos h]; simp only [List.filter_cons, h]; rfl
  · rw [if_neg h]; simp only [List.filter_cons, Bool.not_eq_true] at *; rw [h]; rfl
theorem still_len (k : Nat) (rows : List ByteArray) : (stillL k rows).length ≤ k := by
  unfold stillL
  exact Nat.le_trans (List.length_filter_le _ _) (by simp)
def bellsV (l : List Nat) : List Value := l.map fun i : Nat => Value.int .i64 ((i : Int) + 1)
theorem bellsV_snoc (l : List Nat) (k : Nat) : bellsV (l ++ [k]) = bellsV l ++ [.int .i64 ((k : Int) + 1)] := by simp [bellsV]
theorem any_home {n i : Nat} {rows : List ByteArray} : (rows.any fun r => !(homeB i r)) = !(rows.all (homeB i)) := by
  rw [List.not_all_eq_any_not]
def ixG {α : Type} (p : α → Bool) : Nat → List α → Int
  | _, [] => -1
  | k, x :: t => if p x = true then k else ixG p (k + 1) t
theorem ixG_hit {α : Type} {p : α → Bool} {xs : List α} {k : Nat} {r : Int} (hk : k < xs.length) (h : ixG p k (xs.drop k) = r) (hh : p xs[k] = true) : r = k := by
  rw [List.drop_eq_getElem_cons hk, ixG, if_pos hh] at h; exact h.symm
theorem ixG_step {α : Type} {p : α → Bool} {xs : List α} {k : Nat} {r : Int} (hk : k < xs.length) (h : ixG p k (xs.drop k) = r) (hh : p xs[k] = false) : ixG p (k + 1) (xs.drop (k + 1)) = r := by
  rw [List.drop_eq_getElem_cons hk, ixG, if_neg (by rw [hh]; decide)] at h; exact h
theorem ixG_end {α : Type} {p : α → Bool} {xs : List α} {k : Nat} {r : Int} (hk : xs.length ≤ k) (h : ixG p k (xs.drop k) = r) : r = -1 := by
  rw [List.drop_of_length_le hk] at h; exact h.symm
theorem any_ixG {α : Type} (p : α → Bool) : ∀ (xs : List α) (k : Nat), xs.any p = decide (0 ≤ ixG p k xs)
  | [], k => rfl
  | x :: t, k => by
    rw [List.any_cons, ixG]
    cases h : p x
    · rw [if_neg (by decide), Bool.false_or]; exact any_ixG p t (k + 1)
    · rw [if_pos rfl, Bool.true_or]; simp
set_option maxHeartbeats 2000000 in
theorem still1_any (r : ByteArray) (n i g : Nat) (w : World) (hr : RowIn n r) (hn : n ≤ 8) (hi : i < n) (hg : ∀ w', Below w.heap.size w w' → w'.cell? ⟨g, 0, none⟩ = some (.int .i64 i)) :
    Calls Try.prog 103 #[.string r, .pointer (some ⟨g, 0, none⟩)] w fun e w' => e = .returned (.bool (!(homeB i r))) ∧ Below w.heap.size w w' := by
  have hir : i < r.size := by rw [hr.1]; exact hi
  have hh := home_at hr hir
  have hg0 := hg _ (Below.refl _ _)
  have hw8 : IntKind.u8.wrap ((49 : Int) + i) = 49 + i := IntWalk.u8_in _ ⟨by omega, by omega⟩
  obtain ⟨b, hb⟩ : ∃ b, b = homeB i r := ⟨_, rfl⟩
  rw [← hb] at hh ⊢
  have Hh := Lib.hid hh
  clear hb hh hg hr
  have hrs : r.size ≤ r.size := Nat.le_refl _
  cases b
  · have hd : ((r[i].toNat : Int) == 49 + i) = false := by have := of_decide_eq_false Hh.out.symm; simpa using this
    go_enter Try.func103, Try.ntmps103
    go_wp2_with fail
    go_big_quiet (fail)
    go_wp2_with fail
    go_ret
    exact ⟨ret_bool (by simp at hd ⊢; first | exact hd | omega), bw_dr (Below.refl _ _) _⟩
  · have hd : ((r[i].toNat : Int) == 49 + i) = true := by have := of_decide_eq_true Hh.out.symm; simpa using this
    go_enter Try.func103, Try.ntmps103
    go_wp2_with fail
    go_big_quiet (fail)
    go_wp2_with fail
    go_ret
    exact ⟨ret_bool (by simp at hd ⊢; first | exact hd | omega), bw_dr (Below.refl _ _) _⟩
set_option maxRecDepth 10000 in
set_option maxHeartbeats 2000000 in
theorem indexFuncS_st (V : Value) (xs : List ByteArray) (p : ByteArray → Bool) (ptr : Value) (w : World) (h : Strs w V xs)
    (hp : ∀ x ∈ xs, ∀ w', Below w.heap.size w w' → Calls Try.prog 103 #[.string x, ptr] w' fun e w'' => e = .returned (.bool (p x)) ∧ Below w'.heap.size w' w'') :
    Calls Try.prog 132 #[V, .func (.func 103) #[] #[ptr]] w fun e w' => e = .returned (.int .i64 (ixG p 0 xs)) ∧ Below w.heap.size w w' := by
  obtain ⟨A, c, rfl, h1, h2, hr⟩ := h
  unfold maxLen at h2
  have Hp := Lib.hid hp
  clear hp
  go_enter Try.func132, Try.ntmps132
  go_wp2_with fail
  go_loopw [8] (fun i wr => ∃ k : Nat, k ≤ xs.length ∧ i = .int .i64 k ∧ ixG p k (xs.drop k) = ixG p 0 xs ∧ Below w.heap.size w wr) (fun i _ => xs.length - (intOf i).toNat)
  case atStart => exact ⟨0, by omega, rfl, rfl, Below.refl _ _⟩
  case round =>
    obtain ⟨k, hk, rfl, hok, hB⟩ := hrel
    have Hok := Lib.hid hok
    clear hok
    by_cases hlt : k < xs.length
    · obtain ⟨ad, rfl, hC⟩ := strs_el hr hlt
      have hC0 := hC wr hB
      have H1 := Lib.hid (ixG_hit hlt Hok.out)
      have H2 := Lib.hid (ixG_step hlt Hok.out)
      have Hc := Lib.hid (Hp.out _ (List.getElem_mem hlt))
      obtain ⟨x, hx⟩ : ∃ x, x = xs[k] := ⟨_, rfl⟩
      rw [← hx] at hC0 H1 H2 Hc
      obtain ⟨b, hb⟩ : ∃ b, b = p x := ⟨_, rfl⟩
      rw [← hb] at H1 H2 Hc
      clear hb hC hx
      go_wp2_with fail
      refine (Hc.out _ hB).mono ?_; rintro e w1 ⟨rfl, hb1⟩
      cases b
      · go_wp2_with fail
        exact ⟨⟨k + 1, by omega, by go_num, H2.out (by simp), bw_to hB hb1⟩, by simp [intOf]; omega⟩
      · go_wp2_with fail
        go_ret
        exact ⟨ret_int (H1.out (by simp)).symm, bw_to hB hb1⟩
    · go_wp2_with fail
      go_ret
      exact ⟨ret_int (ixG_end (by omega) Hok.out).symm, hB⟩
set_option maxHeartbeats 2000000 in
theorem containsS_st (V : Value) (xs : List ByteArray) (p : ByteArray → Bool) (ptr : Value) (w : World) (h : Strs w V xs)
    (hp : ∀ x ∈ xs, ∀ w', Below w.heap.size w w' → Calls Try.prog 103 #[.string x, ptr] w' fun e w'' => e = .returned (.bool (p x)) ∧ Below w'.heap.size w' w'') :
    Calls Try.prog 102 #[V, .func (.func 103) #[] #[ptr]] w fun e w' => e = .returned (.bool (xs.any p)) ∧ Below w.heap.size w w' := by
  have Hc := Lib.hid (indexFuncS_st V xs p ptr w h hp)
  rw [any_ixG p xs 0]
  obtain ⟨z, hz⟩ : ∃ z, z = ixG p 0 xs := ⟨_, rfl⟩
  rw [← hz] at Hc
  rw [← hz]
  clear hz h hp
  go_enter Try.func102, Try.ntmps102
  go_wp2_with fail
  refine Hc.out.mono ?_; rintro e w1 ⟨rfl, hb1⟩
  go_wp2_with fail
  go_ret
  exact ⟨rfl, hb1⟩
set_option maxRecDepth 10000 in
set_option maxHeartbeats 2000000 in
theorem still_any (n : Nat) (v : Value) (rows : List ByteArray) (w : World) (hn : n ≤ 8) (hv : Strs w v rows) (hin : ∀ r ∈ rows, RowIn n r) : Calls Try.prog 65 #[.int .i64 n, v] w fun e w' =>
    ∃ A q, e = .returned (.slice A (stillL n rows).length q) ∧ w'.ownsRow w.heap.size 3 1 (.slice A (stillL n rows).length q) (stillL n rows).length (bellsV (stillL n rows)) ∧ Below w.heap.size w w' := by
  have Hin := Lib.hid hin
  have Hv := Lib.hid hv
  clear hin hv
  go_enter Try.func65, Try.ntmps65
  go_wp2_with fail
  refine box1 (C := fun W => Code.wp _ _ _ _ W) ?_
  intro wb hw k1 hB0
  have hown0 : wb.ownsRow w.heap.size 3 1 (.slice (some ⟨w.heap.size, 0, none⟩) 0 0) 0 (bellsV (stillL 0 rows)) := own_of_heap (cs := #[]) k1 (Nat.le_refl _) (by unfold maxLen; omega) rfl
  clear k1
  go_loopw [5, 9] (fun o i wr => ∃ (k : Nat) (A : Option Addr) (q : Nat), k ≤ n ∧ i = .int .i64 k ∧ o = .slice A (stillL k rows).length q ∧ wr.ownsRow w.heap.size 3 1 (.slice A (stillL k rows).length q) (stillL k rows).length (bellsV (stillL k rows)) ∧ Below w.heap.size w wr) (fun _ i _ => n - (intOf i).toNat)
  case atStart => exact ⟨0, _, 0, by omega, rfl, rfl, hown0, hw⟩
  case round =>
    obtain ⟨k, A, q, hk, rfl, rfl, hown, hB⟩ := hrel
    by_cases hlt : k < n
    · have hll := still_len k rows
      have Hs := Lib.hid (still_succ k rows)
      obtain ⟨L, hL⟩ : ∃ L, L = stillL k rows := ⟨_, rfl⟩
      rw [← hL] at hown Hs hll ⊢
      clear hL
      go_wp2_with fail
      refine box1 (C := fun W => Calls _ _ _ W _) ?_
      intro wc hwc k2 hBc
      have R2 := boxRule k2
      have hBc' := bw_to hB hwc
      have hcf := containsS_st v rows (fun r => !(homeB k r)) (.pointer (some ⟨wr.heap.size, 0, none⟩)) wc (Hv.out.to hBc') (fun x hx w' hw' => still1_any x n k wr.heap.size w' (Hin.out x hx) hn hlt (fun w'' hw'' => R2 w'' 0 (bw_to hw' hw'')))
      rw [any_home (n := n)] at hcf
      have Hcf := Lib.hid hcf
      clear k2 hcf
      refine Hcf.out.mono ?_; rintro e w1 ⟨rfl, hb1⟩
      have R3 := R2 w1 0 hb1
      have hB1 := bw_to hBc' hb1
      have hown1 := own_to hown (bw_to hwc hb1)
      clear R2 Hcf
      obtain ⟨b, hb⟩ : ∃ b, b = rows.all (homeB k) := ⟨_, rfl⟩
      rw [← hb] at Hs ⊢
      clear hb
      cases b
      · rw [if_neg (by decide), List.append_nil] at Hs
        go_wp2_with fail
        exact ⟨⟨k + 1, A, q, by omega, by go_num, by rw [Hs.out], by rw [Hs.out]; exact hown1, hB1⟩, by simp [intOf]; omega⟩
      · rw [if_pos rfl] at Hs
        go_wp2_with (at_builtin; go_must (refine wpList_app _ rfl _ _ _ rfl w.heap.size 3 _ 1 8 Try.underlying66 info_i64 rfl (by omega) hown1 [.int .i64 ((k : Int) + 1)] rfl rfl rfl (one_mem rfl) (by omega) (by omega) hB1.size ?_); intro v2 w3 hown3 hb3 hg3 _)
        obtain ⟨A4, q4, e4, _⟩ := sl_of_own hown3
        subst e4
        have e5 : (stillL (k + 1) rows).length = L.length + 1 := by rw [Hs.out]; simp
        rw [← bellsV_snoc, ← Hs.out, ← e5] at hown3
        exact ⟨⟨k + 1, A4, q4, by omega, by go_num, by rw [e5], hown3, hB1.trans hb3⟩, by simp [intOf]; omega⟩
    · obtain rfl : k = n := by omega
      go_wp2_with fail
      go_ret
      exact ⟨A, q, rfl, hown, hB⟩
end Go.Proofs.Ytpkpahadjdkafaa

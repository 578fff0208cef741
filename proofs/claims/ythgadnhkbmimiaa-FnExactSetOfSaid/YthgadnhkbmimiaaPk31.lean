/- Contracts: is a row among rising rows, is it among rows; the next head; the ring of a head. -/
import Derived.Test.YthgadnhkbmimiaaPk30
namespace Go.Proofs.Ythgadnhkbmimiaa
open Go Go.RowKit
set_option linter.unusedVariables false
set_option linter.unusedSimpArgs false

theorem isNaNs_any (x : ByteArray) (w : World) : Calls Try.prog 135 #[.string x] w fun e w' => e = .returned (.bool false) ∧ w = w' := by
  go_enter Try.func135, Try.ntmps135
  go_wp2_with fail
  go_ret
  exact ⟨ret_bool (by simp), rfl⟩
theorem isNaNc_any (x : ByteArray) (w : World) : Calls Try.prog 155 #[.string x] w fun e w' => e = .returned (.bool false) ∧ w = w' := by
  go_enter Try.func155, Try.ntmps155
  go_wp2_with fail
  go_ret
  exact ⟨ret_bool (by simp), rfl⟩
theorem lessStr_any (x y : ByteArray) (w : World) : Calls Try.prog 134 #[.string x, .string y] w fun e w' => e = .returned (.bool (nmLt x y)) ∧ w = w' := by
  unfold nmLt
  go_enter Try.func134, Try.ntmps134
  go_wp2_with (go_at_call 155; refine (isNaNc_any _ _).mono ?_; rintro e w' ⟨rfl, rfl⟩)
  go_ret
  exact ⟨rfl, rfl⟩
theorem bs_up {l : List ByteArray} {r : ByteArray} {h : Nat} (hs : SortedS l) (hh : h < l.length) (e : nmLt l[h] r = true) : ∀ k (hk : k < l.length), k < h + 1 → nmLt l[k] r = true := by
  intro k hk hk2
  rcases Nat.lt_or_ge k h with h3 | h3
  · cases hx : nmLt l[k] r
    · have h5 := (List.pairwise_iff_getElem.1 hs) k h hk hh h3
      rw [le_trans' hx h5] at e
      cases e
    · rfl
  · obtain rfl : k = h := by omega
    exact e
theorem bs_dn {l : List ByteArray} {r : ByteArray} {h : Nat} (hs : SortedS l) (hh : h < l.length) (e : nmLt l[h] r = false) : ∀ k (hk : k < l.length), h ≤ k → nmLt l[k] r = false := by
  intro k hk hk2
  rcases Nat.eq_or_lt_of_le hk2 with e2 | h4
  · subst e2; exact e
  · exact le_trans' e ((List.pairwise_iff_getElem.1 hs) h k hh hk h4)
set_option maxRecDepth 10000 in
set_option maxHeartbeats 2000000 in
theorem binSearch_any (V : Value) (l : List ByteArray) (r : ByteArray) (w : World) (hV : Strs w V l) (hs : SortedS l) (hl : l.length ≤ 1000000) : Calls Try.prog 99 #[V, .string r] w fun e w' => (∃ i : Nat, e = .returned (.tuple #[.int .i64 i, .bool (decide (r ∈ l))])) ∧ w = w' := by
  obtain ⟨A, c, rfl, h1, h2, hrd⟩ := hV
  unfold maxLen at h2
  have Hs := Lib.hid hs
  clear hs
  go_enter Try.func99, Try.ntmps99
  go_wp2_with fail
  go_loop [7, 8] (fun a b => ∃ i j : Nat, i ≤ j ∧ j ≤ l.length ∧ a = .int .i64 i ∧ b = .int .i64 j ∧ (∀ k (h : k < l.length), k < i → nmLt l[k] r = true) ∧ (∀ k (h : k < l.length), j ≤ k → nmLt l[k] r = false)) (fun a b => (intOf b).toNat - (intOf a).toNat)
  case atStart => exact ⟨0, l.length, by omega, by omega, rfl, rfl, fun k h hk => absurd hk (by omega), fun k h hk => absurd h (by omega)⟩
  case round =>
    obtain ⟨i, j, hij, hj, rfl, rfl, hlo, hhi⟩ := hrel
    have Hlo := Lib.hid hlo
    have Hhi := Lib.hid hhi
    clear hlo hhi
    by_cases hlt : i < j
    · obtain ⟨h, hh⟩ : ∃ h, h = (i + j) / 2 := ⟨_, rfl⟩
      have hh1 : i ≤ h := by omega
      have hh2 : h < j := by omega
      have hhl : h < l.length := by omega
      have hu1 : IntKind.u64.wrap ((i : Int) + j) = (i : Int) + j := IntWalk.u64_in _ ⟨by omega, by omega⟩
      have hu2 : ((i : Int) + j) / 2 = (h : Int) := by omega
      have hu3 : ((i : Int) + j).tdiv 2 = (h : Int) := by rw [Int.tdiv_eq_ediv_of_nonneg (by omega)]; omega
      obtain ⟨ad, rfl, hC⟩ := strs_el hrd hhl
      have hC0 := hC w (Below.refl _ _)
      have H1 : Hid (nmLt l[h] r = true → ∀ k (h' : k < l.length), k < h + 1 → nmLt l[k] r = true) := Lib.hid (fun e => bs_up Hs.out hhl e)
      have H2 : Hid (nmLt l[h] r = false → ∀ k (h' : k < l.length), h ≤ k → nmLt l[k] r = false) := Lib.hid (fun e => bs_dn Hs.out hhl e)
      obtain ⟨x, hx⟩ : ∃ x, x = l[h] := ⟨_, rfl⟩
      rw [← hx] at hC0
      have H1' : Hid (nmLt x r = true → ∀ k (h' : k < l.length), k < h + 1 → nmLt l[k] r = true) := Lib.hid (by rw [hx]; exact H1.out)
      have H2' : Hid (nmLt x r = false → ∀ k (h' : k < l.length), h ≤ k → nmLt l[k] r = false) := Lib.hid (by rw [hx]; exact H2.out)
      clear hC hx hh H1 H2
      cases hb : nmLt x r
      · have Hb := Lib.hid hb
        clear hb
        go_wp2_with (go_at_call 134; refine (lessStr_any _ _ _).mono ?_; rintro e w' ⟨rfl, rfl⟩; rw [Hb.out])
        exact ⟨⟨i, h, by omega, by omega, by go_num, by go_num, Hlo.out, H2'.out Hb.out⟩, by simp [intOf]; omega⟩
      · have Hb := Lib.hid hb
        clear hb
        go_wp2_with (go_at_call 134; refine (lessStr_any _ _ _).mono ?_; rintro e w' ⟨rfl, rfl⟩; rw [Hb.out])
        exact ⟨⟨h + 1, j, by omega, by omega, by go_num, by go_num, H1'.out Hb.out, Hhi.out⟩, by simp [intOf]; omega⟩
    · obtain rfl : i = j := by omega
      have Hm := Lib.hid (search_mem (l := l) (r := r) Hs.out hj Hlo.out Hhi.out)
      by_cases hil : i < l.length
      · obtain ⟨ad, rfl, hC⟩ := strs_el hrd hil
        have hC0 := hC w (Below.refl _ _)
        have He := Lib.hid (sl_beq l[i] r)
        obtain ⟨x, hx⟩ : ∃ x, x = l[i] := ⟨_, rfl⟩
        have Hm2 : Hid (r ∈ l ↔ x = r) := Lib.hid (Hm.out.trans ⟨fun ⟨_, e⟩ => hx.trans e, fun e => ⟨hil, hx.symm.trans e⟩⟩)
        rw [← hx] at hC0 He
        clear hC hx
        cases hb : (x.toList == r.toList)
        · have hd : decide (r ∈ l) = false := decide_eq_false (fun h => by have e := Hm2.out.1 h; rw [He.out, decide_eq_true e] at hb; cases hb)
          have Hd := Lib.hid hd
          clear hd
          go_wp2_with (go_at_call 135; refine (isNaNs_any _ _).mono ?_; rintro e w' ⟨rfl, rfl⟩)
          go_ret2
          exact ⟨⟨i, by rw [Hd.out]; rfl⟩, rfl⟩
        · have hd : decide (r ∈ l) = true := decide_eq_true (Hm2.out.2 (by rw [He.out] at hb; exact of_decide_eq_true hb))
          have Hd := Lib.hid hd
          clear hd
          go_wp2_with (go_at_call 135; refine (isNaNs_any _ _).mono ?_; rintro e w' ⟨rfl, rfl⟩)
          go_ret2
          exact ⟨⟨i, by rw [Hd.out]; rfl⟩, rfl⟩
      · have hd : decide (r ∈ l) = false := decide_eq_false (fun h => by obtain ⟨h3, _⟩ := Hm.out.1 h; exact hil h3)
        have Hd := Lib.hid hd
        clear hd
        go_wp2_with fail
        go_ret2
        exact ⟨⟨i, by rw [Hd.out]; rfl⟩, rfl⟩
theorem has_any (V : Value) (l : List ByteArray) (r : ByteArray) (w : World) (hV : Strs w V l) (hs : SortedS l) (hl : l.length ≤ 1000000) : Calls Try.prog 56 #[V, .string r] w fun e w' => e = .returned (.bool (decide (r ∈ l))) ∧ w = w' := by
  have H := Lib.hid (binSearch_any V l r w hV hs hl)
  obtain ⟨b, hb⟩ : ∃ b, b = decide (r ∈ l) := ⟨_, rfl⟩
  rw [← hb] at H ⊢
  clear hV hs hb
  go_enter Try.func56, Try.ntmps56
  go_wp2_with fail
  refine H.out.mono ?_; rintro e w' ⟨⟨i, rfl⟩, rfl⟩
  go_wp2_with fail
  go_ret
  exact ⟨rfl, rfl⟩
set_option maxHeartbeats 2000000 in
theorem l1HasS_any (V : Value) (l : List ByteArray) (r : ByteArray) (w : World) (hV : Strs w V l) : Calls Try.prog 54 #[V, .string r] w fun e w' => e = .returned (.bool (decide (r ∈ l))) ∧ w = w' := by
  obtain ⟨A, c, rfl, h1, h2, hrd⟩ := hV
  unfold maxLen at h2
  go_enter Try.func54, Try.ntmps54
  go_wp2_with fail
  go_loop [9] (fun i => ∃ k : Nat, k ≤ l.length ∧ i = .int .i64 k ∧ r ∉ l.take k) (fun i => l.length - (intOf i).toNat)
  case atStart => exact ⟨0, by omega, rfl, by simp⟩
  case round =>
    obtain ⟨k, hk, rfl, hn⟩ := hrel
    have Hn := Lib.hid hn
    clear hn
    by_cases hlt : k < l.length
    · obtain ⟨ad, rfl, hC⟩ := strs_el hrd hlt
      have hC0 := hC w (Below.refl _ _)
      have He := Lib.hid (sl_beq l[k] r)
      have Hno : Hid (l[k] ≠ r → r ∉ l.take (k + 1)) := Lib.hid (fun h hm => by
        rw [List.take_succ_eq_append_getElem hlt, List.mem_append, List.mem_singleton] at hm
        rcases hm with hm | hm
        · exact Hn.out hm
        · exact h hm.symm)
      have Hyes : Hid (l[k] = r → r ∈ l) := Lib.hid (fun h => by rw [← h]; exact List.getElem_mem hlt)
      obtain ⟨x, hx⟩ : ∃ x, x = l[k] := ⟨_, rfl⟩
      rw [← hx] at hC0 He Hno Hyes
      clear hC hx
      cases hb : (x.toList == r.toList)
      · have Hne : Hid (x ≠ r) := Lib.hid (fun e => by rw [He.out, decide_eq_true e] at hb; cases hb)
        go_wp2_with fail
        exact ⟨⟨k + 1, by omega, by go_num, Hno.out Hne.out⟩, by simp [intOf]; omega⟩
      · have Hd := Lib.hid (decide_eq_true (Hyes.out (by rw [He.out] at hb; exact of_decide_eq_true hb)))
        go_wp2_with fail
        go_ret
        exact ⟨ret_bool Hd.out.symm, rfl⟩
    · have Hd := Lib.hid (decide_eq_false (fun h : r ∈ l => Hn.out (by rw [List.take_of_length_le (by omega)]; exact h)))
      go_wp2_with fail
      go_ret
      exact ⟨ret_bool Hd.out.symm, rfl⟩
end Go.Proofs.Ythgadnhkbmimiaa

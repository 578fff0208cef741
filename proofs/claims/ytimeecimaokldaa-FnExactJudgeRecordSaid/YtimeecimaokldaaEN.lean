/- Contract: the times missed, the reference's. -/
import Derived.Test.YtimeecimaokldaaEM
namespace Go.Proofs.Ytimeecimaokldaa
open Go Go.RowKit
set_option linter.unusedVariables false
set_option linter.unusedSimpArgs false

theorem miss_take {l : List Int} {k : Nat} (h : k < l.length) : missN (l.take (k + 1)) = missN (l.take k) + (if l[k] < 0 then 1 else 0) := by
  unfold missN
  rw [List.take_succ_eq_append_getElem h, List.filter_append, List.length_append]
  by_cases e : l[k] < 0 <;> simp [e]
theorem miss_len (l : List Int) : missN l ≤ l.length := List.length_filter_le _ _
theorem l1All_any (v : Value) (l : List Int) (a b : Int) (w : World) (hv : Ints w v l) (hall : ∀ x ∈ l, a ≤ x ∧ x ≤ b) : Calls Try.prog 41 #[v, .int .i64 a, .int .i64 b] w fun e w' => e = .returned (.bool true) ∧ Below w.heap.size w w' := by
  obtain ⟨A, c, rfl, h1, h2, hr⟩ := hv
  unfold maxLen at h2
  have HR := Lib.hid hr
  have Hall := Lib.hid hall
  have Hin := Lib.hid (fun x W => l1In_any x a b W)
  clear hr hall
  go_enter Try.func41, Try.ntmps41
  go_wp2_with fail
  go_loopw [11] (fun i wr => ∃ k : Nat, k ≤ l.length ∧ i = .int .i64 k ∧ Below w.heap.size w wr) (fun i _ => l.length - (intOf i).toNat)
  case atStart => exact ⟨0, by omega, rfl, Below.refl _ _⟩
  case round =>
    obtain ⟨k, hk, rfl, hB⟩ := hrel
    by_cases hlt : k < l.length
    · obtain ⟨ad, rfl, hC⟩ := ints_el HR.out hlt
      have q := hC wr hB
      have Hi := Lib.hid (Hin.out l[k] wr)
      rw [decide_eq_true (Hall.out _ (List.getElem_mem hlt))] at Hi
      obtain ⟨x, hx⟩ : ∃ x, x = l[k] := ⟨_, rfl⟩
      rw [← hx] at q Hi
      clear hC hx
      go_wp2_with (go_at_call 27; refine Hi.out.mono ?_; rintro e w3 ⟨rfl, rfl⟩)
      exact ⟨⟨k + 1, by omega, by go_num, hB⟩, by simp [intOf]; omega⟩
    · obtain rfl : k = l.length := by omega
      go_wp2_with fail
      go_ret
      exact ⟨rfl, hB⟩
theorem l22Of_any (v : Value) (l : List Int) (P k : Int) (w : World) (hv : Ints w v l) (hl : l.length ≤ 60) (hall : ∀ x ∈ l, -1 ≤ x ∧ x ≤ k) : Calls Try.prog 31 #[.agg #[v, .int .i64 P], .int .i64 k] w fun e w' => e = .returned (.bool true) ∧ Below w.heap.size w w' := by
  have Ha := Lib.hid (fun W (hW : Below w.heap.size w W) => l1All_any v l (-1) k W (hv.to hW) hall)
  obtain ⟨A, c, rfl, h1, h2, hr⟩ := hv
  unfold maxLen at h2
  clear hr hall
  go_enter Try.func31, Try.ntmps31
  go_upto_region 1 with fail
  refine box1 (C := fun W => Code.wp _ _ _ _ W) ?_
  intro wb hw k1 hB0
  have R1 := boxRule k1
  have c0 := R1 wb 0 hB0
  have c1 := R1 wb 1 hB0
  clear k1 R1
  have hle : ((l.length : Int) ≤ 60) := by omega
  go_wp2_with (go_at_call 41; refine (Ha.out _ hw).mono ?_; rintro e w3 ⟨rfl, hb3⟩)
  go_ret
  exact ⟨rfl, bw_to hw hb3⟩
set_option maxHeartbeats 1000000 in
theorem MissedIn_any (v : Value) (l : List Int) (P : Int) (w : World) (hv : Ints w v l) (hl : l.length ≤ 60) (hall : ∀ x ∈ l, -1 ≤ x ∧ x ≤ 60) : Calls Try.prog 18 #[.agg #[v, .int .i64 P]] w fun e w' => (∃ A c, e = .returned (.tuple #[.slice A (missN l) c, .bool true])) ∧ Below w.heap.size w w' := by
  have Ho := Lib.hid (fun W (hW : Below w.heap.size w W) => l22Of_any v l P 60 W (hv.to hW) hl hall)
  have Hall := Lib.hid hall
  obtain ⟨A, c, rfl, h1, h2, hr⟩ := hv
  unfold maxLen at h2
  have HR := Lib.hid hr
  clear hr hall
  go_enter Try.func18, Try.ntmps18
  go_wp2_with fail
  refine box1 (C := fun W => Calls _ _ _ W _) ?_
  intro wb hw k1 hB0
  have R1 := boxRule k1
  clear k1
  refine (Ho.out _ hw).mono ?_; rintro e w1 ⟨rfl, hb1⟩
  have c0 := R1 w1 0 hb1
  have c1 := R1 w1 1 hb1
  have hb11 := bw_to hw hb1
  clear R1
  go_wp2_with fail
  go_loopw [4, 13] (fun s i wr => ∃ (k : Nat) (A : Option Addr) (c : Nat) (ys : List Value), k ≤ l.length ∧ i = .int .i64 k ∧ s = .slice A (missN (l.take k)) c ∧ Hid (wr.ownsRow w1.heap.size 3 1 (.slice A (missN (l.take k)) c) (missN (l.take k)) ys) ∧ Below w1.heap.size w1 wr) (fun _ i _ => l.length - (intOf i).toNat)
  case atStart => exact ⟨0, none, 0, [], by omega, rfl, rfl, Lib.hid ⟨rfl, .inl ⟨rfl, rfl⟩⟩, Below.refl _ _⟩
  case round =>
    obtain ⟨k, A1, cc, ys, hk, rfl, rfl, HO, hB⟩ := hrel
    by_cases hlt : k < l.length
    · obtain ⟨ad, rfl, hC⟩ := ints_el HR.out hlt
      have q := hC wr (bw_to hb11 hB)
      have Ht := Lib.hid (miss_take hlt)
      have hz := miss_len (l.take k)
      rw [List.length_take] at hz
      have hx0 := (Hall.out _ (List.getElem_mem hlt)).1
      obtain ⟨n, hn⟩ : ∃ n, n = missN (l.take k) := ⟨_, rfl⟩
      obtain ⟨x, hx⟩ : ∃ x, x = l[k] := ⟨_, rfl⟩
      rw [← hx] at q Ht hx0
      rw [← hn] at Ht hz HO ⊢
      have hn60 : n ≤ 60 := by omega
      have hzr := hB.size
      clear hC hx hn hz
      by_cases he : x = -1
      · have hbq : ((x : Int) == -1) = true := by simp [he]
        rw [if_pos (by omega)] at Ht
        have HB := Lib.hid hB
        clear he hx0 hB
        go_wp2_with (at_builtin; go_must (refine wpList_app _ rfl _ _ _ rfl w1.heap.size 3 _ 1 8 Try.underlying44 info_intE rfl (by omega) HO.out [.int .i64 k] rfl rfl rfl (one_mem rfl) (by omega) (by omega) hzr ?_); intro v3 w3 hown3 hb3 hg3 _; (obtain ⟨A3, q3, rfl⟩ := nb_sliceE hown3); (have Hown3 := Lib.hid hown3); (have Hb3 := Lib.hid hb3); clear hown3 hb3 hg3)
        refine ⟨⟨k + 1, A3, q3, ys ++ [.int .i64 k], by omega, by go_num, by rw [Ht.out], Lib.hid (by rw [Ht.out]; exact Hown3.out), HB.out.trans Hb3.out⟩, by simp [intOf]; omega⟩
      · have hbq : ((x : Int) == -1) = false := by simp [he]
        rw [if_neg (by omega), Nat.add_zero] at Ht
        have HB := Lib.hid hB
        clear he hx0 hB
        go_wp2_with fail
        exact ⟨⟨k + 1, A1, cc, ys, by omega, by go_num, by rw [Ht.out]; rfl, Lib.hid (by rw [Ht.out]; exact HO.out), HB.out⟩, by simp [intOf]; omega⟩
    · obtain rfl : k = l.length := by omega
      rw [List.take_length]
      go_wp2_with fail
      go_ret2
      exact ⟨⟨A1, cc, rfl⟩, bw_to hb11 hB⟩
end Go.Proofs.Ytimeecimaokldaa

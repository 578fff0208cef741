/- Contracts: records marked and held. -/
import Derived.Test.YtpkpahadjdkafaaDoorV1
import Derived.Test.YtpkpahadjdkafaaDoorH1
namespace Go.Proofs.YtpkpahadjdkafaaDoor
open Go Go.RowKit
set_option linter.unusedVariables false
set_option linter.unusedSimpArgs false

def mkRc (q : Nat) : Rc := ⟨(q : Int), mText (q + 1), mText (q + 2), ((q + 3 : Nat) : Int), mText (q + 4)⟩
def marksR (k n : Nat) : List Rc := (List.range n).map fun i => mkRc (k + 5 * i)
theorem marksR_length (k n : Nat) : (marksR k n).length = n := by simp [marksR]
theorem marksR_get {k n i : Nat} (h : i < (marksR k n).length) : (marksR k n)[i] = mkRc (k + 5 * i) := by simp [marksR]
theorem marksR_succ (k n : Nat) : marksR k (n + 1) = marksR k n ++ [mkRc (k + 5 * n)] := by simp [marksR, List.range_succ]
set_option maxRecDepth 10000 in
set_option maxHeartbeats 2000000 in
theorem markRecordS_any (v : Value) (n k0 : Nat) (cs : List Value) (base : Nat) (w : World) (h : w.ownsRow base 23 5 v n cs) (hn : n ≤ 1048576) (hk0 : k0 ≤ 100000000000000) : Calls Tryd.prog 18 #[v, .int .i64 k0] w fun e w' =>
    e = .returned (.int .i64 ((k0 + 5 * n : Nat) : Int)) ∧ w'.ownsRow base 23 5 v n ((marksR k0 n).flatMap Rc.cells) ∧ w.grownBy w' v.ownBlock := by
  rcases h.2 with ⟨rfl, rfl⟩ | ⟨g, cap, cur, rfl, hbg, hh, hnc, hcm, _⟩
  · go_enter Tryd.func18, Tryd.ntmps18
    go_wp2_with fail
    go_loopw [1, 5] (fun q i wr => q = .int .i64 k0 ∧ i = .int .i64 0 ∧ wr = w) (fun _ _ _ => 0)
    case atStart => exact ⟨rfl, rfl, rfl⟩
    case round =>
      obtain ⟨rfl, rfl, rfl⟩ := hrel
      go_wp2_with fail
      go_ret
      exact ⟨rfl, World.ownsRow_nil _ _ _ _, gr_refl _ _⟩
  · unfold maxLen at hcm
    go_enter Tryd.func18, Tryd.ntmps18
    go_wp2_with fail
    go_loopw [1, 5] (fun q i wr => ∃ k : Nat, k ≤ n ∧ i = .int .i64 k ∧ q = .int .i64 ((k0 + 5 * k : Nat) : Int) ∧ (∃ ds, wr.ownsRow base 23 5 (.slice (some ⟨g, 0, none⟩) n cap) n ds ∧ ds.take (k * 5) = (marksR k0 k).flatMap Rc.cells) ∧ w.grownBy wr (some g)) (fun _ i _ => n - (intOf i).toNat)
    case atStart => exact ⟨0, by omega, rfl, rfl, ⟨_, h, by simp [marksR]⟩, gr_refl _ _⟩
    case round =>
      obtain ⟨k, hk, rfl, rfl, ⟨ds, hown, hds⟩, hgr⟩ := hrel
      have Hds := Lib.hid hds
      clear hds
      by_cases hlt : k < n
      · obtain ⟨⟨y0, y1, y2, y3, y4, hy⟩, hf⟩ := own5 hown hlt
        obtain ⟨q, hq⟩ : ∃ q, q = k0 + 5 * k := ⟨_, rfl⟩
        have hq2 : q ≤ 200000000000000 := by omega
        have Hq := Lib.hid hq
        rw [← hq]
        clear hq
        go_wp2_with fail
        refine (markText_any (q + 1) _ (by omega)).mono ?_; rintro e w2 ⟨rfl, hb2⟩
        have hown2 := own_to (own_set hown (k * 5) (.int .i64 q)) hb2
        have hgr2 := gr_below (gr_set (j := k * 5) hgr (.int .i64 q)) hb2
        obtain ⟨⟨a0, a1, a2, a3, a4, ha⟩, hfa⟩ := own5 hown2 hlt
        clear hy hf
        go_wp2_with fail
        refine (markText_any (q + 2) _ (by omega)).mono ?_; rintro e w3 ⟨rfl, hb3⟩
        have hown3 := own_to (own_set hown2 (k * 5 + 1) (.string (mText (q + 1)))) hb3
        have hgr3 := gr_below (gr_set (j := k * 5 + 1) hgr2 (.string (mText (q + 1)))) hb3
        obtain ⟨⟨b0, b1, b2, b3, b4, hb⟩, hfb⟩ := own5 hown3 hlt
        clear ha hfa
        go_wp2_with fail
        refine (markText_any (q + 4) _ (by omega)).mono ?_; rintro e w4 ⟨rfl, hb4⟩
        have hown4 := own_to (own_set (own_set hown3 (k * 5 + 2) (.string (mText (q + 2)))) (k * 5 + 3) (.int .i64 ((q + 3 : Nat) : Int))) hb4
        have hgr4 := gr_below (gr_set (j := k * 5 + 3) (gr_set (j := k * 5 + 2) hgr3 (.string (mText (q + 2)))) (.int .i64 ((q + 3 : Nat) : Int))) hb4
        obtain ⟨⟨c0, c1, c2, c3, c4, hc⟩, hfc⟩ := own5 hown4 hlt
        clear hb hfb
        go_wp2_with fail
        refine ⟨⟨k + 1, by omega, by go_num, congrArg (Value.int .i64) (by have := Hq.out; omega), ⟨_, own_set hown4 (k * 5 + 4) (.string (mText (q + 4))), ?_⟩, gr_set hgr4 _⟩, by simp [intOf]; omega⟩
        rw [take_set5 hown.1 hlt Hds.out, marksR_succ, List.flatMap_append, ← Hq.out]
        simp [Rc.cells, mkRc]
      · obtain rfl : k = n := by omega
        go_wp2_with fail
        go_ret
        refine ⟨rfl, ?_, hgr⟩
        have := Hds.out
        rw [List.take_of_length_le (by rw [hown.1]; omega)] at this
        rw [← this]
        exact hown
set_option maxRecDepth 10000 in
set_option maxHeartbeats 4000000 in
theorem heldRecordS_any (v : Value) (n k0 : Nat) (w : World) (h : Recs w v (marksR k0 n)) (hn : n ≤ 1048576) (hk0 : k0 ≤ 100000000000000) : Calls Tryd.prog 19 #[v, .int .i64 k0] w fun e w' =>
    e = .returned (.int .i64 ((k0 + 5 * n : Nat) : Int)) ∧ Below w.heap.size w w' := by
  unfold Recs at h
  rw [marksR_length] at h
  obtain ⟨A, c, rfl, h1, h2, hr⟩ := h
  unfold maxLen at h2
  go_enter Tryd.func19, Tryd.ntmps19
  go_wp2_with fail
  go_loopw [1, 5] (fun q i wr => ∃ k : Nat, k ≤ n ∧ i = .int .i64 k ∧ q = .int .i64 ((k0 + 5 * k : Nat) : Int) ∧ Below w.heap.size w wr) (fun _ i _ => n - (intOf i).toNat)
  case atStart => exact ⟨0, by omega, rfl, rfl, Below.refl _ _⟩
  case round =>
    obtain ⟨k, hk, rfl, rfl, hB⟩ := hrel
    by_cases hlt : k < n
    · obtain ⟨ad, rfl, hC⟩ := recs_el hr (marksR_length k0 n).symm (k := k) (by rw [marksR_length]; omega)
      simp only [marksR_get] at hC
      obtain ⟨q, hq⟩ : ∃ q, q = k0 + 5 * k := ⟨_, rfl⟩
      have hq2 : q ≤ 200000000000000 := by omega
      have Hq := Lib.hid hq
      rw [← hq] at hC
      rw [← hq]
      unfold mkRc at hC
      simp only at hC
      clear hq
      go_wp2_with fail
      go_region_held3 (fun w' => Below w.heap.size w w') (first | exact Below.drew (by assumption) | exact bw_to (by assumption) hb') (first | (go_at_call 39; refine (markText_any (q + 1) _ (by omega)).mono ?_; rintro e w' ⟨rfl, hb'⟩))
      go_wp2_with fail
      go_region_held3 (fun w' => Below w.heap.size w w') (first | exact Below.drew (by assumption) | exact bw_to (by assumption) hb') (first | (go_at_call 39; refine (markText_any (q + 2) _ (by omega)).mono ?_; rintro e w' ⟨rfl, hb'⟩))
      go_wp2_with fail
      go_region_held3 (fun w' => Below w.heap.size w w') (first | exact Below.drew (by assumption) | exact bw_to (by assumption) hb') (first | (go_at_call 39; refine (markText_any (q + 4) _ (by omega)).mono ?_; rintro e w' ⟨rfl, hb'⟩))
      go_wp2_with fail
      exact ⟨⟨k + 1, by omega, by go_num, congrArg (Value.int .i64) (by have := Hq.out; omega), by assumption⟩, by simp [intOf]; omega⟩
    · obtain rfl : k = n := by omega
      go_wp2_with fail
      go_ret
      exact ⟨rfl, hB⟩
end Go.Proofs.YtpkpahadjdkafaaDoor

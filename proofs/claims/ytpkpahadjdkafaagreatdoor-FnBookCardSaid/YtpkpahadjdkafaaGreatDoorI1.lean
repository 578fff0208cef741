/- Contracts: slices of records copied; one record put into a row (slices.Insert). -/
import Derived.Test.YtpkpahadjdkafaaGreatDoorV1
import Derived.Test.YtpkpahadjdkafaaGreatDoorM3
namespace Go.Proofs.YtpkpahadjdkafaaGreatDoor
open Go Go.RowKit
set_option linter.unusedVariables false
set_option linter.unusedSimpArgs false

theorem rc_one (xs : List Rc) : ∀ u ∈ xs.flatMap Rc.cells, u.oneCell' = true := by
  intro u hu
  obtain ⟨x, _, hx⟩ := List.mem_flatMap.1 hu
  simp [Rc.cells] at hx
  rcases hx with rfl | rfl | rfl | rfl | rfl <;> rfl
theorem info_Rc : (Tryz.prog.info? 39).map (fun i => (i.zero, i.size, i.bytes)) = some (some (.agg #[.int .i64 0, .string ⟨#[]⟩, .string ⟨#[]⟩, .int .i64 0, .string ⟨#[]⟩]), 5, 64) := by kernel_rfl
set_option maxHeartbeats 1000000 in
set_option maxRecDepth 100000 in
theorem cloneRc_any (v : Value) (xs : List Rc) (w : World) (h : Recs w v xs) (hn : NilOk v) (hlen : xs.length ≤ 10000000) : Calls Tryz.prog 28 #[v] w fun e w' =>
    ∃ r : Value, e = .returned r ∧ w'.ownsRow w.heap.size 39 5 r xs.length (xs.flatMap Rc.cells) ∧ Below w.heap.size w w' := by
  have h0 := h
  obtain ⟨A, c, rfl, h1, h2, hr⟩ := h
  unfold maxLen at h2
  cases A with
  | none =>
    obtain ⟨hl, rfl⟩ := hn _ _ rfl
    obtain rfl := List.eq_nil_of_length_eq_zero hl
    have hrun := fun W : World => Lib.run_eql_slice_nil (P := Tryz.prog) W 23 39 none 0 0 0 0 Tryz.underlying23
    simp only [Option.isNone_none] at hrun
    go_enter Tryz.func28, Tryz.ntmps28
    go_wp2_with fail
    go_ret
    exact ⟨_, rfl, World.ownsRow_nil _ _ _ _, Below.refl _ _⟩
  | some ad =>
    have hrun := fun W : World => Lib.run_eql_slice_nil (P := Tryz.prog) W 23 39 (some ad) xs.length c 0 0 Tryz.underlying23
    simp only [Option.isNone_some] at hrun
    go_enter Tryz.func28, Tryz.ntmps28
    go_wp2_with (at_builtin; go_must (refine wpList_app_sl (w.alloc (.cells #[] 39)) rfl _ _ _ rfl w.heap.size 39 _ 5 64 Tryz.underlying23 info_Rc rfl (by omega) (own_of_heap (cs := #[]) (n := 0) (heap_new w _) (Nat.le_refl _) (by unfold maxLen; omega) rfl) rfl (h0.to (bw_al (Below.refl _ _) _)) hn rfl (rc_one xs) (by omega) (by omega) (by simp) ?_); intro v2 w2 hown2 hb2 _ _)
    go_ret
    exact ⟨_, rfl, by simpa using hown2, bw_tr (bw_al (Below.refl _ _) _) hb2 (Nat.le_refl _)⟩
set_option maxRecDepth 100000 in
theorem l28Own_any (v : Value) (xs : List Rc) (w : World) (h : Recs w v xs) (hn : NilOk v) (hlen : xs.length ≤ 10000000) : Calls Tryz.prog 31 #[v] w fun e w' =>
    ∃ r : Value, e = .returned r ∧ w'.ownsRow w.heap.size 39 5 r xs.length (xs.flatMap Rc.cells) ∧ Below w.heap.size w w' := by
  have h0 := h
  obtain ⟨A, c, rfl, h1, h2, hr⟩ := h
  unfold maxLen at h2
  go_enter Tryz.func31, Tryz.ntmps31
  go_wp2_with (at_builtin; go_must (refine wpList_app_sl (w.alloc (.cells #[] 39)) rfl _ _ _ rfl w.heap.size 39 _ 5 64 Tryz.underlying23 info_Rc rfl (by omega) (own_of_heap (cs := #[]) (n := 0) (heap_new w _) (Nat.le_refl _) (by unfold maxLen; omega) rfl) rfl (h0.to (bw_al (Below.refl _ _) _)) hn rfl (rc_one xs) (by omega) (by omega) (by simp) ?_); intro v2 w2 hown2 hb2 _ _)
  go_ret
  exact ⟨_, rfl, by simpa using hown2, bw_tr (bw_al (Below.refl _ _) _) hb2 (Nat.le_refl _)⟩
end Go.Proofs.YtpkpahadjdkafaaGreatDoor

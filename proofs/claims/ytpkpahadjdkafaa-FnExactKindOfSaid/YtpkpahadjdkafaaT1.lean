/- Contracts: slices of strings copied, cut, joined, reversed. -/
import Derived.Test.YtpkpahadjdkafaaS4
import Derived.Test.YtpkpahadjdkafaaM3
import Derived.Maps.AppendAt
import Derived.WalkSpells
namespace Go.Proofs.Ytpkpahadjdkafaa
open Go Go.RowKit
set_option linter.unusedVariables false
set_option linter.unusedSimpArgs false

set_option maxHeartbeats 1000000 in
set_option maxRecDepth 100000 in
theorem cloneStr_any (v : Value) (ss : List ByteArray) (w : World) (h : Strs w v ss) (hn : NilOk v) (hlen : ss.length ≤ 10000000) : Calls Try.prog 100 #[v] w fun e w' =>
    ∃ r : Value, e = .returned r ∧ w'.ownsRow w.heap.size 9 1 r ss.length (ss.map Value.string) ∧ Below w.heap.size w w' := by
  have h0 := h
  obtain ⟨A, c, rfl, h1, h2, hr⟩ := h
  unfold maxLen at h2
  cases A with
  | none =>
    obtain ⟨hl, rfl⟩ := hn _ _ rfl
    obtain rfl := List.eq_nil_of_length_eq_zero hl
    have hrun := fun W : World => Lib.run_eql_slice_nil (P := Try.prog) W 22 9 none 0 0 0 0 Try.underlying22
    simp only [Option.isNone_none] at hrun
    go_enter Try.func100, Try.ntmps100
    go_wp2_with fail
    go_ret
    exact ⟨_, rfl, World.ownsRow_nil _ _ _ _, Below.refl _ _⟩
  | some ad =>
    have hrun := fun W : World => Lib.run_eql_slice_nil (P := Try.prog) W 22 9 (some ad) ss.length c 0 0 Try.underlying22
    simp only [Option.isNone_some] at hrun
    go_enter Try.func100, Try.ntmps100
    go_wp2_with (at_builtin; go_must (refine wpList_app_sl (w.alloc (.cells #[] 9)) rfl _ _ _ rfl w.heap.size 9 _ 1 16 Try.underlying22 info_str rfl (by omega) (own_of_heap (cs := #[]) (n := 0) (heap_new w _) (Nat.le_refl _) (by unfold maxLen; omega) rfl) rfl (h0.to (bw_al (Below.refl _ _) _)) hn rfl (strs_one ss) (by omega) (by omega) (by simp) ?_); intro v2 w2 hown2 hb2 _ _)
    go_ret
    exact ⟨_, rfl, by simpa using hown2, bw_tr (bw_al (Below.refl _ _) _) hb2 (Nat.le_refl _)⟩
set_option maxRecDepth 100000 in
theorem l1OwnS_any (v : Value) (ss : List ByteArray) (w : World) (h : Strs w v ss) (hn : NilOk v) (hlen : ss.length ≤ 10000000) : Calls Try.prog 122 #[v] w fun e w' =>
    ∃ r : Value, e = .returned r ∧ w'.ownsRow w.heap.size 9 1 r ss.length (ss.map Value.string) ∧ Below w.heap.size w w' := by
  have h0 := h
  obtain ⟨A, c, rfl, h1, h2, hr⟩ := h
  unfold maxLen at h2
  go_enter Try.func122, Try.ntmps122
  go_wp2_with (at_builtin; go_must (refine wpList_app_sl (w.alloc (.cells #[] 9)) rfl _ _ _ rfl w.heap.size 9 _ 1 16 Try.underlying22 info_str rfl (by omega) (own_of_heap (cs := #[]) (n := 0) (heap_new w _) (Nat.le_refl _) (by unfold maxLen; omega) rfl) rfl (h0.to (bw_al (Below.refl _ _) _)) hn rfl (strs_one ss) (by omega) (by omega) (by simp) ?_); intro v2 w2 hown2 hb2 _ _)
  go_ret
  exact ⟨_, rfl, by simpa using hown2, bw_tr (bw_al (Below.refl _ _) _) hb2 (Nat.le_refl _)⟩
end Go.Proofs.Ytpkpahadjdkafaa

/- Contracts: a list that begins with its element k. -/
import Derived.Test.YtnbehldacehiiaaT4
namespace Go.Proofs.Ytnbehldacehiiaa
open Go Go.RowKit
set_option linter.unusedVariables false
set_option linter.unusedSimpArgs false

theorem strs_from {w : World} {ad : Addr} {c k : Nat} {ss : List ByteArray} (h : Strs w (.slice (some ad) ss.length c) ss) (hk : k < ss.length) : Strs w (.slice (some (ad.add k)) (ss.length - k) (c - k)) (ss.drop k) := by
  obtain ⟨A', c', hA, h1, h2, hr⟩ := h
  cases hA
  have hc := hr.cut (k := k) (cap := c) (by omega) h1
  rw [if_neg (by omega)] at hc
  simp only [Option.map_some, Nat.mul_one] at hc
  refine ⟨some (ad.add k), c - k, by rw [List.length_drop], by rw [List.length_drop]; omega, by omega, ?_⟩
  rw [List.length_drop, List.map_drop]
  exact hc
theorem strs_upto {w : World} {ad : Addr} {c k : Nat} {ss : List ByteArray} (h : Strs w (.slice (some ad) ss.length c) ss) (hk : k < ss.length) : Strs w (.slice (some ad) k c) (ss.take k) := by
  obtain ⟨A', c', hA, h1, h2, hr⟩ := h
  cases hA
  have hl : (ss.take k).length = k := by rw [List.length_take]; omega
  refine ⟨some ad, c, by rw [hl], by rw [hl]; omega, h2, ?_⟩
  rw [hl]
  refine ⟨by simp; omega, fun h0 => ?_⟩
  obtain ⟨ad', e, hb, hc⟩ := hr.2 (by omega)
  refine ⟨ad', e, hb, fun j u hu => hc j u ?_⟩
  rw [List.map_take] at hu
  have hj : j < k := by have := (List.getElem?_eq_some_iff.1 hu).1; simp at this; omega
  rwa [List.getElem?_take_of_lt hj] at hu
theorem nilok_some (a : Addr) (n c : Nat) : NilOk (.slice (some a) n c) := by intro n' c' h; cases h
set_option maxRecDepth 100000 in
set_option maxHeartbeats 2000000 in
theorem rotated_any (ad : Addr) (c k : Nat) (ss : List ByteArray) (w : World) (h : Strs w (.slice (some ad) ss.length c) ss) (hk : k < ss.length) (hmax : ss.length ≤ 1000000) : Calls Try.prog 73 #[.slice (some ad) ss.length c, .int .i64 k] w fun e w' =>
    ∃ r : Value, e = .returned r ∧ w'.ownsRow w.heap.size 9 1 r ss.length ((ss.drop k ++ ss.take k).map Value.string) ∧ Below w.heap.size w w' := by
  have hfrom := strs_from h hk
  have hupto := strs_upto h hk
  have hc1 : ss.length ≤ c := let ⟨_, _, e, h1, _⟩ := h; by cases e; exact h1
  have hc2 : c ≤ maxLen := let ⟨_, _, e, _, h2, _⟩ := h; by cases e; exact h2
  unfold maxLen at hc2
  have hB0 : Below w.heap.size w (w.alloc (.cells #[.slice (some (ad.add k)) (ss.length - k) (c - k), .slice (some ad) k c] 32)).drew := Below.drew (bw_al (Below.refl _ _) _)
  have hgg := fun (i : Nat) (w' : World) (hb : Below (w.alloc (.cells #[.slice (some (ad.add k)) (ss.length - k) (c - k), .slice (some ad) k c] 32)).drew.heap.size (w.alloc (.cells #[.slice (some (ad.add k)) (ss.length - k) (c - k), .slice (some ad) k c] 32)).drew w') =>
    boxRule (heap_new w (.cells #[.slice (some (ad.add k)) (ss.length - k) (c - k), .slice (some ad) k c] 32)) w' i (bw_to (Below.drew (Below.refl _ _)) hb)
  have hcat := concatStr2_any w.heap.size _ _ _ _ _ (hgg 0) (hgg 1) (hfrom.to hB0) (hupto.to hB0) (nilok_some _ _ _) (nilok_some _ _ _) (by simp; omega) (by simp; omega)
  have hl : (ss.drop k).length + (ss.take k).length = ss.length := by simp; omega
  rw [hl] at hcat
  have Hcat := Lib.hid hcat
  have HB0 := Lib.hid hB0
  clear hcat hgg hB0 hfrom hupto h
  have hkc : ¬ c = k := by omega
  go_enter Try.func73, Try.ntmps73
  go_wp2_with fail
  go_region_with (go_at_call 100; refine Hcat.out.mono ?_; rintro e w1 ⟨r, rfl, hown, hb1⟩)
  all_goals
    go_wp2_with fail
    go_ret
    exact ⟨_, rfl, own_base hown HB0.out.size, bw_to HB0.out hb1⟩
end Go.Proofs.Ytnbehldacehiiaa

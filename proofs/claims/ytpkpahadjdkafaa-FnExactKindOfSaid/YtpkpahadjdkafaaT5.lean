/- Contracts: a list that begins with its element k. -/
import Derived.Test.YtpkpahadjdkafaaT4
namespace Go.Proofs.Ytpkpahadjdkafaa
open Go Go.RowKit
set_option linter.unusedVariables false
set_option linter.unusedSimpArgs false

theorem strs_from {w : World} {ad : Addr} {c k : Nat} {ss : List ByteArray} (h : Strs w (.slice (some ad) ss.length c) ss) (hk : k < ss.length) : Strs w (.slice (some (ad.add k)) (ss.length - k) (c - k)) (ss.drop k) := by
  obtain ⟨A', c', hA, h1, h2, hr⟩ := h
  cases hA
  have hc := hr.cut (k := k) (cap := c) (by omega) h1
  rw [if_neg (by omega)] at hc
  simp only [Option.map_some, Nat.mul_one] at hc
  refine ⟨some (ad.add k), c - k, by rw [List.length_drop], by rw [List.length_drop]; omega, by omega, ?_⟩
  rw [List.length_drop, List.map_drop]
  exact hc
theorem strs_upto {w : World} {ad : Addr} {c k : Nat} {ss : List ByteArray} (h : Strs w (.slice (some ad) ss.length c) ss) (hk : k < ss.length) : Strs w (.slice (some ad) k c) (ss.take k) := by
  obtain ⟨A', c', hA, h1, h2, hr⟩ := h
  cases hA
  have hl : (ss.take k).length = k := by rw [List.length_take]; omega
  refine ⟨some ad, c, by rw [hl], by rw [hl]; omega, h2, ?_⟩
  rw [hl]
  refine ⟨by simp; omega, fun h0 => ?_⟩
  obtain ⟨ad', e, hb, hc⟩ := hr.2 (by omega)
  refine ⟨ad', e, hb, fun j u hu => hc j u ?_⟩
  rw [List.map_take] at hu
  have hj : j < k := by have := (List.getElem?_eq_some_iff.1 hu).1; simp at this; omega
  rwa [List.getElem?_take_of_lt hj] at hu
theorem nilok_some (a : Addr) (n c : Nat) : NilOk (.slice (some a) n c) := by intro n' c' h; cases h
end Go.Proofs.Ytpkpahadjdkafaa

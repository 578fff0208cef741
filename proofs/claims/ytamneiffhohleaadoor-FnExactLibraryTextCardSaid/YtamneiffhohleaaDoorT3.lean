/- Contracts: slices of strings: less, reversed. -/
import Derived.Test.YtamneiffhohleaaDoorT2
namespace Go.Proofs.YtamneiffhohleaaDoor
open Go Go.RowKit
set_option linter.unusedVariables false
set_option linter.unusedSimpArgs false

theorem lessS_step {xs ys : List ByteArray} {k : Nat} {r : Bool} (hx : k < xs.length) (hy : k < ys.length) (h : lessS (xs.drop k) (ys.drop k) = r) (hz : (xs[k].toList == ys[k].toList) = true) : lessS (xs.drop (k + 1)) (ys.drop (k + 1)) = r := by
  rw [List.drop_eq_getElem_cons hx, List.drop_eq_getElem_cons hy, lessS, if_pos hz] at h; exact h
theorem lessS_at {xs ys : List ByteArray} {k : Nat} {r : Bool} (hx : k < xs.length) (hy : k < ys.length) (h : lessS (xs.drop k) (ys.drop k) = r) (hz : (xs[k].toList == ys[k].toList) = false) : r = Op.bytesLess xs[k].toList ys[k].toList := by
  rw [List.drop_eq_getElem_cons hx, List.drop_eq_getElem_cons hy, lessS, if_neg (by rw [hz]; decide)] at h; exact h.symm
theorem lessS_end {xs ys : List ByteArray} {k : Nat} {r : Bool} (hx : xs.length ≤ k) (h : lessS (xs.drop k) (ys.drop k) = r) : r = false := by
  rw [List.drop_of_length_le hx] at h
  rw [← h]; rfl
/-- The list xs, its first k and its last k elements changed about. -/
def Turned {α : Type} (xs cs : List α) (k : Nat) : Prop := cs.length = xs.length ∧ ∀ t, t < xs.length → cs[t]? = if t < k ∨ xs.length - k ≤ t then xs[xs.length - 1 - t]? else xs[t]?
theorem turned_zero {α : Type} (xs : List α) : Turned xs xs 0 := ⟨rfl, fun t ht => by rw [if_neg (by omega)]⟩
theorem turned_end {α : Type} {xs cs : List α} {k : Nat} (h : Turned xs cs k) (hk : xs.length ≤ 2 * k + 1) : cs = xs.reverse := by
  apply List.ext_getElem?
  intro t
  by_cases ht : t < xs.length
  · rw [h.2 t ht, List.getElem?_reverse ht]
    split
    · rfl
    · rw [show xs.length - 1 - t = t from by omega]
  · rw [List.getElem?_eq_none (by have := h.1; omega), List.getElem?_eq_none (by simp; omega)]
theorem turned_step {α : Type} {xs cs : List α} {k j : Nat} (h : Turned xs cs k) (hk : 2 * k + 1 < xs.length) (hj : j = xs.length - 1 - k) {a b : α} (ha : cs[k]? = some a) (hb : cs[j]? = some b) : Turned xs ((cs.set k b).set j a) (k + 1) := by
  have hka := h.2 k (by omega)
  have hjb := h.2 j (by omega)
  rw [if_neg (by omega)] at hka hjb
  refine ⟨by simp [h.1], fun t ht => ?_⟩
  by_cases e1 : t = j
  · subst e1
    rw [List.getElem?_set_self (by simp; have := h.1; omega), if_pos (by omega), show xs.length - 1 - t = k from by omega, ← hka, ha]
  · rw [List.getElem?_set_ne (by omega)]
    by_cases e2 : t = k
    · subst e2
      rw [List.getElem?_set_self (by have := h.1; omega), if_pos (by omega), show xs.length - 1 - t = j from by omega, ← hjb, hb]
    · rw [List.getElem?_set_ne (by omega), h.2 t ht]
      by_cases e3 : t < k ∨ xs.length - k ≤ t
      · rw [if_pos e3, if_pos (by omega)]
      · rw [if_neg e3, if_neg (by omega)]
end Go.Proofs.YtamneiffhohleaaDoor

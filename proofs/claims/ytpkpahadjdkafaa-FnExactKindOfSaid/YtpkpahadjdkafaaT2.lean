/- Contracts: slices of strings compared. -/
import Derived.Test.YtpkpahadjdkafaaT1
import Derived.Test.YtpkpahadjdkafaaG1
namespace Go.Proofs.Ytpkpahadjdkafaa
open Go Go.RowKit
set_option linter.unusedVariables false
set_option linter.unusedSimpArgs false

theorem str_ne {a b : ByteArray} (h : a ≠ b) : (a.toList == b.toList) = false := by
  rw [beq_eq_false_iff_ne]
  intro e
  rw [bytes_toList, bytes_toList] at e
  exact h (by cases a; cases b; simp only [ByteArray.mk.injEq]; exact Array.toList_inj.1 e)
def cmpB (a b : ByteArray) : Int := if nmLt a b then -1 else if (a.toList == b.toList) then 0 else 1
def cmpSS : List ByteArray → List ByteArray → Int
  | [], [] => 0
  | [], _ :: _ => -1
  | _ :: _, [] => 1
  | a :: r, b :: s => if cmpB a b = 0 then cmpSS r s else cmpB a b
def lessS : List ByteArray → List ByteArray → Bool
  | a :: r, b :: s => if (a.toList == b.toList) then lessS r s else nmLt a b
  | _, _ => false
theorem less_irr (x : List UInt8) : Op.bytesLess x x = false := by
  have h := less_tot x x
  cases e : Op.bytesLess x x
  · rfl
  · rw [e] at h; simp at h
theorem cmpB_zero (a b : ByteArray) : cmpB a b = 0 ↔ (a.toList == b.toList) = true := by
  unfold cmpB nmLt
  cases e : (a.toList == b.toList)
  · cases Op.bytesLess a.toList b.toList <;> simp
  · rw [eq_of_beq e, less_irr]; simp
theorem less_cmp : ∀ {xs ys : List ByteArray}, xs.length = ys.length → lessS xs ys = decide (cmpSS xs ys < 0)
  | [], [], _ => rfl
  | [], _ :: _, h => by simp at h
  | _ :: _, [], h => by simp at h
  | a :: r, b :: s, h => by
    rw [lessS, cmpSS]
    have hz := cmpB_zero a b
    cases e : (a.toList == b.toList)
    · rw [e] at hz
      rw [if_neg (by simp), if_neg (by simp [hz])]
      unfold cmpB
      rw [e]
      cases nmLt a b <;> rfl
    · rw [if_pos rfl, if_pos (hz.2 e)]
      exact less_cmp (by simpa using h)
theorem cmp_step {xs ys : List ByteArray} {k : Nat} {r : Int} (hx : k < xs.length) (hy : k < ys.length) (h : cmpSS (xs.drop k) (ys.drop k) = r) (hz : cmpB xs[k] ys[k] = 0) : cmpSS (xs.drop (k + 1)) (ys.drop (k + 1)) = r := by
  rw [List.drop_eq_getElem_cons hx, List.drop_eq_getElem_cons hy, cmpSS, if_pos hz] at h; exact h
theorem cmp_at {xs ys : List ByteArray} {k : Nat} {r : Int} (hx : k < xs.length) (hy : k < ys.length) (h : cmpSS (xs.drop k) (ys.drop k) = r) (hz : ¬ cmpB xs[k] ys[k] = 0) : r = cmpB xs[k] ys[k] := by
  rw [List.drop_eq_getElem_cons hx, List.drop_eq_getElem_cons hy, cmpSS, if_neg hz] at h; exact h.symm
theorem cmp_end {xs ys : List ByteArray} {k : Nat} {r : Int} (hx : xs.length ≤ k) (hy : ys.length ≤ k) (h : cmpSS (xs.drop k) (ys.drop k) = r) : r = 0 := by
  rw [List.drop_of_length_le hx, List.drop_of_length_le hy] at h; exact h.symm
end Go.Proofs.Ytpkpahadjdkafaa

/- Contracts: libraries (their goodness). -/
import Derived.Test.YtpkpahadjdkafaaS3
namespace Go.Proofs.Ytpkpahadjdkafaa
open Go Go.RowKit
set_option linter.unusedVariables false
set_option linter.unusedSimpArgs false

def nmLt (p q : ByteArray) : Bool := Op.bytesLess p.toList q.toList
theorem less_tot : ∀ x y : List UInt8, (Op.bytesLess x y || x == y) = !Op.bytesLess y x
  | [], [] => rfl
  | [], _ :: _ => rfl
  | _ :: _, [] => rfl
  | a :: x, b :: y => by
    have ih := less_tot x y
    rw [Op.bytesLess, Op.bytesLess]
    by_cases h1 : a < b
    · have h2 : ¬ b < a := by simp only [UInt8.lt_iff_toNat_lt] at *; omega
      have h3 : ¬ b = a := by rintro rfl; simp only [UInt8.lt_iff_toNat_lt] at *; omega
      simp [h1, h2, h3]
    · by_cases h2 : b < a
      · have h3 : ¬ a = b := by rintro rfl; simp only [UInt8.lt_iff_toNat_lt] at *; omega
        simp [h1, h2, h3]
      · have h3 : a = b := by simp only [UInt8.lt_iff_toNat_lt] at *; exact UInt8.toNat_inj.1 (by omega)
        subst h3
        simp only [h1, decide_false, beq_self_eq_true, Bool.true_and, Bool.false_or]
        rw [← ih]
        simp
theorem MethAt.form {w : World} {m : Mt} {v : Value} (h : MethAt w m v) : ∃ A c, v = .slice A m.l.length c := let ⟨A, c, e, _⟩ := h.1; ⟨A, c, e⟩
def dM : Mt := ⟨⟨#[]⟩, 0, []⟩
def okAt (ms : List Mt) (k : Nat) : Bool := methB (ms.getD k dM) && (decide (k = 0) || nmLt (ms.getD (k - 1) dM).name (ms.getD k dM).name)
def libB (ms : List Mt) : Bool := decide (ms.length ≤ 30) && (List.range ms.length).all (okAt ms)
theorem getD_at {ms : List Mt} {k : Nat} (h : k < ms.length) : ms.getD k dM = ms[k] := by rw [List.getD_eq_getElem?_getD, List.getElem?_eq_getElem h]; rfl
theorem lib_no {ms : List Mt} {k : Nat} (h : k < ms.length) (ho : okAt ms k = false) : libB ms = false := by
  unfold libB
  have : (List.range ms.length).all (okAt ms) = false := by
    rw [List.all_eq_false]
    exact ⟨k, List.mem_range.2 h, by simp [ho]⟩
  rw [this, Bool.and_false]
theorem lib_step {ms : List Mt} {k : Nat} (ha : (List.range k).all (okAt ms) = true) (ho : okAt ms k = true) : (List.range (k + 1)).all (okAt ms) = true := by
  rw [List.range_succ, List.all_append, ha]; simp [ho]
theorem ok_bad {ms : List Mt} {k : Nat} (h : k < ms.length) (hm : methB ms[k] = false) : okAt ms k = false := by rw [okAt, getD_at h, hm]; rfl
theorem ok_first {ms : List Mt} (h : 0 < ms.length) (hm : methB ms[0] = true) : okAt ms 0 = true := by rw [okAt, getD_at h, hm]; rfl
theorem ok_next {ms : List Mt} {k : Nat} {b : Bool} (h : k < ms.length) (h0 : 0 < k) (hm : methB ms[k] = true) (hp : nmLt (ms[k - 1]'(by omega)).name ms[k].name = b) : okAt ms k = b := by
  rw [okAt, getD_at h, getD_at (show k - 1 < ms.length by omega), hm, hp, decide_eq_false (by omega)]; simp
theorem l4Good_as {m : Mt} {v : Value} {w : World} {r : Bool} (hr : methB m = r) (h : MethAt w m v) (hs : MtSmall m) : Calls Try.prog 53 #[m.v v] w fun e w' => e = .returned (.bool r) ∧ Below w.heap.size w w' := by subst hr; exact l4Good_any m v w h hs
theorem implGoodMethod_as {m : Mt} {v : Value} {w : World} {r : Bool} (hr : methB m = r) (h : MethAt w m v) (hs : MtSmall m) : Calls Try.prog 60 #[m.v v] w fun e w' => e = .returned (.bool r) ∧ Below w.heap.size w w' := by subst hr; exact implGoodMethod_any m v w h hs
end Go.Proofs.Ytpkpahadjdkafaa

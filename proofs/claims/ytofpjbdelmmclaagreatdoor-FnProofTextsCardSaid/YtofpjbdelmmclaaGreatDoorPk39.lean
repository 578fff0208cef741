/- Contracts: what a repair asks, the program's. -/
import Derived.Test.YtofpjbdelmmclaaGreatDoorPk25
import Derived.Test.YtofpjbdelmmclaaGreatDoorPk20
namespace Go.Proofs.YtofpjbdelmmclaaGreatDoor
open Go Go.RowKit
set_option linter.unusedVariables false
set_option linter.unusedSimpArgs false

theorem perm_in {n : Nat} (hn : n ≤ 8) {r : ByteArray} (h : PermR n r) : RowIn n r :=
  ⟨by have := h.length_eq; rw [roundsL_len, bytes_len] at this; exact this, fun b hb => inL_rounds hn b (h.mem_iff.1 hb)⟩
theorem rounds_nodup {n : Nat} (hn : n ≤ 8) : (roundsL n).Nodup := by
  have : n = 0 ∨ n = 1 ∨ n = 2 ∨ n = 3 ∨ n = 4 ∨ n = 5 ∨ n = 6 ∨ n = 7 ∨ n = 8 := by omega
  rcases this with rfl | rfl | rfl | rfl | rfl | rfl | rfl | rfl | rfl <;> decide
theorem perm_nodup {n : Nat} (hn : n ≤ 8) {r : ByteArray} (h : PermR n r) : r.data.toList.Nodup := h.nodup_iff.2 (rounds_nodup hn)
/-- The mask of some bytes. -/
def maskOf : List UInt8 → Nat
  | [] => 0
  | b :: l => 2 ^ (b.toNat - 49) ||| maskOf l
theorem mask_bit : ∀ (l : List UInt8) (j : Nat), (maskOf l).testBit j = l.any (fun b => decide (b.toNat - 49 = j))
  | [], j => by simp [maskOf]
  | b :: l, j => by
    rw [maskOf, Nat.testBit_or, mask_bit l j, List.any_cons, Nat.testBit_two_pow]
theorem mask_lt : ∀ (l : List UInt8), (∀ b ∈ l, b.toNat < 57) → maskOf l < 256
  | [], _ => by simp [maskOf]
  | b :: l, h => by
    rw [maskOf]
    have h1 := mask_lt l (fun x hx => h x (List.mem_cons_of_mem _ hx))
    have h2 := h b (List.mem_cons_self ..)
    have h3 : 2 ^ (b.toNat - 49) < 2 ^ 8 := Nat.pow_lt_pow_right (by omega) (by omega)
    exact Nat.or_lt_two_pow (n := 8) (by simpa using h3) (by simpa using h1)
theorem mask_snoc (l : List UInt8) (b : UInt8) : maskOf (l ++ [b]) = maskOf l ||| 2 ^ (b.toNat - 49) := by
  induction l with
  | nil => simp [maskOf]
  | cons a l ih => rw [List.cons_append, maskOf, ih, maskOf, Nat.or_assoc]
theorem i64_or_nat (a b : Nat) (ha : a < 9223372036854775808) (hb : b < 9223372036854775808) : bits .or .i64 (a : Int) (b : Int) = ((a ||| b : Nat) : Int) := by
  have ofInt : ∀ a : Nat, a < 9223372036854775808 → (BitVec.ofInt 64 (a : Int)).toNat = a := fun a ha => by
    rw [BitVec.ofInt_natCast, BitVec.toNat_ofNat]; exact Nat.mod_eq_of_lt (by omega)
  have hx : a ||| b < 2 ^ 63 := Nat.or_lt_two_pow (by omega) (by omega)
  show IntKind.i64.wrap ((BitVec.ofInt 64 (a : Int) ||| BitVec.ofInt 64 (b : Int)).toNat : Int) = _
  rw [BitVec.toNat_or, ofInt a ha, ofInt b hb, IntKind.wrap_i64]
  omega
theorem mask_new {n : Nat} (hn : n ≤ 8) {r : ByteArray} (h : PermR n r) {k : Nat} (hk : k < r.data.toList.length) : (maskOf (r.data.toList.take k)).testBit (r.data.toList[k].toNat - 49) = false := by
  rw [mask_bit, List.any_eq_false]
  intro b hb
  rw [decide_eq_true_eq]
  intro e
  have hin := perm_in hn h
  have h1 := hin.2 b (List.mem_of_mem_take hb)
  have h2 := hin.2 _ (List.getElem_mem hk)
  have hbe : b = r.data.toList[k] := UInt8.toNat_inj.1 (by omega)
  obtain ⟨i, hi, hie⟩ := List.getElem_of_mem hb
  rw [List.length_take] at hi
  rw [List.getElem_take] at hie
  exact (List.pairwise_iff_getElem.1 (perm_nodup hn h)) i k (by omega) hk (by omega) (hie.trans hbe)
end Go.Proofs.YtofpjbdelmmclaaGreatDoor

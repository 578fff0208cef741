/- Touches turned round: rotations, the reversal, the least of them. Plain facts. -/
import Derived.Test.YtpkpahadjdkafaaGreatDoorU1
import Derived.Lib.MinMaxS
import Derived.Lib.OthersKept
namespace Go.Proofs.YtpkpahadjdkafaaGreatDoor
open Go Go.RowKit
set_option linter.unusedVariables false
set_option linter.unusedSimpArgs false

def rotT (s : ByteArray) (n : Nat) : ByteArray := s.extract n s.size ++ s.extract 0 n
def leastTo (s : ByteArray) (k : Nat) : ByteArray := (List.range k).foldl (fun b n => Lib.minS b (rotT s n)) s
def leastT (s : ByteArray) : ByteArray := leastTo s s.size
theorem leastTo_zero (s : ByteArray) : leastTo s 0 = s := rfl
theorem leastTo_succ (s : ByteArray) (k : Nat) : leastTo s (k + 1) = Lib.minS (leastTo s k) (rotT s k) := by
  unfold leastTo; rw [List.range_succ, List.foldl_append]; rfl
def revTo (s : ByteArray) : Nat → ByteArray
  | 0 => ⟨#[]⟩
  | k + 1 => s.extract k (k + 1) ++ revTo s k
def revT (s : ByteArray) : ByteArray := revTo s (s.size - 1) ++ s.extract (s.size - 1) s.size
def leastB (s : ByteArray) (both : Bool) : ByteArray := if both then Lib.minS (leastT s) (leastT (revT s)) else leastT s
theorem rot_size {s : ByteArray} {n : Nat} (h : n ≤ s.size) : (rotT s n).size = s.size := by
  unfold rotT; rw [ByteArray.size_append, ByteArray.size_extract, ByteArray.size_extract]; omega
theorem minS_size {a b : ByteArray} {n : Nat} (ha : a.size = n) (hb : b.size = n) : (Lib.minS a b).size = n := by
  unfold Lib.minS; split <;> assumption
theorem leastTo_size (s : ByteArray) : ∀ k, k ≤ s.size → (leastTo s k).size = s.size
  | 0, _ => rfl
  | k + 1, h => by rw [leastTo_succ]; exact minS_size (leastTo_size s k (by omega)) (rot_size (by omega))
theorem revTo_size (s : ByteArray) : ∀ k, k ≤ s.size → (revTo s k).size = k
  | 0, _ => rfl
  | k + 1, h => by rw [revTo, ByteArray.size_append, ByteArray.size_extract, revTo_size s k (by omega)]; omega
theorem rev_size {s : ByteArray} (h : 1 ≤ s.size) : (revT s).size = s.size := by
  unfold revT; rw [ByteArray.size_append, ByteArray.size_extract, revTo_size s _ (by omega)]; omega
theorem minS_lt (x y : ByteArray) : (if Op.bytesLess y.toList x.toList then y else x) = Lib.minS x y := by
  unfold Lib.minS
  rw [ByteArray.toList_eq, ByteArray.toList_eq, Proofs.bytesLess_eq]
  by_cases h : y.data.toList < x.data.toList
  · rw [decide_eq_true h, if_pos rfl, if_neg]
    rintro (h1 | h1)
    · exact absurd (List.lt_trans h h1) (List.lt_irrefl _)
    · rw [h1] at h; exact absurd h (List.lt_irrefl _)
  · rw [decide_eq_false h, if_neg (by simp), if_pos]
    rcases List.le_iff_lt_or_eq.1 (List.not_lt.1 h) with h1 | h1
    · exact .inl h1
    · exact .inr h1
def Asc (s : ByteArray) : Prop := ∀ c ∈ s.data.toList, c.toNat < 128
theorem Asc.at_ {s : ByteArray} (h : Asc s) {k : Nat} (hk : k < s.size) : (s[k]'hk).toNat < 128 := by
  have := h _ (List.getElem_mem (l := s.data.toList) (n := k) (by simpa using hk))
  rwa [bytes_get _ _ hk] at this
theorem Asc.ext {s : ByteArray} (h : Asc s) (i j : Nat) : Asc (s.extract i j) := by
  intro c hc
  rw [ext_list] at hc
  exact h c (List.mem_of_mem_drop (List.mem_of_mem_take hc))
theorem Asc.app {a b : ByteArray} (h : Asc a) (k : Asc b) : Asc (a ++ b) := by
  intro c hc
  rw [ByteArray.data_append, Array.toList_append] at hc
  rcases List.mem_append.1 hc with hc | hc
  · exact h c hc
  · exact k c hc
theorem Asc.revTo {s : ByteArray} (h : Asc s) : ∀ k, Asc (revTo s k)
  | 0 => by intro c hc; simp [Go.Proofs.YtpkpahadjdkafaaGreatDoor.revTo] at hc
  | k + 1 => (h.ext _ _).app (Asc.revTo h k)
theorem Asc.rev {s : ByteArray} (h : Asc s) : Asc (revT s) := (h.revTo _).app (h.ext _ _)
theorem call_asc {c : UInt8} (h : callC c = true) : c.toNat < 128 := by
  unfold callC at h
  simp only [Bool.or_eq_true, decide_eq_true_eq] at h
  omega
theorem touch_asc {s : ByteArray} (h : touchB s.data.toList = true) : Asc s := by
  unfold touchB at h
  rw [Bool.and_eq_true, List.all_eq_true] at h
  exact fun c hc => call_asc (h.1 c hc)
theorem touch_size {s : ByteArray} (h : touchB s.data.toList = true) : 1 ≤ s.size ∧ s.size ≤ 60 := by
  unfold touchB at h
  rw [Bool.and_eq_true, decide_eq_true_eq, bytes_len] at h
  exact h.2
end Go.Proofs.YtpkpahadjdkafaaGreatDoor

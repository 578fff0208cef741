/- Contracts of small functions on numbers and words. -/
import Derived.Test.YtimeecimaokldaaM1
namespace Go.Proofs.Ytimeecimaokldaa
open Go Go.RowKit
set_option linter.unusedVariables false
set_option linter.unusedSimpArgs false

def letter (c : UInt8) : Bool := decide (97 ≤ (c.toNat : Int) ∧ (c.toNat : Int) ≤ 122)
def wordB (l : List UInt8) : Bool := l.all letter && decide (1 ≤ l.length ∧ l.length ≤ 10)

theorem within_any (n a b : Int) (w : World) : Calls Try.prog 43 #[.int .i64 n, .int .i64 a, .int .i64 b] w fun e w' => e = .returned (.bool (decide (a ≤ n ∧ n ≤ b))) ∧ w = w' := by
  by_cases h1 : a ≤ n
  · by_cases h2 : n ≤ b
    all_goals
      go_enter Try.func43, Try.ntmps43
      go_wp2
      go_ret
      exact ⟨ret_bool (by simp [*]), rfl⟩
  · go_enter Try.func43, Try.ntmps43
    go_wp2
    go_ret
    exact ⟨ret_bool (by simp; omega), rfl⟩

theorem letter_no1 {c : UInt8} (h : (c.toNat : Int) < 97) : letter c = false := by unfold letter; simp; omega
theorem letter_no2 {c : UInt8} (h : 122 < (c.toNat : Int)) : letter c = false := by unfold letter; simp; omega
theorem letter_yes {c : UInt8} (h1 : ¬ (c.toNat : Int) < 97) (h2 : (c.toNat : Int) ≤ 122) : letter c = true := by unfold letter; simp; omega
theorem word_no {l : List UInt8} {k : Nat} (hk : k < l.length) (h : letter l[k] = false) : wordB l = false := by unfold wordB; rw [all_false hk h]; rfl
theorem word_end {s : ByteArray} {k : Nat} {b : Bool} (hk : k ≤ s.size) (hn : ¬ k < s.size) (h : (s.data.toList.take k).all letter = true) (hb : b = decide (1 ≤ (s.size : Int) ∧ (s.size : Int) ≤ 10)) : b = wordB s.data.toList := by
  unfold wordB
  rw [all_true (by simp; omega) h, hb, bytes_len]
  simp only [Bool.true_and]
  congr 1
  apply propext
  omega

theorem l1In_any (n a b : Int) (w : World) : Calls Try.prog 27 #[.int .i64 n, .int .i64 a, .int .i64 b] w fun e w' => e = .returned (.bool (decide (a ≤ n ∧ n ≤ b))) ∧ w = w' := by
  by_cases h1 : a ≤ n
  · by_cases h2 : n ≤ b
    all_goals
      go_enter Try.func27, Try.ntmps27
      go_wp2
      go_ret
      exact ⟨ret_bool (by simp [*]), rfl⟩
  · go_enter Try.func27, Try.ntmps27
    go_wp2
    go_ret
    exact ⟨ret_bool (by simp; omega), rfl⟩
theorem isStage_any (n : Int) (w : World) : Calls Try.prog 51 #[.int .i64 n] w fun e w' => e = .returned (.bool (decide (3 ≤ n ∧ n ≤ 8))) ∧ w = w' := by
  by_cases h1 : 3 ≤ n
  · by_cases h2 : n ≤ 8
    all_goals
      go_enter Try.func51, Try.ntmps51
      go_wp2
      go_ret
      exact ⟨ret_bool (by simp [*]), rfl⟩
  · go_enter Try.func51, Try.ntmps51
    go_wp2
    go_ret
    exact ⟨ret_bool (by simp; omega), rfl⟩
end Go.Proofs.Ytimeecimaokldaa

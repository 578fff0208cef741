/- Contracts of small functions on numbers and words. -/
import Derived.Test.YtpkpahadjdkafaaM1
namespace Go.Proofs.Ytpkpahadjdkafaa
open Go Go.RowKit
set_option linter.unusedVariables false
set_option linter.unusedSimpArgs false

def letter (c : UInt8) : Bool := decide (97 ≤ (c.toNat : Int) ∧ (c.toNat : Int) ≤ 122)
def wordB (l : List UInt8) : Bool := l.all letter && decide (1 ≤ l.length ∧ l.length ≤ 10)

theorem within_any (n a b : Int) (w : World) : Calls Try.prog 39 #[.int .i64 n, .int .i64 a, .int .i64 b] w fun e w' => e = .returned (.bool (decide (a ≤ n ∧ n ≤ b))) ∧ w = w' := by
  by_cases h1 : a ≤ n
  · by_cases h2 : n ≤ b
    all_goals
      go_enter Try.func39, Try.ntmps39
      go_wp2
      go_ret
      exact ⟨ret_bool (by simp [*]), rfl⟩
  · go_enter Try.func39, Try.ntmps39
    go_wp2
    go_ret
    exact ⟨ret_bool (by simp; omega), rfl⟩

theorem letter_no1 {c : UInt8} (h : (c.toNat : Int) < 97) : letter c = false := by unfold letter; simp; omega
theorem letter_no2 {c : UInt8} (h : 122 < (c.toNat : Int)) : letter c = false := by unfold letter; simp; omega
theorem letter_yes {c : UInt8} (h1 : ¬ (c.toNat : Int) < 97) (h2 : (c.toNat : Int) ≤ 122) : letter c = true := by unfold letter; simp; omega
theorem word_no {l : List UInt8} {k : Nat} (hk : k < l.length) (h : letter l[k] = false) : wordB l = false := by unfold wordB; rw [all_false hk h]; rfl
theorem word_end {s : ByteArray} {k : Nat} {b : Bool} (hk : k ≤ s.size) (hn : ¬ k < s.size) (h : (s.data.toList.take k).all letter = true) (hb : b = decide (1 ≤ (s.size : Int) ∧ (s.size : Int) ≤ 10)) : b = wordB s.data.toList := by
  unfold wordB
  rw [all_true (by simp; omega) h, hb, bytes_len]
  simp only [Bool.true_and]
  congr 1
  apply propext
  omega

theorem isWord_any (s : ByteArray) (w : World) (hs : s.size ≤ maxLen) : Calls Try.prog 92 #[.string s] w fun e w' => e = .returned (.bool (wordB s.data.toList)) ∧ w = w' := by
  unfold maxLen at hs
  go_enter Try.func92, Try.ntmps92
  go_wp2
  go_loop [6] (fun i => ∃ k : Nat, k ≤ s.size ∧ i = .int .i64 k ∧ (s.data.toList.take k).all letter = true) (fun i => s.size - (intOf i).toNat)
  case atStart => exact ⟨0, Nat.zero_le _, rfl, by simp⟩
  case round =>
    obtain ⟨k, hk, rfl, ha⟩ := hrel
    have Ha := Lib.hid ha
    clear ha
    by_cases hlt : k < s.size
    · go_wp2
      · go_ret
        exact ⟨ret_bool (word_no (by simpa using hlt) (letter_no1 (by assumption))).symm, rfl⟩
      · go_ret
        exact ⟨ret_bool (word_no (by simpa using hlt) (letter_no2 (by assumption))).symm, rfl⟩
      · exact ⟨⟨k + 1, by omega, by go_num, all_step (by simpa using hlt) Ha.out (letter_yes (by assumption) (by assumption))⟩, by simp [intOf]; omega⟩
    · go_wp2
      all_goals
        go_ret
        exact ⟨ret_bool (word_end hk hlt Ha.out (by simp; omega)), rfl⟩
theorem l1In_any (n a b : Int) (w : World) : Calls Try.prog 37 #[.int .i64 n, .int .i64 a, .int .i64 b] w fun e w' => e = .returned (.bool (decide (a ≤ n ∧ n ≤ b))) ∧ w = w' := by
  by_cases h1 : a ≤ n
  · by_cases h2 : n ≤ b
    all_goals
      go_enter Try.func37, Try.ntmps37
      go_wp2
      go_ret
      exact ⟨ret_bool (by simp [*]), rfl⟩
  · go_enter Try.func37, Try.ntmps37
    go_wp2
    go_ret
    exact ⟨ret_bool (by simp; omega), rfl⟩
theorem isStage_any (n : Int) (w : World) : Calls Try.prog 143 #[.int .i64 n] w fun e w' => e = .returned (.bool (decide (3 ≤ n ∧ n ≤ 8))) ∧ w = w' := by
  by_cases h1 : 3 ≤ n
  · by_cases h2 : n ≤ 8
    all_goals
      go_enter Try.func143, Try.ntmps143
      go_wp2
      go_ret
      exact ⟨ret_bool (by simp [*]), rfl⟩
  · go_enter Try.func143, Try.ntmps143
    go_wp2
    go_ret
    exact ⟨ret_bool (by simp; omega), rfl⟩
theorem l4Name_any (s : ByteArray) (w : World) (hs : s.size ≤ maxLen) : Calls Try.prog 89 #[.string s] w fun e w' => e = .returned (.bool (wordB s.data.toList)) ∧ w = w' := by
  unfold maxLen at hs
  go_enter Try.func89, Try.ntmps89
  go_wp2
  go_loop [3] (fun i => ∃ k : Nat, k ≤ s.size ∧ i = .int .i64 k ∧ (s.data.toList.take k).all letter = true) (fun i => s.size - (intOf i).toNat)
  case atStart => exact ⟨0, Nat.zero_le _, rfl, by simp⟩
  case round =>
    obtain ⟨k, hk, rfl, ha⟩ := hrel
    have Ha := Lib.hid ha
    clear ha
    by_cases hlt : k < s.size
    · go_wp2
      · go_ret
        exact ⟨ret_bool (word_no (by simpa using hlt) (letter_no1 (by assumption))).symm, rfl⟩
      · go_ret
        exact ⟨ret_bool (word_no (by simpa using hlt) (letter_no2 (by assumption))).symm, rfl⟩
      · exact ⟨⟨k + 1, by omega, by go_num, all_step (by simpa using hlt) Ha.out (letter_yes (by assumption) (by assumption))⟩, by simp [intOf]; omega⟩
    · go_wp2_with (go_at_call 37; refine (l1In_any _ _ _ _).mono ?_; rintro e w' ⟨rfl, rfl⟩)
      go_ret
      exact ⟨ret_bool (word_end hk hlt Ha.out (by simp)), rfl⟩
end Go.Proofs.Ytpkpahadjdkafaa

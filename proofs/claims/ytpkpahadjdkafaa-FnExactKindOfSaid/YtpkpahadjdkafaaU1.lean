/- Contracts: notes, calls, touches. -/
import Derived.Test.YtpkpahadjdkafaaM2
import Derived.Test.YtpkpahadjdkafaaA1
namespace Go.Proofs.Ytpkpahadjdkafaa
open Go Go.RowKit
set_option linter.unusedVariables false
set_option linter.unusedSimpArgs false

def noteC (c : UInt8) : Bool := decide (97 ≤ (c.toNat : Int) ∧ (c.toNat : Int) ≤ 122) || decide (48 ≤ (c.toNat : Int) ∧ (c.toNat : Int) ≤ 57) || decide ((c.toNat : Int) = 46) || decide ((c.toNat : Int) = 45)
def noteB (l : List UInt8) : Bool := l.all noteC && decide (l.length ≤ 20)
theorem noteC_t {c : UInt8} (h : noteC c = true) : (97 ≤ (c.toNat : Int) ∧ (c.toNat : Int) ≤ 122) ∨ (48 ≤ (c.toNat : Int) ∧ (c.toNat : Int) ≤ 57) ∨ (c.toNat : Int) = 46 ∨ (c.toNat : Int) = 45 := by
  unfold noteC at h; simpa only [Bool.or_eq_true, decide_eq_true_eq, or_assoc] using h
theorem noteC_f {c : UInt8} (h : noteC c = false) : ¬ ((97 ≤ (c.toNat : Int) ∧ (c.toNat : Int) ≤ 122) ∨ (48 ≤ (c.toNat : Int) ∧ (c.toNat : Int) ≤ 57) ∨ (c.toNat : Int) = 46 ∨ (c.toNat : Int) = 45) := by
  intro k
  have : noteC c = true := by unfold noteC; simpa only [Bool.or_eq_true, decide_eq_true_eq, or_assoc] using k
  rw [h] at this; cases this
theorem note_no {l : List UInt8} {k : Nat} (hk : k < l.length) (h : noteC l[k] = false) : noteB l = false := by unfold noteB; rw [all_false hk h]; rfl
theorem note_end {s : ByteArray} {k : Nat} (hk : k ≤ s.size) (hn : ¬ k < s.size) (h : (s.data.toList.take k).all noteC = true) : decide ((s.size : Int) ≤ 20) = noteB s.data.toList := by
  unfold noteB
  rw [all_true (by simp; omega) h, bytes_len]
  simp only [Bool.true_and]
  congr 1
  apply propext
  omega
def callC (c : UInt8) : Bool := decide ((c.toNat : Int) = 112) || decide ((c.toNat : Int) = 98) || decide ((c.toNat : Int) = 115)
def callS (s : ByteArray) : Bool := (s.toList == [112]) || (s.toList == [98]) || (s.toList == [115])
def touchB (l : List UInt8) : Bool := l.all callC && decide (1 ≤ l.length ∧ l.length ≤ 60)
theorem ext_list (s : ByteArray) (i j : Nat) : (s.extract i j).data.toList = (s.data.toList.drop i).take (j - i) := by
  simp [ByteArray.data_extract, Array.toList_extract, List.extract_eq_take_drop, List.drop_take]
theorem ext_one {s : ByteArray} {k : Nat} (h : k < s.size) : (s.extract k (k + 1)).toList = [s[k]] := by
  rw [ByteArray.toList_eq, ext_list, Nat.add_sub_cancel_left, List.drop_eq_getElem_cons (by simpa using h)]
  rfl
theorem nat_u8 (c d : UInt8) : ([c] == [d]) = decide ((c.toNat : Int) = (d.toNat : Int)) := by
  rw [Bool.eq_iff_iff, decide_eq_true_eq, beq_iff_eq]
  constructor
  · intro h
    rw [(List.cons.inj h).1]
  · intro h
    have e : c = d := UInt8.toNat_inj.1 (by omega)
    rw [e]
theorem callS_def (s : ByteArray) : callS s = ((s.toList == [112]) || (s.toList == [98]) || (s.toList == [115])) := rfl
theorem callS_one {s : ByteArray} {k : Nat} (h : k < s.size) : callS (s.extract k (k + 1)) = callC s[k] := by
  unfold callS callC
  rw [ext_one h, nat_u8, nat_u8, nat_u8]
  rfl
theorem isCall_any (s : ByteArray) (w : World) : Calls Try.prog 159 #[.string s] w fun e w' => e = .returned (.bool (callS s)) ∧ w = w' := by
  cases e1 : (s.toList == [112]) <;> cases e2 : (s.toList == [98]) <;> cases e3 : (s.toList == [115])
  all_goals
    have h := callS_def s
    rw [e1, e2, e3] at h
    have H := Lib.hid h
    clear h
    go_enter Try.func159, Try.ntmps159
    go_wp2
    go_ret
    exact ⟨ret_bool (by rw [H.out]; rfl), rfl⟩
theorem l8Call_any (s : ByteArray) (w : World) : Calls Try.prog 135 #[.string s] w fun e w' => e = .returned (.bool (callS s)) ∧ w = w' := by
  cases e1 : (s.toList == [112]) <;> cases e2 : (s.toList == [98]) <;> cases e3 : (s.toList == [115])
  all_goals
    have h := callS_def s
    rw [e1, e2, e3] at h
    have H := Lib.hid h
    clear h
    go_enter Try.func135, Try.ntmps135
    go_wp2
    go_ret
    exact ⟨ret_bool (by rw [H.out]; rfl), rfl⟩
theorem areCalls_any (s : ByteArray) (w : World) (hs : s.size ≤ maxLen) : Calls Try.prog 137 #[.string s] w fun e w' => e = .returned (.bool (s.data.toList.all callC)) ∧ w = w' := by
  unfold maxLen at hs
  obtain ⟨q, hq⟩ : ∃ q, q = s.data.toList.all callC := ⟨_, rfl⟩
  rw [← hq]
  have Hq := Lib.hid hq
  clear hq
  go_enter Try.func137, Try.ntmps137
  go_wp2
  go_loop [6] (fun i => ∃ k : Nat, k ≤ s.size ∧ i = .int .i64 k ∧ (s.data.toList.take k).all callC = true) (fun i => s.size - (intOf i).toNat)
  case atStart => exact ⟨0, Nat.zero_le _, rfl, by simp⟩
  case round =>
    obtain ⟨k, hk, rfl, ha⟩ := hrel
    have Ha := Lib.hid ha
    clear ha
    by_cases hlt : k < s.size
    · have H1 := Lib.hid (callS_one hlt)
      cases hb : callC s[k]
      all_goals have Hb := Lib.hid hb; clear hb
      · go_wp2_with (go_at_call 159; refine (isCall_any _ _).mono ?_; rintro e w1 ⟨rfl, rfl⟩; rw [H1.out, Hb.out])
        go_ret
        exact ⟨ret_bool (by rw [Hq.out, all_false (k := k) (by simpa using hlt) Hb.out]), rfl⟩
      · go_wp2_with (go_at_call 159; refine (isCall_any _ _).mono ?_; rintro e w1 ⟨rfl, rfl⟩; rw [H1.out, Hb.out])
        exact ⟨⟨k + 1, by omega, by go_num, all_step (by simpa using hlt) Ha.out Hb.out⟩, by simp [intOf]; omega⟩
    · go_wp2
      go_ret
      exact ⟨ret_bool (by rw [Hq.out, all_true (by simp; omega) Ha.out]), rfl⟩
theorem touch_of {s : ByteArray} {b : Bool} (h : s.data.toList.all callC = b) {c : Bool} (hc : c = decide (1 ≤ (s.size : Int) ∧ (s.size : Int) ≤ 60)) : touchB s.data.toList = (c && b) := by
  unfold touchB
  rw [h, hc, bytes_len, Bool.and_comm]
  congr 2
  apply propext
  omega
theorem GoodTouch_any (s : ByteArray) (w : World) (hs : s.size ≤ maxLen) : Calls Try.prog 112 #[.string s] w fun e w' => e = .returned (.bool (touchB s.data.toList)) ∧ w = w' := by
  unfold maxLen at hs
  obtain ⟨b, hb⟩ : ∃ b, s.data.toList.all callC = b := ⟨_, rfl⟩
  have H := Lib.hid (touch_of hb rfl)
  have Hb := Lib.hid hb
  clear hb
  go_enter Try.func112, Try.ntmps112
  go_wp2_with (go_at_call 137; refine (areCalls_any _ _ (by unfold maxLen; omega)).mono ?_; rintro e w1 ⟨rfl, rfl⟩; rw [Hb.out])
  all_goals
    go_ret
    exact ⟨ret_bool (by rw [H.out]; simp [Bool.decide_and]; try omega), rfl⟩
theorem l9Good_any (s : ByteArray) (w : World) (hs : s.size ≤ maxLen) : Calls Try.prog 109 #[.string s] w fun e w' => e = .returned (.bool (touchB s.data.toList)) ∧ w = w' := by
  unfold maxLen at hs
  go_enter Try.func109, Try.ntmps109
  go_wp2
  go_loop [3] (fun i => ∃ k : Nat, k ≤ s.size ∧ i = .int .i64 k ∧ (s.data.toList.take k).all callC = true) (fun i => s.size - (intOf i).toNat)
  case atStart => exact ⟨0, Nat.zero_le _, rfl, by simp⟩
  case round =>
    obtain ⟨k, hk, rfl, ha⟩ := hrel
    have Ha := Lib.hid ha
    clear ha
    by_cases hlt : k < s.size
    · have H1 := Lib.hid (callS_one hlt)
      cases hb : callC s[k]
      all_goals have Hb := Lib.hid hb; clear hb
      · go_wp2_with (go_at_call 135; refine (l8Call_any _ _).mono ?_; rintro e w1 ⟨rfl, rfl⟩; rw [H1.out, Hb.out])
        go_ret
        exact ⟨ret_bool (by rw [touch_of (all_false (k := k) (by simpa using hlt) Hb.out) rfl]; simp), rfl⟩
      · go_wp2_with (go_at_call 135; refine (l8Call_any _ _).mono ?_; rintro e w1 ⟨rfl, rfl⟩; rw [H1.out, Hb.out])
        exact ⟨⟨k + 1, by omega, by go_num, all_step (by simpa using hlt) Ha.out Hb.out⟩, by simp [intOf]; omega⟩
    · go_wp2_with (go_at_call 37; refine (l1In_any _ _ _ _).mono ?_; rintro e w1 ⟨rfl, rfl⟩)
      go_ret
      exact ⟨ret_bool (by rw [touch_of (all_true (by simp; omega) Ha.out) rfl, Bool.and_true]; simp [Bool.decide_and]), rfl⟩
end Go.Proofs.Ytpkpahadjdkafaa

/- Contracts: the text of a study, both sides. -/
import Derived.Test.YtamneiffhohleaaDoorN1
import Derived.Test.YtamneiffhohleaaDoorA1
namespace Go.Proofs.YtamneiffhohleaaDoor
open Go Go.RowKit
set_option linter.unusedVariables false
set_option linter.unusedSimpArgs false

def opt (c : Bool) (x t : ByteArray) : ByteArray := if c then t ++ x else t
def leadW : ByteArray := ⟨#[108, 101, 97, 100, 115, 32]⟩
def rowsW : ByteArray := ⟨#[44, 32, 114, 111, 119, 115, 32]⟩
def roundW : ByteArray := ⟨#[44, 32, 114, 111, 117, 110, 100]⟩
def trueW : ByteArray := ⟨#[44, 32, 116, 114, 117, 101]⟩
def evenW : ByteArray := ⟨#[44, 32, 101, 118, 101, 110]⟩
def scoreW : ByteArray := ⟨#[44, 32, 115, 99, 111, 114, 101, 32]⟩
def okS (a b s : Int) : Bool := decide (1 ≤ a ∧ a ≤ 60) && decide (1 ≤ b ∧ b ≤ 800) && decide (-1000000 ≤ s ∧ s ≤ 1000000)
def studyT (a b : Int) (p q r : Bool) (s : Int) : ByteArray := opt r evenW (opt q trueW (opt p roundW (leadW ++ numT a ++ rowsW ++ numT b))) ++ scoreW ++ numT s
def stT (a b : Int) (p q r : Bool) (s : Int) : ByteArray := if okS a b s then studyT a b p q r s else ⟨#[]⟩
theorem okS_no1 {a b s : Int} (h : ¬ (1 ≤ a ∧ a ≤ 60)) : okS a b s = false := by unfold okS; rw [decide_eq_false h]; rfl
theorem okS_no2 {a b s : Int} (h : ¬ (1 ≤ b ∧ b ≤ 800)) : okS a b s = false := by unfold okS; rw [decide_eq_false h, Bool.and_false]; rfl
theorem okS_no3 {a b s : Int} (h : ¬ (-1000000 ≤ s ∧ s ≤ 1000000)) : okS a b s = false := by unfold okS; rw [decide_eq_false h, Bool.and_false]
theorem okS_yes {a b s : Int} (h1 : 1 ≤ a ∧ a ≤ 60) (h2 : 1 ≤ b ∧ b ≤ 800) (h3 : -1000000 ≤ s ∧ s ≤ 1000000) : okS a b s = true := by unfold okS; rw [decide_eq_true h1, decide_eq_true h2, decide_eq_true h3]; rfl
theorem stT_no {a b s : Int} {p q r : Bool} (h : okS a b s = false) : stT a b p q r s = ⟨#[]⟩ := by unfold stT; rw [h]; rfl
theorem stT_yes {a b s : Int} {p q r : Bool} (h : okS a b s = true) : stT a b p q r s = studyT a b p q r s := by unfold stT; rw [h]; rfl
theorem l1Num_int (a : Int) (w : World) (h0 : 0 ≤ a) (h1 : a ≤ 1000000000000) : Calls Tryd.prog 29 #[.int .i64 a] w fun e w' => e = .returned (.string (numT a)) ∧ Below w.heap.size w w' := by
  obtain ⟨n, rfl⟩ : ∃ n : Nat, a = n := ⟨a.toNat, by omega⟩
  exact l1Num_any n w (by omega)
def zs (k : Nat) : ByteArray := ⟨(List.replicate k (48 : UInt8)).toArray⟩
theorem zs_size (k : Nat) : (zs k).size = k := by show (List.replicate k (48 : UInt8)).toArray.size = k; simp
theorem zs_one : numT 0 = zs 1 := (numT_small (n := 0) (by omega)).trans rfl
theorem zs_succ (k : Nat) : (⟨#[48]⟩ : ByteArray) ++ zs k = zs (k + 1) := by
  apply ByteArray.ext
  simp [zs, List.replicate_succ]
theorem mill : numT 1000000 = numT 1 ++ zs 6 := by
  have e1 : numT 1000000 = numT 100000 ++ digit 1000000 := numT_big (n := 1000000) (by omega)
  have e2 : numT 100000 = numT 10000 ++ digit 100000 := numT_big (n := 100000) (by omega)
  have e3 : numT 10000 = numT 1000 ++ digit 10000 := numT_big (n := 10000) (by omega)
  have e4 : numT 1000 = numT 100 ++ digit 1000 := numT_big (n := 1000) (by omega)
  have e5 : numT 100 = numT 10 ++ digit 100 := numT_big (n := 100) (by omega)
  have e6 : numT 10 = numT 1 ++ digit 10 := numT_big (n := 10) (by omega)
  rw [e1, e2, e3, e4, e5, e6]
  apply ByteArray.ext
  apply Array.toList_inj.1
  simp [zs, digit, List.replicate]
theorem numT_neg {n : Int} (h : n < 0) : numT n = (⟨#[45]⟩ : ByteArray) ++ numT (-n) := by
  unfold numT Lib.itoa
  rw [if_pos h, if_neg (by omega), show (-n).toNat = n.natAbs from by omega]
  apply ByteArray.ext
  simp
set_option maxHeartbeats 1000000 in
theorem l31Six_zero (w : World) : Calls Tryd.prog 77 #[.int .i64 0] w fun e w' => e = .returned (.string (zs 6)) ∧ Below w.heap.size w w' := by
  go_enter Tryd.func77, Tryd.ntmps77
  go_wp2_with fail
  refine (l1Num_int 0 w (by omega) (by omega)).mono ?_; rintro e w1 ⟨rfl, hb1⟩
  rw [zs_one]
  go_wp2_with fail
  go_loopw [3] (fun s wr => ∃ k : Nat, 1 ≤ k ∧ k ≤ 6 ∧ s = .string (zs k) ∧ Below w.heap.size w wr) (fun s _ => match s with | .string t => 6 - t.size | _ => 0)
  case atStart => exact ⟨1, by omega, by omega, rfl, hb1⟩
  case round =>
    obtain ⟨k, h1, h6, rfl, hB⟩ := hrel
    have hz := zs_size k
    have hz1 := zs_size (k + 1)
    have hsucc := zs_succ k
    by_cases hlt : k < 6
    · go_wp2_with fail
      exact ⟨⟨k + 1, by omega, by omega, by rfl, hB⟩, by simp [hz, hz1]; omega⟩
    · obtain rfl : k = 6 := by omega
      go_wp2_with fail
      go_ret
      exact ⟨rfl, hB⟩
set_option maxHeartbeats 1000000 in
theorem l31Digits_any (n : Int) (w : World) (h0 : 0 ≤ n) (h1 : n ≤ 1000000) : Calls Tryd.prog 54 #[.int .i64 n] w fun e w' => e = .returned (.string (numT n)) ∧ Below w.heap.size w w' := by
  by_cases hm : n = 1000000
  · subst hm
    have hsz : (numT 1).size ≤ 14 := numT_size (by omega) (by omega)
    have hz := zs_size 6
    go_enter Tryd.func54, Tryd.ntmps54
    go_wp2_with fail
    refine (l1Num_int 1 w (by omega) (by omega)).mono ?_; rintro e w1 ⟨rfl, hb1⟩
    go_wp2_with fail
    refine (l31Six_zero w1).mono ?_; rintro e w2 ⟨rfl, hb2⟩
    go_wp2_with fail
    go_ret
    exact ⟨by rw [mill]; rfl, bw_to hb1 hb2⟩
  · have hlt : ¬ n > 999999 := by omega
    go_enter Tryd.func54, Tryd.ntmps54
    go_wp2_with fail
    refine (l1Num_int n w h0 (by omega)).mono ?_; rintro e w1 ⟨rfl, hb1⟩
    go_wp2_with fail
    go_ret
    exact ⟨rfl, hb1⟩
set_option maxHeartbeats 1000000 in
theorem l31Num_any (n : Int) (w : World) (h0 : -1000000 ≤ n) (h1 : n ≤ 1000000) : Calls Tryd.prog 30 #[.int .i64 n] w fun e w' => e = .returned (.string (numT n)) ∧ Below w.heap.size w w' := by
  by_cases hneg : n < 0
  · have hsz : (numT (-n)).size ≤ 14 := numT_size (by omega) (by omega)
    have hw1 : IntKind.i64.wrap (-n) = -n := IntWalk.i64_in _ (by omega)
    go_enter Tryd.func30, Tryd.ntmps30
    go_wp2_with fail
    refine (l31Digits_any (-n) w (by omega) (by omega)).mono ?_; rintro e w1 ⟨rfl, hb1⟩
    go_wp2_with fail
    go_ret
    exact ⟨by rw [numT_neg hneg]; rfl, hb1⟩
  · go_enter Tryd.func30, Tryd.ntmps30
    go_wp2_with fail
    refine (l31Digits_any n w (by omega) (by omega)).mono ?_; rintro e w1 ⟨rfl, hb1⟩
    go_wp2_with fail
    go_ret
    exact ⟨rfl, hb1⟩
set_option maxRecDepth 10000 in
set_option maxHeartbeats 2000000 in
theorem implStudyText_any (a b : Int) (p q r : Bool) (s : Int) (w : World) (ht : Tab10 w) : Calls Tryd.prog 9 #[.agg #[.int .i64 a, .int .i64 b, .bool p, .bool q, .bool r, .int .i64 s]] w fun e w' =>
    e = .returned (.tuple #[.string (stT a b p q r s), .bool (okS a b s)]) ∧ Below w.heap.size w w' := by
  obtain ⟨T, hT⟩ : ∃ T, T = stT a b p q r s := ⟨_, rfl⟩
  obtain ⟨k, hk⟩ : ∃ k, k = okS a b s := ⟨_, rfl⟩
  rw [← hT, ← hk]
  have HT := Lib.hid hT
  have Hk := Lib.hid hk
  clear hT hk
  have Ht := Lib.hid ht
  clear ht
  go_enter Tryd.func9, Tryd.ntmps9
  go_wp2_with fail
  refine box1 (C := fun W => Calls _ _ _ W _) ?_
  intro wb hw k1 hB0
  have R1 := boxRule k1
  clear k1
  by_cases h1 : 1 ≤ a ∧ a ≤ 60
  case neg =>
    have Hno := Lib.hid (okS_no1 (b := b) (s := s) h1)
    go_wp2_with (go_at_call 31; refine (within_any _ _ _ _).mono ?_; rintro e w1 ⟨rfl, rfl⟩)
    go_ret2
    exact ⟨by rw [HT.out, Hk.out, stT_no Hno.out, Hno.out]; rfl, hw⟩
  case pos =>
    by_cases h2 : 1 ≤ b ∧ b ≤ 800
    case neg =>
      have Hno := Lib.hid (okS_no2 (a := a) (s := s) h2)
      go_wp2_with (go_at_call 31; refine (within_any _ _ _ _).mono ?_; rintro e w1 ⟨rfl, rfl⟩)
      go_ret2
      exact ⟨by rw [HT.out, Hk.out, stT_no Hno.out, Hno.out]; rfl, hw⟩
    case pos =>
      by_cases h3 : -1000000 ≤ s ∧ s ≤ 1000000
      case neg =>
        have Hno := Lib.hid (okS_no3 (a := a) (b := b) h3)
        go_wp2_with (go_at_call 31; refine (within_any _ _ _ _).mono ?_; rintro e w1 ⟨rfl, rfl⟩)
        go_ret2
        exact ⟨by rw [HT.out, Hk.out, stT_no Hno.out, Hno.out]; rfl, hw⟩
      case pos =>
        have Hyes := Lib.hid (okS_yes h1 h2 h3)
        have za : (numT a).size ≤ 14 := numT_size (by omega) (by omega)
        have zb : (numT b).size ≤ 14 := numT_size (by omega) (by omega)
        have zc : (numT s).size ≤ 14 := numT_size (by omega) (by omega)
        have o1 : ¬ 9223372036854775807 < 6 + (numT a).size := by omega
        have o2 : ¬ 9223372036854775807 < 6 + (numT a).size + 7 := by omega
        have o3 : ¬ 9223372036854775807 < 6 + (numT a).size + 7 + (numT b).size := by omega
        have R3 : ∀ (x : Aft wb) (i : Nat), x.w.cell? ⟨w.heap.size, i, none⟩ = #[.int .i64 a, .int .i64 b, .bool p, .bool q, .bool r, .int .i64 s][i]? := fun x i => R1 x.w i x.h
        have HR1 := Lib.hid R1
        go_wp2_with (go_at_call 31; refine (within_any _ _ _ _).mono ?_; rintro e w1 ⟨rfl, rfl⟩)
        clear R1
        refine wp_region_aft (wb := wb) (by kernel_rfl) (by kernel_rfl) hB0 ?_
        repeat (go_big_quiet_step ((first | (go_at_call 32; exact calls_aft fun w' hb' => decimal_any _ w' (by omega) (by omega) (Ht.out.to (bw_to hw hb'))))))
        refine wpQuiet_nil ?_
        rintro _ ⟨⟨w3, hB3⟩, rfl⟩
        have R1 := HR1.out
        clear R3
        go_wp2_with (go_at_call 32; refine (decimal_any s _ (by omega) (by omega) (Ht.out.to (bw_to hw hB3))).mono ?_; rintro e w5 ⟨rfl, hb5⟩)
        all_goals
          subst_vars
          go_ret2
          exact ⟨by rw [stT_yes Hyes.out, Hyes.out]; rfl, bw_to hw (bw_to hB3 hb5)⟩
set_option maxRecDepth 10000 in
set_option maxHeartbeats 2000000 in
theorem specStudyText_any (a b : Int) (p q r : Bool) (s : Int) (w : World) : Calls Tryd.prog 7 #[.agg #[.int .i64 a, .int .i64 b, .bool p, .bool q, .bool r, .int .i64 s]] w fun e w' =>
    e = .returned (.tuple #[.string (stT a b p q r s), .bool (okS a b s)]) ∧ Below w.heap.size w w' := by
  obtain ⟨T, hT⟩ : ∃ T, T = stT a b p q r s := ⟨_, rfl⟩
  obtain ⟨k, hk⟩ : ∃ k, k = okS a b s := ⟨_, rfl⟩
  rw [← hT, ← hk]
  have HT := Lib.hid hT
  have Hk := Lib.hid hk
  clear hT hk
  go_enter Tryd.func7, Tryd.ntmps7
  go_wp2_with fail
  refine box1 (C := fun W => Calls _ _ _ W _) ?_
  intro wb hw k1 hB0
  have R1 := boxRule k1
  clear k1
  by_cases h1 : 1 ≤ a ∧ a ≤ 60
  case neg =>
    have Hno := Lib.hid (okS_no1 (b := b) (s := s) h1)
    go_wp2_with (go_at_call 28; refine (l1In_any _ _ _ _).mono ?_; rintro e w1 ⟨rfl, rfl⟩)
    go_ret2
    exact ⟨by rw [HT.out, Hk.out, stT_no Hno.out, Hno.out]; rfl, hw⟩
  case pos =>
    by_cases h2 : 1 ≤ b ∧ b ≤ 800
    case neg =>
      have Hno := Lib.hid (okS_no2 (a := a) (s := s) h2)
      go_wp2_with (go_at_call 28; refine (l1In_any _ _ _ _).mono ?_; rintro e w1 ⟨rfl, rfl⟩)
      go_ret2
      exact ⟨by rw [HT.out, Hk.out, stT_no Hno.out, Hno.out]; rfl, hw⟩
    case pos =>
      by_cases h3 : -1000000 ≤ s ∧ s ≤ 1000000
      case neg =>
        have Hno := Lib.hid (okS_no3 (a := a) (b := b) h3)
        go_wp2_with (go_at_call 28; refine (l1In_any _ _ _ _).mono ?_; rintro e w1 ⟨rfl, rfl⟩)
        go_ret2
        exact ⟨by rw [HT.out, Hk.out, stT_no Hno.out, Hno.out]; rfl, hw⟩
      case pos =>
        have Hyes := Lib.hid (okS_yes h1 h2 h3)
        have za : (numT a).size ≤ 14 := numT_size (by omega) (by omega)
        have zb : (numT b).size ≤ 14 := numT_size (by omega) (by omega)
        have zc : (numT s).size ≤ 14 := numT_size (by omega) (by omega)
        have o1 : ¬ 9223372036854775807 < 6 + (numT a).size := by omega
        have o2 : ¬ 9223372036854775807 < 6 + (numT a).size + 7 := by omega
        have o3 : ¬ 9223372036854775807 < 6 + (numT a).size + 7 + (numT b).size := by omega
        have R3 : ∀ (x : Aft wb) (i : Nat), x.w.cell? ⟨w.heap.size, i, none⟩ = #[.int .i64 a, .int .i64 b, .bool p, .bool q, .bool r, .int .i64 s][i]? := fun x i => R1 x.w i x.h
        have HR1 := Lib.hid R1
        go_wp2_with (go_at_call 28; refine (l1In_any _ _ _ _).mono ?_; rintro e w1 ⟨rfl, rfl⟩)
        clear R1
        refine wp_region_aft (wb := wb) (by kernel_rfl) (by kernel_rfl) hB0 ?_
        repeat (go_big_quiet_step ((first | (go_at_call 29; exact calls_aft fun w' hb' => l1Num_int _ w' (by omega) (by omega)))))
        refine wpQuiet_nil ?_
        rintro _ ⟨⟨w3, hB3⟩, rfl⟩
        have R1 := HR1.out
        clear R3
        go_wp2_with (go_at_call 30; refine (l31Num_any s _ (by omega) (by omega)).mono ?_; rintro e w5 ⟨rfl, hb5⟩)
        all_goals
          subst_vars
          go_ret2
          exact ⟨by rw [stT_yes Hyes.out, Hyes.out]; rfl, bw_to hw (bw_to hB3 hb5)⟩
end Go.Proofs.YtamneiffhohleaaDoor

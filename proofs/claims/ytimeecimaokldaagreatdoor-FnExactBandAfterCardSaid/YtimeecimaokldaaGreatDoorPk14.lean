/- Contracts: good rows, any texts at all; both sides. -/
import Derived.Test.YtimeecimaokldaaGreatDoorPk3
namespace Go.Proofs.YtimeecimaokldaaGreatDoor
open Go Go.RowKit
set_option linter.unusedVariables false
set_option linter.unusedSimpArgs false

/-- The mask of some bytes. -/
def maskE : List UInt8 → Nat
  | [] => 0
  | b :: l => 2 ^ (b.toNat - 49) ||| maskE l
theorem maskE_bit : ∀ (l : List UInt8) (j : Nat), (maskE l).testBit j = l.any (fun b => decide (b.toNat - 49 = j))
  | [], j => by simp [maskE]
  | b :: l, j => by
    rw [maskE, Nat.testBit_or, maskE_bit l j, List.any_cons, Nat.testBit_two_pow]
theorem maskE_lt : ∀ (l : List UInt8), (∀ b ∈ l, b.toNat < 57) → maskE l < 256
  | [], _ => by simp [maskE]
  | b :: l, h => by
    rw [maskE]
    have h1 := maskE_lt l (fun x hx => h x (List.mem_cons_of_mem _ hx))
    have h2 := h b (List.mem_cons_self ..)
    have h3 : 2 ^ (b.toNat - 49) < 2 ^ 8 := Nat.pow_lt_pow_right (by omega) (by omega)
    exact Nat.or_lt_two_pow (n := 8) (by simpa using h3) (by simpa using h1)
theorem maskE_snoc (l : List UInt8) (b : UInt8) : maskE (l ++ [b]) = maskE l ||| 2 ^ (b.toNat - 49) := by
  induction l with
  | nil => simp [maskE]
  | cons a l ih => rw [List.cons_append, maskE, ih, maskE, Nat.or_assoc]
theorem i64E_or_nat (a b : Nat) (ha : a < 9223372036854775808) (hb : b < 9223372036854775808) : bits .or .i64 (a : Int) (b : Int) = ((a ||| b : Nat) : Int) := by
  have ofInt : ∀ a : Nat, a < 9223372036854775808 → (BitVec.ofInt 64 (a : Int)).toNat = a := fun a ha => by
    rw [BitVec.ofInt_natCast, BitVec.toNat_ofNat]; exact Nat.mod_eq_of_lt (by omega)
  have hx : a ||| b < 2 ^ 63 := Nat.or_lt_two_pow (by omega) (by omega)
  show IntKind.i64.wrap ((BitVec.ofInt 64 (a : Int) ||| BitVec.ofInt 64 (b : Int)).toNat : Int) = _
  rw [BitVec.toNat_or, ofInt a ha, ofInt b hb, IntKind.wrap_i64]
  omega
def okP (r : ByteArray) (k : Nat) : Prop := (∀ i, i < k → ∀ h : i < r.size, 49 ≤ r[i].toNat ∧ r[i].toNat ≤ 48 + r.size) ∧ (∀ i j, i < j → j < k → ∀ (hi : i < r.size) (hj : j < r.size), r[i].toNat ≠ r[j].toNat)
theorem okP_zero (r : ByteArray) : okP r 0 := ⟨fun i h => absurd h (Nat.not_lt_zero _), fun i j _ h => absurd h (Nat.not_lt_zero _)⟩
theorem okP_succ {r : ByteArray} {k : Nat} (h : okP r k) (hk : k < r.size) (h1 : 49 ≤ r[k].toNat ∧ r[k].toNat ≤ 48 + r.size) (h2 : ∀ i (hi : i < k), r[i].toNat ≠ r[k].toNat) : okP r (k + 1) := by
  refine ⟨fun i hi hs => ?_, fun i j hij hj his hjs => ?_⟩
  · by_cases e : i = k
    · subst e; exact h1
    · exact h.1 i (by omega) hs
  · by_cases e : j = k
    · subst e; exact h2 i hij
    · exact h.2 i j hij (by omega) his hjs
def GoodR (r : ByteArray) : Prop := (3 ≤ r.size ∧ r.size ≤ 8) ∧ okP r r.size
theorem goodR_no1 {r : ByteArray} (h : ¬ (3 ≤ r.size ∧ r.size ≤ 8)) : ¬ GoodR r := fun g => h g.1
theorem goodR_no2 {r : ByteArray} {k : Nat} (hk : k < r.size) (h : ¬ (49 ≤ r[k].toNat ∧ r[k].toNat ≤ 48 + r.size)) : ¬ GoodR r := fun g => h (g.2.1 k hk hk)
theorem goodR_no3 {r : ByteArray} {i k : Nat} (hi : i < k) (hk : k < r.size) (h : r[i].toNat = r[k].toNat) : ¬ GoodR r := fun g => g.2.2 i k hi hk (by omega) hk h
theorem iff_false_of {P : Prop} (h : ¬ P) : (false = true ↔ P) := ⟨fun e => absurd e Bool.false_ne_true, fun p => absurd p h⟩
theorem iff_true_of {P : Prop} (h : P) : (true = true ↔ P) := ⟨fun _ => h, fun _ => rfl⟩
/-- A bool that tells P. -/
def BIff (P : Prop) (w : World) (e : Ending) (w' : World) : Prop := ∃ b, e = .returned (.bool b) ∧ (b = true ↔ P) ∧ Below w.heap.size w w'
theorem biff_no {P : Prop} {w w' : World} (h : ¬ P) (hb : Below w.heap.size w w') : BIff P w (.returned (.bool false)) w' := ⟨false, rfl, iff_false_of h, hb⟩
theorem biff_yes {P : Prop} {w w' : World} (h : P) (hb : Below w.heap.size w w') : BIff P w (.returned (.bool true)) w' := ⟨true, rfl, iff_true_of h, hb⟩
theorem mask_has {r : ByteArray} {k j : Nat} (hk : k ≤ r.size) (hok : okP r k) : (maskE (r.data.toList.take k)).testBit j = true ↔ ∃ i, ∃ h : i < k, (r[i]'(by omega)).toNat = j + 49 := by
  rw [maskE_bit, List.any_eq_true]
  constructor
  · rintro ⟨b, hb, he⟩
    rw [decide_eq_true_eq] at he
    obtain ⟨i, hi, rfl⟩ := List.getElem_of_mem hb
    rw [List.length_take, bytes_len] at hi
    have hir : i < r.size := by omega
    have h1 := (hok.1 i (by omega) hir).1
    rw [List.getElem_take, bytes_get r i hir] at he
    exact ⟨i, by omega, by omega⟩
  · rintro ⟨i, hi, he⟩
    have hir : i < r.size := by omega
    refine ⟨r[i], ?_, by rw [decide_eq_true_eq]; omega⟩
    rw [← bytes_get r i hir]
    rw [List.mem_iff_getElem]
    exact ⟨i, by rw [List.length_take, bytes_len]; omega, by rw [List.getElem_take]⟩
theorem mask_lt8 {r : ByteArray} {k : Nat} (hk : k ≤ r.size) (hr : r.size ≤ 8) (hok : okP r k) : maskE (r.data.toList.take k) < 256 := by
  refine maskE_lt _ (fun b hb => ?_)
  obtain ⟨i, hi, rfl⟩ := List.getElem_of_mem hb
  rw [List.length_take, bytes_len] at hi
  have hir : i < r.size := by omega
  have h1 := (hok.1 i (by omega) hir).2
  rw [List.getElem_take, bytes_get r i hir]
  omega
set_option maxRecDepth 10000 in
set_option maxHeartbeats 4000000 in
theorem goodRow_iff (r : ByteArray) (w : World) (hr : r.size ≤ maxLen) : Calls Tryz.prog 81 #[.string r] w (BIff (GoodR r) w) := by
  unfold maxLen at hr
  have Hst := Lib.hid (fun W => isStage_any (r.size : Int) W)
  by_cases hs : 3 ≤ r.size ∧ r.size ≤ 8
  rotate_left
  · rw [show decide (3 ≤ (r.size : Int) ∧ (r.size : Int) ≤ 8) = false from decide_eq_false (by omega)] at Hst
    have Hno := Lib.hid (goodR_no1 hs)
    clear hs
    go_enter Tryz.func81, Tryz.ntmps81
    go_wp2_with (go_at_call 79; refine (Hst.out _).mono ?_; rintro e w' ⟨rfl, rfl⟩)
    go_ret
    exact biff_no Hno.out (Below.refl _ _)
  rw [show decide (3 ≤ (r.size : Int) ∧ (r.size : Int) ≤ 8) = true from decide_eq_true (by omega)] at Hst
  go_enter Tryz.func81, Tryz.ntmps81
  go_wp2_with (go_at_call 79; refine (Hst.out _).mono ?_; rintro e w' ⟨rfl, rfl⟩)
  go_loop [3, 12] (fun s i => ∃ k : Nat, k ≤ r.size ∧ i = .int .i64 k ∧ s = .int .i64 ((maskE (r.data.toList.take k) : Nat) : Int) ∧ Hid (okP r k)) (fun _ i => r.size - (intOf i).toNat)
  case atStart => exact ⟨0, by omega, rfl, rfl, Lib.hid (okP_zero r)⟩
  case round =>
    obtain ⟨k, hk, rfl, rfl, Hok⟩ := hrel
    by_cases hlt : k < r.size
    rotate_left
    · obtain rfl : k = r.size := by omega
      have Hy : Hid (GoodR r) := Lib.hid ⟨hs, Hok.out⟩
      go_wp2_with fail
      go_ret
      exact biff_yes Hy.out (Below.refl _ _)
    have hkl : k < r.data.toList.length := by rw [bytes_len]; exact hlt
    have Hn2 := Lib.hid (fun h => goodR_no2 hlt h)
    have hc8 := r[k].toNat_lt
    have Hs : Hid (maskE (r.data.toList.take (k + 1)) = maskE (r.data.toList.take k) ||| 2 ^ (r[k].toNat - 49)) := Lib.hid (by rw [List.take_succ_eq_append_getElem hkl, maskE_snoc, bytes_get r k hlt])
    have hM := mask_lt8 hk hs.2 Hok.out
    have Hbit := Lib.hid (fun j => mask_has (j := j) hk Hok.out)
    obtain ⟨M, hMe⟩ : ∃ M, M = maskE (r.data.toList.take k) := ⟨_, rfl⟩
    rw [← hMe] at hM Hs Hbit ⊢
    by_cases h49 : r[k].toNat < 49
    · have Hno := Lib.hid (Hn2.out (by omega))
      have hI : (r[k].toNat : Int) - 49 < 0 := by omega
      have hd : decide ((r[k].toNat : Int) - 49 < 0) = true := decide_eq_true hI
      have hd2 : decide ((r[k].toNat : Int) < 49) = true := decide_eq_true (by omega)
      have hI2 : (r[k].toNat : Int) < 49 := by omega
      clear hMe h49
      go_wp2_with fail
      go_ret
      exact biff_no Hno.out (Below.refl _ _)
    · obtain ⟨j, hj⟩ : ∃ j, r[k].toNat = j + 49 := ⟨r[k].toNat - 49, by omega⟩
      have hjI : (r[k].toNat : Int) = (j : Int) + 49 := by omega
      have hj2 : (r[k].toNat : Int) - 49 = (j : Int) := by omega
      have hj0 : decide ((j : Int) < 0) = false := by simp
      by_cases hjn : j < r.size
      rotate_left
      · have Hno := Lib.hid (Hn2.out (by omega))
        have hd : (r.size : Int) ≤ (j : Int) := by omega
        clear hMe h49 hjn hj
        go_wp2_with fail
        go_ret
        exact biff_no Hno.out (Below.refl _ _)
      · have hjn' : (j : Int) < (r.size : Int) := by omega
        have hj8 : j < 8 := by omega
        have hb := bit_test M j (by omega)
        have Hr1 : Hid (49 ≤ r[k].toNat ∧ r[k].toNat ≤ 48 + r.size) := Lib.hid (by omega)
        have Hj := Lib.hid hj
        rw [hj, Nat.add_sub_cancel] at Hs
        have ho := i64E_or_nat M (2 ^ j) (by omega) (Nat.lt_of_lt_of_le (Nat.pow_lt_pow_right (by omega) hj8) (by omega))
        have Ho := Lib.hid ho
        have Hw : Hid (wrap64 ((2 : Int) ^ j) = ((2 ^ j : Nat) : Int)) := Lib.hid (by
          have h1 : 2 ^ j < 2 ^ 8 := Nat.pow_lt_pow_right (by omega) hj8
          have e : (2 : Int) ^ j = ((2 ^ j : Nat) : Int) := by simp
          rw [e]
          generalize 2 ^ j = p at h1
          exact IntWalk.wrap64_in _ ⟨by omega, by omega⟩)
        cases hbt : M.testBit j
        · rw [hbt] at hb
          have Hnx : Hid (okP r (k + 1)) := Lib.hid (okP_succ Hok.out hlt Hr1.out (fun i hi e => by
            have := (Hbit.out j).2 ⟨i, hi, by rw [e, Hj.out]⟩
            rw [hbt] at this
            cases this))
          clear hMe h49 hj hbt ho
          go_wp2_with fail
          refine ⟨⟨k + 1, by omega, by go_num, ?_, Hnx⟩, by simp [intOf]; omega⟩
          rw [Hw.out, Ho.out, Hs.out]
        · rw [hbt] at hb
          have Hno : Hid (¬ GoodR r) := Lib.hid (by
            obtain ⟨i, hi, he⟩ := (Hbit.out j).1 hbt
            exact goodR_no3 hi hlt (by rw [he, Hj.out]))
          clear hMe h49 hj hbt ho
          go_wp2_with fail
          all_goals (go_ret; exact biff_no Hno.out (Below.refl _ _))
set_option maxRecDepth 10000 in
set_option maxHeartbeats 4000000 in
theorem l1Row_iff (r : ByteArray) (w : World) (hr : r.size ≤ maxLen) : Calls Tryz.prog 118 #[.string r] w (BIff (GoodR r) w) := by
  unfold maxLen at hr
  have HI := Lib.hid (fun W => l1In_any (r.size : Int) 3 8 W)
  by_cases hs : 3 ≤ r.size ∧ r.size ≤ 8
  rotate_left
  · rw [show decide (3 ≤ (r.size : Int) ∧ (r.size : Int) ≤ 8) = false from decide_eq_false (by omega)] at HI
    have Hno := Lib.hid (goodR_no1 hs)
    clear hs
    go_enter Tryz.func118, Tryz.ntmps118
    go_wp2_with (go_at_call 43; refine (HI.out _).mono ?_; rintro e w' ⟨rfl, rfl⟩)
    go_ret
    exact biff_no Hno.out (Below.refl _ _)
  rw [show decide (3 ≤ (r.size : Int) ∧ (r.size : Int) ≤ 8) = true from decide_eq_true (by omega)] at HI
  have Hs := Lib.hid hs
  have hr8 : r.size ≤ 8 := hs.2
  clear hs
  go_enter Tryz.func118, Tryz.ntmps118
  go_wp2_with (go_at_call 43; refine (HI.out _).mono ?_; rintro e w' ⟨rfl, rfl⟩)
  go_loopw [3] (fun x wr => ∃ k : Nat, k ≤ r.size ∧ x = .int .i64 k ∧ Below w.heap.size w wr ∧ Hid (okP r k)) (fun x _ => r.size - (intOf x).toNat)
  case atStart => exact ⟨0, by omega, rfl, Below.refl _ _, Lib.hid (okP_zero r)⟩
  case round =>
    obtain ⟨k, hk, rfl, hB, Hok⟩ := hrel
    by_cases hlt : k < r.size
    rotate_left
    · obtain rfl : k = r.size := by omega
      have Hy : Hid (GoodR r) := Lib.hid ⟨Hs.out, Hok.out⟩
      go_wp2_with fail
      go_ret
      exact biff_yes Hy.out hB
    have Hn2 := Lib.hid (fun h => goodR_no2 hlt h)
    have hlt8 := r[k].toNat_lt
    by_cases h49 : r[k].toNat < 49
    · have Hno := Lib.hid (Hn2.out (by omega))
      have h1 : (r[k].toNat : Int) < 49 := by omega
      have hd1 : decide ((r[k].toNat : Int) < 49) = true := decide_eq_true h1
      clear h49
      go_wp2_with fail
      go_ret
      exact biff_no Hno.out hB
    have h1 : ¬ (r[k].toNat : Int) < 49 := by omega
    have hd1 : decide ((r[k].toNat : Int) < 49) = false := decide_eq_false h1
    have hv : IntKind.u8.wrap ((r[k].toNat : Int) - 48) = (r[k].toNat : Int) - 48 := IntWalk.u8_in _ ⟨by omega, by omega⟩
    by_cases hbig : r.size + 48 < r[k].toNat
    · have Hno := Lib.hid (Hn2.out (by omega))
      have h2 : (r.size : Int) < (r[k].toNat : Int) - 48 := by omega
      have hd2 : decide ((r.size : Int) < (r[k].toNat : Int) - 48) = true := decide_eq_true h2
      clear h49 hbig
      go_wp2_with fail
      go_ret
      exact biff_no Hno.out hB
    have Hr1 : Hid (49 ≤ r[k].toNat ∧ r[k].toNat ≤ 48 + r.size) := Lib.hid (by omega)
    have h2 : ¬ (r.size : Int) < (r[k].toNat : Int) - 48 := by omega
    have hd2 : decide ((r.size : Int) < (r[k].toNat : Int) - 48) = false := decide_eq_false h2
    clear h49 hbig
    go_wp2_with fail
    obtain ⟨wo, hwo⟩ : ∃ wo : World, wo = wr := ⟨_, rfl⟩
    go_loopw [4] (fun x w' => ∃ q : Nat, q ≤ k ∧ x = .int .i64 q ∧ Below w.heap.size w w' ∧ Hid (∀ i, i < q → ∀ h : i < r.size, r[i].toNat ≠ r[k].toNat)) (fun x _ => k - (intOf x).toNat)
    case atStart => exact ⟨0, by omega, rfl, hB, Lib.hid (fun i hi => absurd hi (Nat.not_lt_zero _))⟩
    case round =>
      obtain ⟨q, hq, rfl, hB2, Hne⟩ := hrel
      by_cases hlt2 : q < k
      · have hqr : q < r.size := by omega
        have hq0 : (q : Int) < (k : Int) := by omega
        by_cases he : r[q].toNat = r[k].toNat
        · have Hno := Lib.hid (goodR_no3 hlt2 hlt he)
          have hne2 : ((r[q].toNat : Int) == (r[k].toNat : Int)) = true := by simp; omega
          clear he
          go_wp2_with fail
          go_big_quiet (fail)
          go_wp2_with fail
          go_ret
          exact biff_no Hno.out (bw_dr hB2 _)
        · have Hn3 := Lib.hid he
          have hne2 : ((r[q].toNat : Int) == (r[k].toNat : Int)) = false := by simp; omega
          clear he
          go_wp2_with fail
          go_big_quiet (fail)
          go_wp2_with fail
          refine ⟨⟨q + 1, by omega, by go_num, bw_dr hB2 _, Lib.hid (fun i hi his => ?_)⟩, by simp [intOf]; omega⟩
          by_cases e : i = q
          · subst e; exact Hn3.out
          · exact Hne.out i (by omega) his
      · obtain rfl : q = k := by omega
        have Hnx : Hid (okP r (q + 1)) := Lib.hid (okP_succ Hok.out hlt Hr1.out (fun i hi => Hne.out i hi (by omega)))
        go_wp2_with fail
        exact ⟨⟨q + 1, by omega, by go_num, hB2, Hnx⟩, by simp [intOf]; omega⟩
/-- Good rows of one stage. -/
def GoodRs (l : List ByteArray) : Prop := l.length ≤ 800 ∧ ∀ (k : Nat) (h : k < l.length), GoodR l[k] ∧ l[k].size = (l[0]'(by omega)).size
set_option maxRecDepth 10000 in
theorem isRowOf_iff (n : Nat) (r : ByteArray) (w : World) (hr : r.size ≤ maxLen) : Calls Tryz.prog 115 #[.int .i64 n, .string r] w (BIff (r.size = n ∧ GoodR r) w) := by
  by_cases hn : r.size = n
  · have e1 : ((r.size : Int) == (n : Int)) = true := by simp; omega
    have Hg := Lib.hid (fun W => goodRow_iff r W hr)
    have Hn := Lib.hid hn
    unfold maxLen at hr
    clear hn
    go_enter Tryz.func115, Tryz.ntmps115
    go_wp2_with fail
    refine (Hg.out _).mono ?_; rintro e w' ⟨b, rfl, hb, hB⟩
    have Hb : Hid (b = true ↔ r.size = n ∧ GoodR r) := Lib.hid (by rw [hb]; exact ⟨fun h => ⟨Hn.out, h⟩, fun h => h.2⟩)
    clear hb
    cases b
    all_goals
      go_wp2_with fail
      go_ret
      exact ⟨_, rfl, by simpa using Hb.out, hB⟩
  · have e1 : ((r.size : Int) == (n : Int)) = false := by simp; omega
    have Hno : Hid (¬ (r.size = n ∧ GoodR r)) := Lib.hid (fun h => hn h.1)
    unfold maxLen at hr
    clear hn
    go_enter Tryz.func115, Tryz.ntmps115
    go_wp2_with fail
    go_ret
    exact biff_no Hno.out (Below.refl _ _)
theorem goodRs_no {l : List ByteArray} {k : Nat} (h : k < l.length) (hn : ¬ (GoodR l[k] ∧ l[k].size = (l[0]'(by omega)).size)) : ¬ GoodRs l := fun g => hn (g.2 k h)
def PreRs (l : List ByteArray) (k : Nat) : Prop := ∀ (i : Nat) (hi : i < l.length), i < k → GoodR l[i] ∧ l[i].size = (l[0]'(by omega)).size
set_option maxRecDepth 10000 in
set_option maxHeartbeats 4000000 in
theorem goodRows_iff (v : Value) (l : List ByteArray) (w : World) (hv : Strs w v l) (hf : Fits l) : Calls Tryz.prog 73 #[v] w (BIff (GoodRs l) w) := by
  obtain ⟨A, c, rfl, h1, h2, hr⟩ := hv
  unfold maxLen at h2
  have HR := Lib.hid hr
  clear hr
  by_cases h8 : l.length ≤ 800
  rotate_left
  · have Hno : Hid (¬ GoodRs l) := Lib.hid (fun g => h8 g.1)
    have hb : 800 < l.length := by omega
    clear h8
    go_enter Tryz.func73, Tryz.ntmps73
    go_wp2_with fail
    go_ret
    exact biff_no Hno.out (Below.refl _ _)
  go_enter Tryz.func73, Tryz.ntmps73
  go_wp2_with fail
  go_loopw [10] (fun i wr => ∃ k : Nat, k ≤ l.length ∧ i = .int .i64 k ∧ Below w.heap.size w wr ∧ Hid (PreRs l k)) (fun i _ => l.length - (intOf i).toNat)
  case atStart => exact ⟨0, by omega, rfl, Below.refl _ _, Lib.hid (fun i hi h => absurd h (Nat.not_lt_zero _))⟩
  case round =>
    obtain ⟨k, hk, rfl, hB, Hp⟩ := hrel
    by_cases hlt : k < l.length
    · obtain ⟨ad, rfl, hC⟩ := strs_el HR.out hlt
      obtain ⟨ad2, e2, hC0⟩ := strs_el HR.out (show 0 < l.length by omega)
      injection e2 with e2
      subst e2
      have q := hC wr hB
      have q0 := hC0 wr hB
      rw [add_zero'] at q0
      have hfk := hf _ (List.getElem_mem hlt)
      have Hno := Lib.hid (fun h => goodRs_no hlt h)
      have Hst : Hid (GoodR l[k] ∧ l[k].size = (l[0]'(by omega)).size → PreRs l (k + 1)) := Lib.hid (fun h i hi hik => by
        by_cases e : i = k
        · subst e; exact h
        · exact Hp.out i hi (by omega))
      obtain ⟨x, hx⟩ : ∃ x, x = l[k] := ⟨_, rfl⟩
      obtain ⟨y, hy⟩ : ∃ y, y = l[0]'(by omega) := ⟨_, rfl⟩
      rw [← hx] at q hfk Hno Hst
      rw [← hy] at q0 Hno Hst
      have Hg := Lib.hid (fun W => isRowOf_iff y.size x W hfk)
      clear hC hC0 hx hy
      go_wp2_with fail
      refine (Hg.out _).mono ?_; rintro e w' ⟨b, rfl, hb, hB2⟩
      cases b
      · have Hn2 : Hid (¬ GoodRs l) := Lib.hid (Hno.out (fun h => by have := hb.2 ⟨h.2, h.1⟩; cases this))
        clear hb
        go_wp2_with fail
        go_ret
        exact biff_no Hn2.out (bw_to hB hB2)
      · have Hy : Hid (PreRs l (k + 1)) := Lib.hid (by have h := hb.1 rfl; exact Hst.out ⟨h.2, h.1⟩)
        clear hb
        go_wp2_with fail
        exact ⟨⟨k + 1, by omega, by go_num, bw_to hB hB2, Hy⟩, by simp [intOf]; omega⟩
    · obtain rfl : k = l.length := by omega
      have Hy : Hid (GoodRs l) := Lib.hid ⟨h8, fun i hi => Hp.out i hi hi⟩
      go_wp2_with fail
      go_ret
      exact biff_yes Hy.out hB
set_option maxRecDepth 10000 in
set_option maxHeartbeats 4000000 in
theorem l6Rows_iff (v : Value) (l : List ByteArray) (w : World) (hv : Strs w v l) (hf : Fits l) : Calls Tryz.prog 84 #[v] w (BIff (GoodRs l) w) := by
  obtain ⟨A, c, rfl, h1, h2, hr⟩ := hv
  unfold maxLen at h2
  have HR := Lib.hid hr
  clear hr
  go_enter Tryz.func84, Tryz.ntmps84
  go_wp2_with fail
  go_loopw [7] (fun i wr => ∃ k : Nat, k ≤ l.length ∧ i = .int .i64 k ∧ Below w.heap.size w wr ∧ Hid (PreRs l k)) (fun i _ => l.length - (intOf i).toNat)
  case atStart => exact ⟨0, by omega, rfl, Below.refl _ _, Lib.hid (fun i hi h => absurd h (Nat.not_lt_zero _))⟩
  case round =>
    obtain ⟨k, hk, rfl, hB, Hp⟩ := hrel
    by_cases hlt : k < l.length
    · obtain ⟨ad, rfl, hC⟩ := strs_el HR.out hlt
      obtain ⟨ad2, e2, hC0⟩ := strs_el HR.out (show 0 < l.length by omega)
      injection e2 with e2
      subst e2
      have q := hC wr hB
      have hfk := hf _ (List.getElem_mem hlt)
      have Hno := Lib.hid (fun h => goodRs_no hlt h)
      have Hst : Hid (GoodR l[k] ∧ l[k].size = (l[0]'(by omega)).size → PreRs l (k + 1)) := Lib.hid (fun h i hi hik => by
        by_cases e : i = k
        · subst e; exact h
        · exact Hp.out i hi (by omega))
      have HC0 := Lib.hid hC0
      obtain ⟨x, hx⟩ : ∃ x, x = l[k] := ⟨_, rfl⟩
      obtain ⟨y, hy⟩ : ∃ y, y = l[0]'(by omega) := ⟨_, rfl⟩
      rw [← hx] at q hfk Hno Hst
      rw [← hy] at HC0 Hno Hst
      have Hg := Lib.hid (fun W => l1Row_iff x W hfk)
      clear hC hC0 hx hy
      go_wp2_with fail
      refine (Hg.out _).mono ?_; rintro e w' ⟨b, rfl, hb, hB2⟩
      have q0 := HC0.out w' (bw_to hB hB2)
      rw [add_zero'] at q0
      cases b
      · have Hn2 : Hid (¬ GoodRs l) := Lib.hid (Hno.out (fun h => by have := hb.2 h.1; cases this))
        clear hb
        go_wp2_with fail
        go_ret
        exact biff_no Hn2.out (bw_to hB hB2)
      · have HG : Hid (GoodR x) := Lib.hid (hb.1 rfl)
        clear hb
        by_cases he : x.size = y.size
        · have Hy : Hid (PreRs l (k + 1)) := Lib.hid (Hst.out ⟨HG.out, he⟩)
          have n1 : ((x.size : Int) != (y.size : Int)) = false := by rw [he]; simp
          clear he
          go_wp2_with fail
          exact ⟨⟨k + 1, by omega, by go_num, bw_to hB hB2, Hy⟩, by simp [intOf]; omega⟩
        · have Hn2 : Hid (¬ GoodRs l) := Lib.hid (Hno.out (fun h => he h.2))
          have n1 : ((x.size : Int) != (y.size : Int)) = true := by simp; omega
          clear he
          go_wp2_with fail
          go_ret
          exact biff_no Hn2.out (bw_to hB hB2)
    · obtain rfl : k = l.length := by omega
      by_cases h8 : l.length ≤ 800
      · have Hy : Hid (GoodRs l) := Lib.hid ⟨h8, fun i hi => Hp.out i hi hi⟩
        have hd : decide ((l.length : Int) ≤ 800) = true := decide_eq_true (by omega)
        clear h8
        go_wp2_with fail
        go_ret
        exact biff_yes Hy.out hB
      · have Hno : Hid (¬ GoodRs l) := Lib.hid (fun g => h8 g.1)
        have hd : decide ((l.length : Int) ≤ 800) = false := decide_eq_false (by omega)
        clear h8
        go_wp2_with fail
        go_ret
        exact biff_no Hno.out hB
end Go.Proofs.YtimeecimaokldaaGreatDoor

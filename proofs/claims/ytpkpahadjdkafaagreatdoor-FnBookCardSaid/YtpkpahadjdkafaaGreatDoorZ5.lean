/- Contracts: records' lines given by both sides; drawn records and lines. -/
import Derived.Test.YtpkpahadjdkafaaGreatDoorZ4
import Derived.Test.YtpkpahadjdkafaaGreatDoorZ0
import Derived.Test.YtpkpahadjdkafaaGreatDoorX2
namespace Go.Proofs.YtpkpahadjdkafaaGreatDoor
open Go Go.RowKit
set_option linter.unusedVariables false
set_option linter.unusedSimpArgs false

def linO (r : Rc) : ByteArray := if recB r then lineT r else ⟨#[]⟩
theorem linO_no {r : Rc} (h : recB r = false) : linO r = ⟨#[]⟩ := by unfold linO; rw [h]; rfl
theorem linO_yes {r : Rc} (h : recB r = true) : linO r = lineT r := by unfold linO; rw [if_pos h]
theorem ret_tb {a b : ByteArray} {p q : Bool} (h : a = b) (k : p = q) : Ending.returned (.tuple #[.string a, .bool p]) = .returned (.tuple #[.string b, .bool q]) := by rw [h, k]
theorem l28Line_agg (x : Rc) (w : World) (hx : recB x = true) : Calls Tryz.prog 19 #[.agg #[.int .i64 x.day, .string x.meth, .string x.touch, .int .i64 x.rows, .string x.note]] w fun e w' => e = .returned (.string (lineT x)) ∧ Below w.heap.size w w' := l28Line_any x w hx
set_option maxHeartbeats 1000000 in
theorem specRecordLine_any (r : Rc) (w : World) (hs : RcFit r) : Calls Tryz.prog 22 #[r.v] w fun e w' => e = .returned (.tuple #[.string (linO r), .bool (recB r)]) ∧ Below w.heap.size w w' := by
  unfold Rc.v
  go_enter Tryz.func22, Tryz.ntmps22
  go_wp2_with fail
  refine box1 (C := fun W => Calls _ _ _ W _) ?_
  intro wb hw k1 hB0
  have R1 := boxRule k1
  clear k1
  refine (l28Good_any r _ hs).mono ?_; rintro e w1 ⟨rfl, hb1⟩
  cases hr : recB r
  · have Hr := Lib.hid hr
    clear hr
    go_wp2_with fail
    go_ret2
    exact ⟨ret_tb (linO_no Hr.out).symm Hr.out.symm, bw_to hw hb1⟩
  · have Hr := Lib.hid hr
    clear hr
    go_wp2_with fail
    refine (l28Line_agg r _ Hr.out).mono ?_; rintro e w2 ⟨rfl, hb2⟩
    go_wp2_with fail
    go_ret2
    exact ⟨ret_tb (linO_yes Hr.out).symm Hr.out.symm, bw_to (bw_to hw hb1) hb2⟩
theorem cur_newZ {w wb : World} {C : Nat} {V : Value} (h : BytesAt w w.heap.size V) (hb : Below w.heap.size w wb) (hC : w.heap.size ≤ C) (hh : wb.heap[C]? = some (.cells #[V, .int .i64 0, .int .u64 0] 44 (0, 0))) : Cur wb C 0 :=
  ⟨V, 0, 0, (h.keep (fun p hp => hb.cell hp)).more hC, by omega, by omega, by omega, by omega, own_of_heap hh (Nat.le_refl _) (by unfold maxLen; omega) rfl⟩
theorem spoil_size {t : ByteArray} {i : Nat} (c : UInt8) (h : i < t.size) : (t.extract 0 i ++ ⟨#[c]⟩ ++ t.extract i t.size).size = t.size + 1 ∧ (t.extract 0 i ++ ⟨#[c]⟩ ++ t.extract (i + 1) t.size).size = t.size ∧ (t.extract 0 i ++ t.extract (i + 1) t.size).size = t.size - 1 := by
  have e : (⟨#[c]⟩ : ByteArray).size = 1 := rfl
  simp only [ByteArray.size_append, ByteArray.size_extract, e]
  omega
set_option maxRecDepth 10000 in
set_option maxHeartbeats 4000000 in
theorem spoilt_any (w : World) (C lim : Nat) (t q : ByteArray) (h : Cur w C lim) (hl : lim ≤ 100000000) (ht : t.size ≤ 1000000) (hq0 : 1 ≤ q.size) (hq : q.size ≤ 1000) : Calls Tryz.prog 24 #[.pointer (some ⟨C, 0, none⟩), .string t, .string q] w fun e w' =>
    ∃ u : ByteArray, e = .returned (.string u) ∧ u.size ≤ t.size + 2 ∧ Cur w' C (lim + 30) ∧ w.grownBy w' (some C) := by
  have H := Lib.hid h
  clear h
  go_enter Tryz.func24, Tryz.ntmps24
  go_wp2_with fail
  refine (pick_any _ C lim 2 H.out (by omega) (by omega) (by omega)).mono ?_; rintro e w1 ⟨z, rfl, hz, hc1, hg1⟩
  have C1 := Lib.hid hc1
  have G1 := Lib.hid hg1
  have hw1 : IntKind.i64.wrap (1 + z) = 1 + z := IntWalk.i64_in _ (by omega)
  clear hc1 hg1
  go_wp2_with fail
  go_loopw [1, 7] (fun s n wr => ∃ (k : Nat) (u : ByteArray), k ≤ 2 ∧ n = .int .i64 k ∧ s = .string u ∧ u.size + k ≤ t.size + 2 ∧ Cur wr C (lim + 20 - 6 * k) ∧ w.grownBy wr (some C)) (fun _ n _ => (intOf n).toNat)
  case atStart => exact ⟨(1 + z).toNat, t, by omega, congrArg (Value.int .i64) (by omega), rfl, by omega, C1.out.more (by omega), G1.out⟩
  case round =>
    obtain ⟨k, u, hk, rfl, rfl, hu, hc, hg⟩ := hrel
    have HC := Lib.hid hc
    have HG := Lib.hid hg
    clear hc hg
    by_cases hk0 : k = 0
    · subst hk0
      go_wp2_with fail
      go_ret
      exact ⟨u, rfl, by omega, HC.out.more (by omega), HG.out⟩
    have hkp : 0 < k := by omega
    by_cases hs0 : u.size = 0
    · go_wp2_with fail
      go_ret
      exact ⟨u, rfl, by omega, HC.out.more (by omega), HG.out⟩
    have hsp : 0 < u.size := by omega
    go_wp2_with fail
    refine (pick_any _ C _ u.size HC.out (by omega) (by omega) (by omega)).mono ?_; rintro e w2 ⟨i, rfl, hi, hc2, hg2⟩
    obtain ⟨i, rfl⟩ : ∃ i' : Nat, i = i' := ⟨i.toNat, by omega⟩
    have C2 := Lib.hid hc2
    have G2 := Lib.hid (gb_tr HG.out hg2)
    clear hc2 hg2
    go_wp2_with fail
    refine (pick_any _ C _ q.size C2.out (by omega) (by omega) (by omega)).mono ?_; rintro e w3 ⟨j, rfl, hj, hc3, hg3⟩
    obtain ⟨j, rfl⟩ : ∃ i' : Nat, j = i' := ⟨j.toNat, by omega⟩
    have C3 := Lib.hid hc3
    have G3 := Lib.hid (gb_tr G2.out hg3)
    clear hc3 hg3
    have hjl : j < q.size := by omega
    have hcv := fun W : World => byte_one Tryz.underlying22 Tryz.underlying5 Tryz.underlying9 (W.alloc (.cells #[.int .u8 (q[j].toNat : Int)] 5)) W.heap.size q[j] (heap_new W _)
    go_wp2_with fail
    refine (pick_any _ C _ 3 (C3.out.al _) (by omega) (by omega) (by omega)).mono ?_; rintro e w4 ⟨d, rfl, hd, hc4, hg4⟩
    have C4 := Lib.hid hc4
    have G4 := Lib.hid (gb_tr (gb_al G3.out _) hg4)
    have hil : i < u.size := by omega
    obtain ⟨z1, z2, z3⟩ := spoil_size q[j] hil
    have b1 : ¬ 9223372036854775807 < (u.extract 0 i).size + (⟨#[q[j]]⟩ : ByteArray).size := by
      have e : (⟨#[q[j]]⟩ : ByteArray).size = 1 := rfl
      rw [e, ByteArray.size_extract]; omega
    have b2 : ¬ 9223372036854775807 < (u.extract 0 i ++ ⟨#[q[j]]⟩).size + (u.extract i u.size).size := by rw [← ByteArray.size_append]; omega
    have b3 : ¬ 9223372036854775807 < (u.extract 0 i ++ ⟨#[q[j]]⟩).size + (u.extract (i + 1) u.size).size := by rw [← ByteArray.size_append]; omega
    have b4 : ¬ 9223372036854775807 < (u.extract 0 i).size + (u.extract (i + 1) u.size).size := by rw [← ByteArray.size_append]; omega
    have hw2 : IntKind.i64.wrap ((i : Int) + 1) = (i : Int) + 1 := IntWalk.i64_in _ (by omega)
    have hw3 : IntKind.i64.wrap ((k : Int) - 1) = (k : Int) - 1 := IntWalk.i64_in _ (by omega)
    have hi1 : (i : Int) + 1 ≤ (u.size : Int) := by omega
    have hi0 : (0 : Int) ≤ (i : Int) + 1 := by omega
    have hi2 : i ≤ u.size := by omega
    have hit : ((i : Int) + 1).toNat = i + 1 := by omega
    have hi3 : i + 1 ≤ u.size := by omega
    clear hcv hc4 hg4
    have hd3 : d = 0 ∨ d = 1 ∨ d = 2 := by omega
    rcases hd3 with rfl | rfl | rfl
    · go_wp2_with fail
      go_big_quiet (fail)
      go_wp2_with fail
      exact ⟨⟨k - 1, _, by omega, congrArg (Value.int .i64) (by omega), rfl, by omega, (C4.out.to (bw_dr (Below.refl _ _) nq)).more (by omega), gb_dr G4.out nq⟩, by simp [intOf]; omega⟩
    · go_wp2_with fail
      go_big_quiet (fail)
      go_wp2_with fail
      exact ⟨⟨k - 1, _, by omega, congrArg (Value.int .i64) (by omega), rfl, by omega, (C4.out.to (bw_dr (Below.refl _ _) nq)).more (by omega), gb_dr G4.out nq⟩, by simp [intOf]; omega⟩
    · go_wp2_with fail
      go_big_quiet (fail)
      go_wp2_with fail
      exact ⟨⟨k - 1, _, by omega, congrArg (Value.int .i64) (by omega), rfl, by omega, (C4.out.to (bw_dr (Below.refl _ _) nq)).more (by omega), gb_dr G4.out nq⟩, by simp [intOf]; omega⟩
end Go.Proofs.YtpkpahadjdkafaaGreatDoor

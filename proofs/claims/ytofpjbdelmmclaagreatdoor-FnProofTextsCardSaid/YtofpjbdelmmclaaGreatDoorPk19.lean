/- A row drawn; a text spoilt. -/
import Derived.Test.YtofpjbdelmmclaaGreatDoorPk1
import Derived.Test.YtofpjbdelmmclaaGreatDoorPk2
import Derived.Test.YtofpjbdelmmclaaGreatDoorPk5
import Derived.Test.YtofpjbdelmmclaaGreatDoorPk6
import Derived.Test.YtofpjbdelmmclaaGreatDoorPk15
namespace Go.Proofs.YtofpjbdelmmclaaGreatDoor
open Go Go.RowKit
set_option linter.unusedVariables false
set_option linter.unusedSimpArgs false

theorem byte_oneX {P : Program} {src dst e : TypeId} (hs : P.underlying src = some (.slice e)) (he : P.underlying e = some (.int .u8)) (hd : P.underlying dst = some .string) (W : World) (g : Nat) (c : UInt8) (hg : W.heap[g]? = some (.cells #[.int .u8 (c.toNat : Int)] e (0, 0))) :
    (convert src dst (.slice (some ⟨g, 0, none⟩) 1 1)).run P W = .ok (.string ⟨#[c]⟩) W := by
  refine run_convert_bytes_back W src dst e ⟨g, 0, none⟩ 1 [c] hs he hd (fun j hj => ?_)
  have : j = 0 := by simpa using hj
  subst this
  rw [Addr.add_lit, heap_cell hg]
  simp
theorem spoil_sizeX {t : ByteArray} {i : Nat} (c : UInt8) (h : i < t.size) : (t.extract 0 i ++ ⟨#[c]⟩ ++ t.extract i t.size).size = t.size + 1 ∧ (t.extract 0 i ++ ⟨#[c]⟩ ++ t.extract (i + 1) t.size).size = t.size ∧ (t.extract 0 i ++ t.extract (i + 1) t.size).size = t.size - 1 := by
  have e : (⟨#[c]⟩ : ByteArray).size = 1 := rfl
  simp only [ByteArray.size_append, ByteArray.size_extract, e]
  omega
set_option maxRecDepth 10000 in
set_option maxHeartbeats 4000000 in
theorem spoiltX_any (w : World) (C lim : Nat) (t q : ByteArray) (h : Cur w C lim) (hl : lim ≤ 100000000) (ht : t.size ≤ 1000000) (hq0 : 1 ≤ q.size) (hq : q.size ≤ 1000) : Calls Tryz.prog 46 #[.pointer (some ⟨C, 0, none⟩), .string t, .string q] w fun e w' =>
    ∃ u : ByteArray, e = .returned (.string u) ∧ u.size ≤ t.size + 2 ∧ Cur w' C (lim + 30) ∧ w.grownBy w' (some C) := by
  have H := Lib.hid h
  clear h
  go_enter Tryz.func46, Tryz.ntmps46
  go_wp2_with fail
  refine (pick_any _ C lim 2 H.out (by omega) (by omega) (by omega)).mono ?_; rintro e w1 ⟨z, rfl, hz, hc1, hg1⟩
  have C1 := Lib.hid hc1
  have G1 := Lib.hid hg1
  have hw1 : IntKind.i64.wrap (1 + z) = 1 + z := IntWalk.i64_in _ (by omega)
  clear hc1 hg1
  go_wp2_with fail
  go_loopw [1, 7] (fun s n wr => ∃ (k : Nat) (u : ByteArray), k ≤ 2 ∧ n = .int .i64 k ∧ s = .string u ∧ u.size + k ≤ t.size + 2 ∧ Cur wr C (lim + 20 - 6 * k) ∧ w.grownBy wr (some C)) (fun _ n _ => (intOf n).toNat)
  case atStart => exact ⟨(1 + z).toNat, t, by omega, congrArg (Value.int .i64) (by omega), rfl, by omega, C1.out.more (by omega), G1.out⟩
  case round =>
    obtain ⟨k, u, hk, rfl, rfl, hu, hc, hg⟩ := hrel
    have HC := Lib.hid hc
    have HG := Lib.hid hg
    clear hc hg
    by_cases hk0 : k = 0
    · subst hk0
      go_wp2_with fail
      go_ret
      exact ⟨u, rfl, by omega, HC.out.more (by omega), HG.out⟩
    have hkp : 0 < k := by omega
    by_cases hs0 : u.size = 0
    · go_wp2_with fail
      go_ret
      exact ⟨u, rfl, by omega, HC.out.more (by omega), HG.out⟩
    have hsp : 0 < u.size := by omega
    go_wp2_with fail
    refine (pick_any _ C _ u.size HC.out (by omega) (by omega) (by omega)).mono ?_; rintro e w2 ⟨i, rfl, hi, hc2, hg2⟩
    obtain ⟨i, rfl⟩ : ∃ i' : Nat, i = i' := ⟨i.toNat, by omega⟩
    have C2 := Lib.hid hc2
    have G2 := Lib.hid (gb_tr HG.out hg2)
    clear hc2 hg2
    go_wp2_with fail
    refine (pick_any _ C _ q.size C2.out (by omega) (by omega) (by omega)).mono ?_; rintro e w3 ⟨j, rfl, hj, hc3, hg3⟩
    obtain ⟨j, rfl⟩ : ∃ i' : Nat, j = i' := ⟨j.toNat, by omega⟩
    have C3 := Lib.hid hc3
    have G3 := Lib.hid (gb_tr G2.out hg3)
    clear hc3 hg3
    have hjl : j < q.size := by omega
    have hcv := fun W : World => byte_oneX Tryz.underlying22 Tryz.underlying5 Tryz.underlying9 (W.alloc (.cells #[.int .u8 (q[j].toNat : Int)] 5)) W.heap.size q[j] (heap_new W _)
    go_wp2_with fail
    refine (pick_any _ C _ 3 (C3.out.al _) (by omega) (by omega) (by omega)).mono ?_; rintro e w4 ⟨d, rfl, hd, hc4, hg4⟩
    have C4 := Lib.hid hc4
    have G4 := Lib.hid (gb_tr (gb_al G3.out _) hg4)
    have hil : i < u.size := by omega
    obtain ⟨z1, z2, z3⟩ := spoil_sizeX q[j] hil
    have b1 : ¬ 9223372036854775807 < (u.extract 0 i).size + (⟨#[q[j]]⟩ : ByteArray).size := by
      have e : (⟨#[q[j]]⟩ : ByteArray).size = 1 := rfl
      rw [e, ByteArray.size_extract]; omega
    have b2 : ¬ 9223372036854775807 < (u.extract 0 i ++ ⟨#[q[j]]⟩).size + (u.extract i u.size).size := by rw [← ByteArray.size_append]; omega
    have b3 : ¬ 9223372036854775807 < (u.extract 0 i ++ ⟨#[q[j]]⟩).size + (u.extract (i + 1) u.size).size := by rw [← ByteArray.size_append]; omega
    have b4 : ¬ 9223372036854775807 < (u.extract 0 i).size + (u.extract (i + 1) u.size).size := by rw [← ByteArray.size_append]; omega
    have hw2 : IntKind.i64.wrap ((i : Int) + 1) = (i : Int) + 1 := IntWalk.i64_in _ (by omega)
    have hw3 : IntKind.i64.wrap ((k : Int) - 1) = (k : Int) - 1 := IntWalk.i64_in _ (by omega)
    have hi1 : (i : Int) + 1 ≤ (u.size : Int) := by omega
    have hi0 : (0 : Int) ≤ (i : Int) + 1 := by omega
    have hi2 : i ≤ u.size := by omega
    have hit : ((i : Int) + 1).toNat = i + 1 := by omega
    have hi3 : i + 1 ≤ u.size := by omega
    clear hcv hc4 hg4
    have hd3 : d = 0 ∨ d = 1 ∨ d = 2 := by omega
    rcases hd3 with rfl | rfl | rfl
    · go_wp2_with fail
      go_big_quiet (fail)
      go_wp2_with fail
      exact ⟨⟨k - 1, _, by omega, congrArg (Value.int .i64) (by omega), rfl, by omega, (C4.out.to (bw_dr (Below.refl _ _) nq)).more (by omega), gb_dr G4.out nq⟩, by simp [intOf]; omega⟩
    · go_wp2_with fail
      go_big_quiet (fail)
      go_wp2_with fail
      exact ⟨⟨k - 1, _, by omega, congrArg (Value.int .i64) (by omega), rfl, by omega, (C4.out.to (bw_dr (Below.refl _ _) nq)).more (by omega), gb_dr G4.out nq⟩, by simp [intOf]; omega⟩
    · go_wp2_with fail
      go_big_quiet (fail)
      go_wp2_with fail
      exact ⟨⟨k - 1, _, by omega, congrArg (Value.int .i64) (by omega), rfl, by omega, (C4.out.to (bw_dr (Below.refl _ _) nq)).more (by omega), gb_dr G4.out nq⟩, by simp [intOf]; omega⟩
theorem stage_any (w : World) (C lim : Nat) (h : Cur w C lim) (hl : lim ≤ 100000000) : Calls Tryz.prog 100 #[.pointer (some ⟨C, 0, none⟩)] w (DrewInt w C (lim + 2) fun b => 3 ≤ b ∧ b ≤ 8) := by
  have H := Lib.hid h
  clear h
  go_enter Tryz.func100, Tryz.ntmps100
  go_wp2_with fail
  refine (among_at w C lim 9 _ [4, 4, 5, 5, 6, 6, 3, 7, 8] (by simp) H.out (by omega) rfl (by omega) (by omega)).mono ?_; rintro e w1 ⟨z, rfl, hz, hc1, hg1⟩
  have hz2 : 3 ≤ z ∧ z ≤ 8 := by simp at hz; rcases hz with rfl | rfl | rfl | rfl | rfl | rfl <;> decide
  have Hc1 := Lib.hid hc1
  have Hg1 := Lib.hid hg1
  clear hz hc1 hg1
  go_wp2_with fail
  go_ret
  exact ⟨z, rfl, hz2, Hc1.out, Hg1.out⟩
def fact8 : Nat → Nat
  | 0 => 1
  | n + 1 => (n + 1) * fact8 n
theorem l1FactX_any (n : Nat) (w : World) (hn : n ≤ 8) : Calls Tryz.prog 112 #[.int .i64 n] w fun e w' => e = .returned (.int .i64 (fact8 n)) ∧ w = w' := by
  go_enter Tryz.func112, Tryz.ntmps112
  go_wp2_with fail
  have hn9 : n = 0 ∨ n = 1 ∨ n = 2 ∨ n = 3 ∨ n = 4 ∨ n = 5 ∨ n = 6 ∨ n = 7 ∨ n = 8 := by omega
  go_loop [0, 3] (fun a f => ∃ k : Nat, k ≤ n ∧ a = .int .i64 k ∧ ∃ z : Nat, f = .int .i64 z ∧ z * fact8 k = fact8 n ∧ 1 ≤ z ∧ z ≤ 40320) (fun a _ => (intOf a).toNat)
  case atStart => exact ⟨n, by omega, rfl, 1, rfl, by omega, by omega, by omega⟩
  case round =>
    obtain ⟨k, hk, rfl, z, rfl, hz, hz1, hz2⟩ := hrel
    have hk9 : k = 0 ∨ k = 1 ∨ k = 2 ∨ k = 3 ∨ k = 4 ∨ k = 5 ∨ k = 6 ∨ k = 7 ∨ k = 8 := by omega
    by_cases hlt : 1 < k
    · obtain ⟨k', rfl⟩ : ∃ k', k = k' + 1 := ⟨k - 1, by omega⟩
      have e1 : (z * (k' + 1)) * fact8 k' = fact8 n := by rw [← hz]; show _ = z * ((k' + 1) * fact8 k'); rw [Nat.mul_assoc]
      have hb : z * (k' + 1) ≤ 40320 := by
        have h1 : 1 ≤ fact8 k' := by
          have : k' = 1 ∨ k' = 2 ∨ k' = 3 ∨ k' = 4 ∨ k' = 5 ∨ k' = 6 ∨ k' = 7 := by omega
          rcases this with rfl | rfl | rfl | rfl | rfl | rfl | rfl <;> decide
        have h2 : fact8 n ≤ 40320 := by rcases hn9 with rfl | rfl | rfl | rfl | rfl | rfl | rfl | rfl | rfl <;> decide
        have h3 := Nat.le_mul_of_pos_right (z * (k' + 1)) h1
        omega
      have hb1 : 1 ≤ z * (k' + 1) := Nat.mul_pos (by omega) (by omega)
      have hw : IntKind.i64.wrap ((z : Int) * ((k' + 1 : Nat) : Int)) = ((z * (k' + 1) : Nat) : Int) := by
        rw [← Int.natCast_mul]; exact IntWalk.i64_in _ (by omega)
      have hlt' : (1 : Int) < ((k' + 1 : Nat) : Int) := by omega
      have E1 := Lib.hid e1
      clear hz e1 hk9 hn9
      go_wp2_with fail
      exact ⟨⟨k', by omega, by simp, z * (k' + 1), congrArg (Value.int .i64) (by rw [show ((k' : Int) + 1) = ((k' + 1 : Nat) : Int) by omega, ← Int.natCast_mul]; generalize z * (k' + 1) = p at hb hb1; unfold wrap64; omega), E1.out, hb1, hb⟩, by simp [intOf]⟩
    · have e2 : z = fact8 n := by
        have : k = 0 ∨ k = 1 := by omega
        rcases this with rfl | rfl
        · simpa [fact8] using hz
        · simpa [fact8] using hz
      have hlt' : ¬ (1 : Int) < (k : Int) := by omega
      subst e2
      clear hz hk9 hn9
      go_wp2_with fail
      go_ret
      exact ⟨rfl, rfl⟩
set_option maxRecDepth 10000 in
set_option maxHeartbeats 4000000 in
theorem RowOf_any (n k : Nat) (w : World) (h3 : 3 ≤ n) (h8 : n ≤ 8) (hk : k < fact8 n) : Calls Tryz.prog 111 #[.int .i64 n, .int .i64 k] w fun e w' => ∃ r : ByteArray, e = .returned (.tuple #[.string r, .bool true]) ∧ r.size = n ∧ Below w.heap.size w w' := by
  have Hf := Lib.hid (fun (m : Nat) (hm : m ≤ 8) W => l1FactX_any m W hm)
  have hf8 : fact8 n ≤ 40320 := by
    have hn9 : n = 3 ∨ n = 4 ∨ n = 5 ∨ n = 6 ∨ n = 7 ∨ n = 8 := by omega
    rcases hn9 with rfl | rfl | rfl | rfl | rfl | rfl <;> decide
  have hd1 : decide ((3 : Int) ≤ n ∧ (n : Int) ≤ 8) = true := decide_eq_true (by omega)
  have hd2 : decide ((0 : Int) ≤ k ∧ (k : Int) ≤ (fact8 n : Int) - 1) = true := decide_eq_true (by omega)
  have hwf : IntKind.i64.wrap ((fact8 n : Int) - 1) = (fact8 n : Int) - 1 := IntWalk.i64_in _ (by omega)
  have Hk := Lib.hid hk
  clear hk
  go_enter Tryz.func111, Tryz.ntmps111
  go_wp2_with (first | (go_at_call 68; refine (l1In_any _ _ _ _).mono ?_; rintro e w' ⟨rfl, rfl⟩; first | rw [hd1] | rw [hd2]) | (go_at_call 112; refine (Hf.out n h8 _).mono ?_; rintro e w' ⟨rfl, rfl⟩) | (go_at_call 109; refine (l1Rounds_any n _ h8).mono ?_; rintro e w' ⟨rfl, rfl⟩))
  go_loopw [1, 6, 7] (fun s1 s6 s7 wr => ∃ (x y : ByteArray) (j : Nat), s6 = .string x ∧ s7 = .string y ∧ s1 = .int .i64 j ∧ x.size + y.size = n ∧ j < fact8 x.size ∧ Below w.heap.size w wr) (fun _ s6 _ _ => match s6 with | .string x => x.size | _ => 0)
  case atStart => exact ⟨roundsB n, ⟨#[]⟩, k, rfl, rfl, rfl, by rw [rounds_size h8]; rfl, by rw [rounds_size h8]; exact Hk.out, Below.refl _ _⟩
  case round =>
    obtain ⟨x, y, j, rfl, rfl, rfl, hxy, hj, hB⟩ := hrel
    by_cases h0 : x.size = 0
    · have hl : ¬ (0 : Int) < (x.size : Int) := by omega
      go_wp2_with fail
      go_ret2
      exact ⟨y, rfl, by omega, hB⟩
    · obtain ⟨m, hm⟩ : ∃ m, x.size = m + 1 := ⟨x.size - 1, by omega⟩
      have hl : (0 : Int) < (x.size : Int) := by omega
      have hm8 : m ≤ 7 := by omega
      have hwm : IntKind.i64.wrap ((x.size : Int) - 1) = (m : Int) := by rw [hm]; exact (IntWalk.i64_in _ (by omega)).trans (by omega)
      rw [hm] at hj
      obtain ⟨f, hf⟩ : ∃ f, f = fact8 m := ⟨_, rfl⟩
      have hfm : fact8 (m + 1) = (m + 1) * f := by rw [hf]; rfl
      rw [hfm] at hj
      have hf1 : 1 ≤ f := by
        rw [hf]
        have hn9 : m = 0 ∨ m = 1 ∨ m = 2 ∨ m = 3 ∨ m = 4 ∨ m = 5 ∨ m = 6 ∨ m = 7 := by omega
        rcases hn9 with rfl | rfl | rfl | rfl | rfl | rfl | rfl | rfl <;> decide
      have hf2 : f ≤ 5040 := by
        rw [hf]
        have hn9 : m = 0 ∨ m = 1 ∨ m = 2 ∨ m = 3 ∨ m = 4 ∨ m = 5 ∨ m = 6 ∨ m = 7 := by omega
        rcases hn9 with rfl | rfl | rfl | rfl | rfl | rfl | rfl | rfl <;> decide
      have Hfm := Lib.hid (fun W => Hf.out m (by omega) W)
      rw [← hf] at Hfm
      have hi : j / f < m + 1 := Nat.div_lt_of_lt_mul (by rw [Nat.mul_comm]; exact hj)
      have hjf : j % f < f := Nat.mod_lt _ (by omega)
      have hjb : j ≤ 50000 := by
        have h1 : (m + 1) * f ≤ 8 * 5040 := Nat.mul_le_mul (by omega) hf2
        omega
      have hq : Int.tdiv (j : Int) (f : Int) = ((j / f : Nat) : Int) := rfl
      have hr : Int.tmod (j : Int) (f : Int) = ((j % f : Nat) : Int) := rfl
      obtain ⟨i, hid⟩ : ∃ i, i = j / f := ⟨_, rfl⟩
      obtain ⟨r, hrd⟩ : ∃ r, r = j % f := ⟨_, rfl⟩
      rw [← hid] at hi hq
      rw [← hrd] at hjf hr
      have hfz : ¬ ((f : Int) = 0) := by omega
      have hwq : IntKind.i64.wrap (i : Int) = (i : Int) := IntWalk.i64_in _ (by omega)
      have hwr : IntKind.i64.wrap (r : Int) = (r : Int) := IntWalk.i64_in _ (by omega)
      have hwi : IntKind.i64.wrap ((i : Int) + 1) = (i : Int) + 1 := IntWalk.i64_in _ (by omega)
      have hil : i < x.size := by omega
      have hi1 : (i : Int) + 1 ≤ (x.size : Int) := by omega
      have hi0 : (0 : Int) ≤ (i : Int) + 1 := by omega
      have hi2 : i ≤ x.size := by omega
      have hit : ((i : Int) + 1).toNat = i + 1 := by omega
      have hi3 : i + 1 ≤ x.size := by omega
      have b1 : ¬ 9223372036854775807 < y.size + (x.extract i (i + 1)).size := by rw [ByteArray.size_extract]; omega
      have b2 : ¬ 9223372036854775807 < (x.extract 0 i).size + (x.extract (i + 1) x.size).size := by rw [ByteArray.size_extract, ByteArray.size_extract]; omega
      have hz1 : (y ++ x.extract i (i + 1)).size = y.size + 1 := by rw [ByteArray.size_append, ByteArray.size_extract]; omega
      have hz2 : (x.extract 0 i ++ x.extract (i + 1) x.size).size = m := by rw [ByteArray.size_append, ByteArray.size_extract, ByteArray.size_extract]; omega
      have Hz1 := Lib.hid hz1
      have Hz2 := Lib.hid hz2
      have HF := Lib.hid hf
      have HM := Lib.hid hm
      clear hid hrd hf hj hz1 hz2 hfm hm
      go_wp2_with (first | (go_at_call 112; refine (Hfm.out _).mono ?_; rintro e w' ⟨rfl, rfl⟩))
      go_big_quiet (fail)
      go_wp2_with fail
      refine ⟨⟨_, _, r, rfl, rfl, rfl, ?_, ?_, bw_dr hB _⟩, ?_⟩
      · rw [Hz1.out, Hz2.out]; have := HM.out; omega
      · rw [Hz2.out, ← HF.out]; exact hjf
      · show (x.extract 0 i ++ x.extract (i + 1) x.size).size < x.size
        rw [Hz2.out]; have := HM.out; omega
set_option maxHeartbeats 2000000 in
theorem drawRow_any (w : World) (C lim n : Nat) (h : Cur w C lim) (hl : lim ≤ 100000000) (h3 : 3 ≤ n) (h8 : n ≤ 8) : Calls Tryz.prog 78 #[.pointer (some ⟨C, 0, none⟩), .int .i64 n] w (DrewStr w C (lim + 2) fun s => s.size = n) := by
  have H := Lib.hid h
  clear h
  have hf : 1 ≤ fact8 n ∧ fact8 n ≤ 40320 := by
    have hn9 : n = 3 ∨ n = 4 ∨ n = 5 ∨ n = 6 ∨ n = 7 ∨ n = 8 := by omega
    rcases hn9 with rfl | rfl | rfl | rfl | rfl | rfl <;> decide
  go_enter Tryz.func78, Tryz.ntmps78
  go_wp2_with fail
  refine (l1FactX_any n _ h8).mono ?_; rintro e w1 ⟨rfl, rfl⟩
  go_wp2_with fail
  refine (pick_any w C lim (fact8 n) H.out (by omega) (by omega) (by omega)).mono ?_; rintro e w2 ⟨b, rfl, hb, hc2, hg2⟩
  obtain ⟨k, rfl⟩ : ∃ k : Nat, b = k := ⟨b.toNat, by omega⟩
  have Hc2 := Lib.hid hc2
  have Hg2 := Lib.hid hg2
  clear hc2 hg2
  go_wp2_with fail
  refine (RowOf_any n k w2 h3 h8 (by omega)).mono ?_; rintro e w3 ⟨r, rfl, hr, hb3⟩
  have Hc3 := Lib.hid (Hc2.out.to hb3)
  have Hg3 := Lib.hid (gb_to Hg2.out hb3)
  have Hr := Lib.hid hr
  clear hb3 hb hr
  go_wp2_with fail
  go_ret
  exact ⟨r, rfl, Hr.out, Hc3.out, Hg3.out⟩
end Go.Proofs.YtofpjbdelmmclaaGreatDoor

/- Texts and methods marked; a variable that holds a method. -/
namespace Go.Proofs.YtofpjbdelmmclaaGreatDoor
open Go Go.RowKit
set_option linter.unusedVariables false
set_option linter.unusedSimpArgs false

def marksT (k n : Nat) : List ByteArray := (List.range n).map fun i => mText (k + i)
theorem marksT_length (k n : Nat) : (marksT k n).length = n := by simp [marksT]
theorem marksT_get {k n i : Nat} (h : i < (marksT k n).length) : (marksT k n)[i] = mText (k + i) := by simp [marksT]
theorem marksT_succ (k n : Nat) : marksT k (n + 1) = marksT k n ++ [mText (k + n)] := by simp [marksT, List.range_succ]
/-- A variable that holds a method. -/
def XBox (w : World) (G : Nat) (m : Mt) (r : Value) : Prop := w.ownsRow G 49 3 (.slice (some ⟨G, 0, none⟩) 1 1) 1 [.string m.name, .int .i64 m.stage, r]
theorem xbox_of {w : World} {G : Nat} {m : Mt} {r : Value} (h : w.heap[G]? = some (.cells #[.string m.name, .int .i64 m.stage, r] 49 (0, 0))) : XBox w G m r :=
  own_of_heap (base := G) (n := 1) (size := 3) h (Nat.le_refl _) (by unfold maxLen; omega) rfl
theorem xbox_c {w : World} {G : Nat} {m : Mt} {r : Value} (h : XBox w G m r) : w.cell? ⟨G, 0, none⟩ = some (.string m.name) ∧ w.cell? ⟨G, 1, none⟩ = some (.int .i64 m.stage) ∧ w.cell? ⟨G, 2, none⟩ = some r := by
  unfold XBox at h
  exact ⟨h.cellAt 0 (by omega), h.cellAt 1 (by omega), h.cellAt 2 (by omega)⟩
theorem xbox_f {w : World} {G : Nat} {m : Mt} {r : Value} (h : XBox w G m r) : w.frozen? ⟨G, 0, none⟩ = false ∧ w.frozen? ⟨G, 1, none⟩ = false ∧ w.frozen? ⟨G, 2, none⟩ = false := by
  unfold XBox at h
  exact ⟨h.frozenAt 0, h.frozenAt 1, h.frozenAt 2⟩
theorem xbox_to {w w' : World} {G : Nat} {m : Mt} {r : Value} (h : XBox w G m r) (hb : Below w.heap.size w w') : XBox w' G m r := own_to (by unfold XBox at h; exact h) hb
theorem xbox_row {w w' : World} {G : Nat} {m : Mt} {r v : Value} (h : XBox w G m r) (hg : w.grownBy w' v.ownBlock) (hne : v.ownBlock = none ∨ v.ownBlock ≠ some G) : XBox w' G m r := by
  refine World.ownsRow.kept (by unfold XBox at h; exact h) hg (.inr ?_)
  rcases hne with e | e
  · rw [e]; intro e'; cases e'
  · exact fun e' => e e'.symm
theorem strs_ownX {w : World} {base n : Nat} {e : TypeId} {v : Value} {zs : List ByteArray} (h : w.ownsRow base e 1 v n (zs.map Value.string)) : Strs w v zs := by
  have hl : zs.length = n := by have := h.1; simpa using this
  subst hl
  exact sl_of_own h
end Go.Proofs.YtofpjbdelmmclaaGreatDoor

/- Rows of rows of texts of the call's own: how they lie, marked, found held, compared. -/
namespace Go.Proofs.YtofpjbdelmmclaaGreatDoor
open Go Go.RowKit
set_option linter.unusedVariables false
set_option linter.unusedSimpArgs false

/-- A row of rows of texts of the call's own, with the rows' values. -/
def OwnSV (w : World) (base : Nat) (v : Value) (L : List (List ByteArray)) (vs : List Value) : Prop :=
  w.ownsRow base 24 1 v L.length vs ∧ ∀ i (h : i < L.length) (h' : i < vs.length), w.ownsRow base 9 1 vs[i] L[i].length (L[i].map Value.string)
def ApartV (vs : List Value) : Prop := vs.Pairwise fun p q => p.ownBlock = none ∨ p.ownBlock ≠ q.ownBlock
def OwnSD (w : World) (base : Nat) (v : Value) (L : List (List ByteArray)) : Prop := ∃ vs, OwnSV w base v L vs ∧ ApartV vs
theorem OwnSV.len {w : World} {base : Nat} {v : Value} {L : List (List ByteArray)} {vs : List Value} (h : OwnSV w base v L vs) : vs.length = L.length := by have := h.1.1; simpa using this
theorem OwnSV.to {w w' : World} {base : Nat} {v : Value} {L : List (List ByteArray)} {vs : List Value} (h : OwnSV w base v L vs) (hb : Below w.heap.size w w') : OwnSV w' base v L vs := ⟨own_to h.1 hb, fun i h1 h2 => own_to (h.2 i h1 h2) hb⟩
theorem OwnSV.base {w : World} {base b2 : Nat} {v : Value} {L : List (List ByteArray)} {vs : List Value} (h : OwnSV w base v L vs) (hb : b2 ≤ base) : OwnSV w b2 v L vs := ⟨own_base h.1 hb, fun i h1 h2 => own_base (h.2 i h1 h2) hb⟩
theorem OwnSV.nil (w : World) (base : Nat) : OwnSV w base (.slice none 0 0) [] [] := ⟨World.ownsRow_nil _ _ _ _, fun i h => absurd h (Nat.not_lt_zero _)⟩
theorem OwnSV.form {w : World} {base : Nat} {v : Value} {L : List (List ByteArray)} {vs : List Value} (h : OwnSV w base v L vs) : ∃ A c, v = .slice A L.length c := by obtain ⟨A, c, e, _⟩ := sl_of_own h.1; exact ⟨A, c, e⟩
theorem OwnSV.kept {w w' : World} {base : Nat} {row : Option Nat} {v : Value} {L : List (List ByteArray)} {vs : List Value} (h : OwnSV w base v L vs) (hg : w.grownBy w' row) (hr : ∀ k, row = some k → k < base ∨ w.heap.size ≤ k) : OwnSV w' base v L vs := by
  have key : ∀ {e : TypeId} {s n : Nat} {u : Value} {xs : List Value}, w.ownsRow base e s u n xs → w'.ownsRow base e s u n xs := by
    intro e s n u xs ho
    refine ho.kept hg ?_
    cases hb : u.ownBlock with
    | none => exact .inl rfl
    | some b => exact .inr fun e => by have := hr b e.symm; have := ho.lt b hb; omega
  exact ⟨key h.1, fun i h1 h2 => key (h.2 i h1 h2)⟩
/-- Blocks below a bound are as they were, and so are rows that lie below it. -/
theorem own_low {w w' : World} {base B n : Nat} {e : TypeId} {size : Nat} {v : Value} {xs : List Value} (h : w.ownsRow base e size v n xs) (hb : Below B w w') (hn : ∀ k, v.ownBlock = some k → k < B) : w'.ownsRow base e size v n xs := by
  obtain ⟨h1, h2⟩ := h
  refine ⟨h1, ?_⟩
  rcases h2 with h2 | ⟨g, cap, cur, rfl, hbase, hg, r⟩
  · exact .inl h2
  · exact .inr ⟨g, cap, cur, rfl, hbase, (hb.block g (hn g rfl)).trans hg, r⟩
theorem OwnSV.low {w0 w w' : World} {base B : Nat} {v : Value} {L : List (List ByteArray)} {vs : List Value} (h0 : OwnSV w0 base v L vs) (h : OwnSV w base v L vs) (hb : Below B w w') (hB : w0.heap.size ≤ B) : OwnSV w' base v L vs :=
  ⟨own_low h.1 hb (fun k hk => Nat.lt_of_lt_of_le (h0.1.lt k hk).2 hB), fun i h1 h2 => own_low (h.2 i h1 h2) hb (fun k hk => Nat.lt_of_lt_of_le ((h0.2 i h1 h2).lt k hk).2 hB)⟩
theorem OwnSV.push {wA w3 : World} {base : Nat} {V V2 x : Value} {L : List (List ByteArray)} {l : List ByteArray} {vs : List Value} (h : OwnSV wA base V L vs) (hx : wA.ownsRow base 9 1 x l.length (l.map Value.string))
    (h3 : w3.ownsRow base 24 1 V2 (L.length + 1) (vs ++ [x])) (hg : wA.grownBy w3 V.ownBlock) : OwnSV w3 base V2 (L ++ [l]) (vs ++ [x]) := by
  have hl := h.len
  refine ⟨by rw [List.length_append]; exact h3, fun i h1 h2 => ?_⟩
  rw [List.length_append, List.length_singleton] at h1
  rcases Nat.lt_or_ge i L.length with hlt | hge
  · rw [List.getElem_append_left (by omega), List.getElem_append_left hlt]
    have ho := h.2 i hlt (by omega)
    exact ho.kept hg (own_kinds' ho h.1 (by decide))
  · obtain rfl : i = L.length := by omega
    have e1 : (vs ++ [x])[L.length] = x := by rw [List.getElem_append_right (by omega)]; simp [hl]
    have e2 : (L ++ [l])[L.length] = l := by rw [List.getElem_append_right (by omega)]; simp
    rw [e1, e2]
    exact hx.kept hg (own_kinds' hx h.1 (by decide))
theorem ApartV.snoc {w : World} {base : Nat} {v x : Value} {L : List (List ByteArray)} {vs : List Value} (hA : ApartV vs) (h : OwnSV w base v L vs) (hx : ∀ k, x.ownBlock = some k → w.heap.size ≤ k) : ApartV (vs ++ [x]) := by
  unfold ApartV at hA ⊢
  rw [List.pairwise_append]
  refine ⟨hA, List.pairwise_cons.2 ⟨fun _ h => (by cases h), List.Pairwise.nil⟩, ?_⟩
  intro p hp q hq
  rw [List.mem_singleton.1 hq]
  obtain ⟨i, hi, rfl⟩ := List.getElem_of_mem hp
  have hl := h.len
  cases hb : (vs[i]).ownBlock with
  | none => exact .inl rfl
  | some b => exact .inr fun e => by have := hx b e.symm; have := ((h.2 i (by omega) hi).lt b hb).2; omega
theorem ApartV.ne {vs : List Value} (h : ApartV vs) {i k : Nat} (hi : i < vs.length) (hk : k < vs.length) (hne : i ≠ k) : (vs[i]).ownBlock = none ∨ (vs[i]).ownBlock ≠ (vs[k]).ownBlock := by
  have hp := List.pairwise_iff_getElem.1 h
  rcases Nat.lt_or_ge i k with hlt | hge
  · exact hp i k hi hk hlt
  · rcases hp k i hk hi (by omega) with e | e
    · cases hb : (vs[i]).ownBlock with
      | none => exact .inl rfl
      | some b => exact .inr (by rw [e]; simp)
    · exact .inr (fun x => e x.symm)
def endSS : Nat → List (List ByteArray) → Nat
  | q, [] => q
  | q, l :: t => endSS (q + l.length) t
def marksSS : Nat → List (List ByteArray) → List (List ByteArray)
  | _, [] => []
  | q, l :: t => marksT q l.length :: marksSS (q + l.length) t
theorem marksSS_len : ∀ (q : Nat) (L : List (List ByteArray)), (marksSS q L).length = L.length
  | _, [] => rfl
  | q, l :: t => by rw [marksSS, List.length_cons, List.length_cons, marksSS_len]
theorem endSS_le {B : Nat} : ∀ (q : Nat) (L : List (List ByteArray)), (∀ l ∈ L, l.length ≤ B) → endSS q L ≤ q + B * L.length
  | _, [], _ => by simp [endSS]
  | q, l :: t, h => by
    have h1 := h l (by simp)
    have h2 := endSS_le (q + l.length) t (fun x hx => h x (by simp [hx]))
    rw [endSS, List.length_cons, Nat.mul_add]; omega
theorem endSS_step : ∀ (q : Nat) (L : List (List ByteArray)) (k : Nat) (h : k < L.length), endSS q (L.take (k + 1)) = endSS q (L.take k) + (L[k]'h).length
  | _, [], _, h => absurd h (Nat.not_lt_zero _)
  | q, l :: t, 0, _ => by simp [endSS]
  | q, l :: t, k + 1, h => by
    rw [List.take_succ_cons, List.take_succ_cons, endSS, endSS, endSS_step _ t k (by simpa using h)]; rfl
theorem marksSS_get : ∀ (q : Nat) (L : List (List ByteArray)) (k : Nat) (h : k < L.length), (marksSS q L)[k]'(by rw [marksSS_len]; exact h) = marksT (endSS q (L.take k)) (L[k]'h).length
  | _, [], _, h => absurd h (Nat.not_lt_zero _)
  | q, l :: t, 0, _ => by simp [marksSS, endSS]
  | q, l :: t, k + 1, h => by
    have ih := marksSS_get (q + l.length) t k (by simpa using h)
    rw [List.take_succ_cons, endSS]
    exact ih
/-- The first k rows are marked. -/
def partSS (q : Nat) (L : List (List ByteArray)) (k : Nat) : List (List ByteArray) := (marksSS q L).take k ++ L.drop k
theorem partSS_zero (q : Nat) (L : List (List ByteArray)) : partSS q L 0 = L := by simp [partSS]
theorem partSS_all (q : Nat) (L : List (List ByteArray)) : partSS q L L.length = marksSS q L := by
  unfold partSS
  rw [List.take_of_length_le (by rw [marksSS_len]; omega), List.drop_of_length_le (by omega), List.append_nil]
theorem partSS_len (q : Nat) (L : List (List ByteArray)) (k : Nat) (h : k ≤ L.length) : (partSS q L k).length = L.length := by
  unfold partSS; simp [marksSS_len]; omega
theorem partSS_get (q : Nat) (L : List (List ByteArray)) (k : Nat) (h : k < L.length) : (partSS q L k)[k]'(by rw [partSS_len q L k (by omega)]; exact h) = L[k] := by
  unfold partSS
  rw [List.getElem_append_right (by simp [marksSS_len]; omega)]
  simp [marksSS_len, Nat.min_eq_left (Nat.le_of_lt h)]
theorem partSS_step (q : Nat) (L : List (List ByteArray)) (k : Nat) (h : k < L.length) : (partSS q L k).set k (marksT (endSS q (L.take k)) (L[k]'h).length) = partSS q L (k + 1) := by
  unfold partSS
  have e1 : (marksSS q L).take (k + 1) = (marksSS q L).take k ++ [marksT (endSS q (L.take k)) (L[k]'h).length] := by
    rw [List.take_succ_eq_append_getElem (by rw [marksSS_len]; exact h), marksSS_get q L k h]
  have e2 : L.drop k = L[k] :: L.drop (k + 1) := List.drop_eq_getElem_cons h
  have hl : ((marksSS q L).take k).length = k := by simp [marksSS_len]; omega
  rw [e1, e2, List.set_append_right _ _ (by omega), hl, Nat.sub_self, List.set_cons_zero, List.append_assoc]
  rfl
/-- One inner row is written. -/
theorem OwnSV.put {w w' : World} {base : Nat} {v : Value} {M : List (List ByteArray)} {vs : List Value} {k : Nat} (h : OwnSV w base v M vs) (hA : ApartV vs) (hk : k < M.length) (hkv : k < vs.length) {l : List ByteArray} (hl : l.length = M[k].length)
    (h2 : w'.ownsRow base 9 1 vs[k] l.length (l.map Value.string)) (hg : w.grownBy w' (vs[k]).ownBlock) : OwnSV w' base v (M.set k l) vs := by
  have hlen := h.len
  refine ⟨by rw [List.length_set]; exact h.1.kept hg (own_kinds' h.1 (h.2 k hk hkv) (by decide)), fun i h1 h3 => ?_⟩
  rw [List.length_set] at h1
  by_cases e : i = k
  · subst e
    rw [List.getElem_set_self]
    exact h2
  · rw [List.getElem_set_ne (fun x => e x.symm)]
    exact (h.2 i h1 h3).kept hg (hA.ne h3 hkv e)
theorem OwnSV.at {w : World} {base g c : Nat} {L : List (List ByteArray)} {vs : List Value} (h : OwnSV w base (.slice (some ⟨g, 0, none⟩) L.length c) L vs) {k : Nat} (hk : k < L.length) (hkv : k < vs.length) : w.cell? ⟨g, k, none⟩ = some vs[k] := by
  rw [h.1.cellAt k (by omega), List.getElem?_eq_getElem hkv]
theorem OwnSV.row {w : World} {base : Nat} {v : Value} {L : List (List ByteArray)} {vs : List Value} (h : OwnSV w base v L vs) : v = .slice none 0 0 ∧ L = [] ∨ ∃ g c, v = .slice (some ⟨g, 0, none⟩) L.length c ∧ base ≤ g ∧ L.length ≤ maxLen := by
  rcases h.1.2 with ⟨rfl, h0⟩ | ⟨g, cap, cur, rfl, hb, hh, hnc, hcm, _⟩
  · exact .inl ⟨rfl, List.eq_nil_of_length_eq_zero h0⟩
  · exact .inr ⟨g, cap, rfl, hb, Nat.le_trans hnc hcm⟩
end Go.Proofs.YtofpjbdelmmclaaGreatDoor

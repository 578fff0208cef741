/- A row drawn; a text spoilt. -/
import Derived.Test.YtofpjbdelmmclaaGreatDoorPk2
import Derived.Test.YtofpjbdelmmclaaGreatDoorPk3
import Derived.Test.YtofpjbdelmmclaaGreatDoorPk11
import Derived.Test.YtofpjbdelmmclaaGreatDoorPk1
import Derived.Maps.AppendAt
import Derived.WalkSpells
import Derived.Lib.Overlaps
import Derived.Lib.AppendZerosOnto
import Derived.Laws.NewBlocks
import Derived.Shelf.Spec.SlicesInsert
namespace Go.Proofs.YtofpjbdelmmclaaGreatDoor
open Go Go.RowKit
set_option linter.unusedVariables false
set_option linter.unusedSimpArgs false

theorem byte_oneX {P : Program} {src dst e : TypeId} (hs : P.underlying src = some (.slice e)) (he : P.underlying e = some (.int .u8)) (hd : P.underlying dst = some .string) (W : World) (g : Nat) (c : UInt8) (hg : W.heap[g]? = some (.cells #[.int .u8 (c.toNat : Int)] e (0, 0))) :
    (convert src dst (.slice (some ⟨g, 0, none⟩) 1 1)).run P W = .ok (.string ⟨#[c]⟩) W := by
  refine run_convert_bytes_back W src dst e ⟨g, 0, none⟩ 1 [c] hs he hd (fun j hj => ?_)
  have : j = 0 := by simpa using hj
  subst this
  rw [Addr.add_lit, heap_cell hg]
  simp
theorem spoil_sizeX {t : ByteArray} {i : Nat} (c : UInt8) (h : i < t.size) : (t.extract 0 i ++ ⟨#[c]⟩ ++ t.extract i t.size).size = t.size + 1 ∧ (t.extract 0 i ++ ⟨#[c]⟩ ++ t.extract (i + 1) t.size).size = t.size ∧ (t.extract 0 i ++ t.extract (i + 1) t.size).size = t.size - 1 := by
  have e : (⟨#[c]⟩ : ByteArray).size = 1 := rfl
  simp only [ByteArray.size_append, ByteArray.size_extract, e]
  omega
set_option maxRecDepth 10000 in
set_option maxHeartbeats 4000000 in
theorem spoiltX_any (w : World) (C lim : Nat) (t q : ByteArray) (h : Cur w C lim) (hl : lim ≤ 100000000) (ht : t.size ≤ 1000000) (hq0 : 1 ≤ q.size) (hq : q.size ≤ 1000) : Calls Tryz.prog 46 #[.pointer (some ⟨C, 0, none⟩), .string t, .string q] w fun e w' =>
    ∃ u : ByteArray, e = .returned (.string u) ∧ u.size ≤ t.size + 2 ∧ Cur w' C (lim + 30) ∧ w.grownBy w' (some C) := by
  have H := Lib.hid h
  clear h
  go_enter Tryz.func46, Tryz.ntmps46
  go_wp2_with fail
  refine (pick_any _ C lim 2 H.out (by omega) (by omega) (by omega)).mono ?_; rintro e w1 ⟨z, rfl, hz, hc1, hg1⟩
  have C1 := Lib.hid hc1
  have G1 := Lib.hid hg1
  have hw1 : IntKind.i64.wrap (1 + z) = 1 + z := IntWalk.i64_in _ (by omega)
  clear hc1 hg1
  go_wp2_with fail
  go_loopw [1, 7] (fun s n wr => ∃ (k : Nat) (u : ByteArray), k ≤ 2 ∧ n = .int .i64 k ∧ s = .string u ∧ u.size + k ≤ t.size + 2 ∧ Cur wr C (lim + 20 - 6 * k) ∧ w.grownBy wr (some C)) (fun _ n _ => (intOf n).toNat)
  case atStart => exact ⟨(1 + z).toNat, t, by omega, congrArg (Value.int .i64) (by omega), rfl, by omega, C1.out.more (by omega), G1.out⟩
  case round =>
    obtain ⟨k, u, hk, rfl, rfl, hu, hc, hg⟩ := hrel
    have HC := Lib.hid hc
    have HG := Lib.hid hg
    clear hc hg
    by_cases hk0 : k = 0
    · subst hk0
      go_wp2_with fail
      go_ret
      exact ⟨u, rfl, by omega, HC.out.more (by omega), HG.out⟩
    have hkp : 0 < k := by omega
    by_cases hs0 : u.size = 0
    · go_wp2_with fail
      go_ret
      exact ⟨u, rfl, by omega, HC.out.more (by omega), HG.out⟩
    have hsp : 0 < u.size := by omega
    go_wp2_with fail
    refine (pick_any _ C _ u.size HC.out (by omega) (by omega) (by omega)).mono ?_; rintro e w2 ⟨i, rfl, hi, hc2, hg2⟩
    obtain ⟨i, rfl⟩ : ∃ i' : Nat, i = i' := ⟨i.toNat, by omega⟩
    have C2 := Lib.hid hc2
    have G2 := Lib.hid (gb_tr HG.out hg2)
    clear hc2 hg2
    go_wp2_with fail
    refine (pick_any _ C _ q.size C2.out (by omega) (by omega) (by omega)).mono ?_; rintro e w3 ⟨j, rfl, hj, hc3, hg3⟩
    obtain ⟨j, rfl⟩ : ∃ i' : Nat, j = i' := ⟨j.toNat, by omega⟩
    have C3 := Lib.hid hc3
    have G3 := Lib.hid (gb_tr G2.out hg3)
    clear hc3 hg3
    have hjl : j < q.size := by omega
    have hcv := fun W : World => byte_oneX Tryz.underlying22 Tryz.underlying5 Tryz.underlying9 (W.alloc (.cells #[.int .u8 (q[j].toNat : Int)] 5)) W.heap.size q[j] (heap_new W _)
    go_wp2_with fail
    refine (pick_any _ C _ 3 (C3.out.al _) (by omega) (by omega) (by omega)).mono ?_; rintro e w4 ⟨d, rfl, hd, hc4, hg4⟩
    have C4 := Lib.hid hc4
    have G4 := Lib.hid (gb_tr (gb_al G3.out _) hg4)
    have hil : i < u.size := by omega
    obtain ⟨z1, z2, z3⟩ := spoil_sizeX q[j] hil
    have b1 : ¬ 9223372036854775807 < (u.extract 0 i).size + (⟨#[q[j]]⟩ : ByteArray).size := by
      have e : (⟨#[q[j]]⟩ : ByteArray).size = 1 := rfl
      rw [e, ByteArray.size_extract]; omega
    have b2 : ¬ 9223372036854775807 < (u.extract 0 i ++ ⟨#[q[j]]⟩).size + (u.extract i u.size).size := by rw [← ByteArray.size_append]; omega
    have b3 : ¬ 9223372036854775807 < (u.extract 0 i ++ ⟨#[q[j]]⟩).size + (u.extract (i + 1) u.size).size := by rw [← ByteArray.size_append]; omega
    have b4 : ¬ 9223372036854775807 < (u.extract 0 i).size + (u.extract (i + 1) u.size).size := by rw [← ByteArray.size_append]; omega
    have hw2 : IntKind.i64.wrap ((i : Int) + 1) = (i : Int) + 1 := IntWalk.i64_in _ (by omega)
    have hw3 : IntKind.i64.wrap ((k : Int) - 1) = (k : Int) - 1 := IntWalk.i64_in _ (by omega)
    have hi1 : (i : Int) + 1 ≤ (u.size : Int) := by omega
    have hi0 : (0 : Int) ≤ (i : Int) + 1 := by omega
    have hi2 : i ≤ u.size := by omega
    have hit : ((i : Int) + 1).toNat = i + 1 := by omega
    have hi3 : i + 1 ≤ u.size := by omega
    clear hcv hc4 hg4
    have hd3 : d = 0 ∨ d = 1 ∨ d = 2 := by omega
    rcases hd3 with rfl | rfl | rfl
    · go_wp2_with fail
      go_big_quiet (fail)
      go_wp2_with fail
      exact ⟨⟨k - 1, _, by omega, congrArg (Value.int .i64) (by omega), rfl, by omega, (C4.out.to (bw_dr (Below.refl _ _) nq)).more (by omega), gb_dr G4.out nq⟩, by simp [intOf]; omega⟩
    · go_wp2_with fail
      go_big_quiet (fail)
      go_wp2_with fail
      exact ⟨⟨k - 1, _, by omega, congrArg (Value.int .i64) (by omega), rfl, by omega, (C4.out.to (bw_dr (Below.refl _ _) nq)).more (by omega), gb_dr G4.out nq⟩, by simp [intOf]; omega⟩
    · go_wp2_with fail
      go_big_quiet (fail)
      go_wp2_with fail
      exact ⟨⟨k - 1, _, by omega, congrArg (Value.int .i64) (by omega), rfl, by omega, (C4.out.to (bw_dr (Below.refl _ _) nq)).more (by omega), gb_dr G4.out nq⟩, by simp [intOf]; omega⟩
theorem stage_any (w : World) (C lim : Nat) (h : Cur w C lim) (hl : lim ≤ 100000000) : Calls Tryz.prog 100 #[.pointer (some ⟨C, 0, none⟩)] w (DrewInt w C (lim + 2) fun b => 3 ≤ b ∧ b ≤ 8) := by
  have H := Lib.hid h
  clear h
  go_enter Tryz.func100, Tryz.ntmps100
  go_wp2_with fail
  refine (among_at w C lim 9 _ [4, 4, 5, 5, 6, 6, 3, 7, 8] (by simp) H.out (by omega) rfl (by omega) (by omega)).mono ?_; rintro e w1 ⟨z, rfl, hz, hc1, hg1⟩
  have hz2 : 3 ≤ z ∧ z ≤ 8 := by simp at hz; rcases hz with rfl | rfl | rfl | rfl | rfl | rfl <;> decide
  have Hc1 := Lib.hid hc1
  have Hg1 := Lib.hid hg1
  clear hz hc1 hg1
  go_wp2_with fail
  go_ret
  exact ⟨z, rfl, hz2, Hc1.out, Hg1.out⟩
def fact8 : Nat → Nat
  | 0 => 1
  | n + 1 => (n + 1) * fact8 n
theorem l1FactX_any (n : Nat) (w : World) (hn : n ≤ 8) : Calls Tryz.prog 112 #[.int .i64 n] w fun e w' => e = .returned (.int .i64 (fact8 n)) ∧ w = w' := by
  go_enter Tryz.func112, Tryz.ntmps112
  go_wp2_with fail
  have hn9 : n = 0 ∨ n = 1 ∨ n = 2 ∨ n = 3 ∨ n = 4 ∨ n = 5 ∨ n = 6 ∨ n = 7 ∨ n = 8 := by omega
  go_loop [0, 3] (fun a f => ∃ k : Nat, k ≤ n ∧ a = .int .i64 k ∧ ∃ z : Nat, f = .int .i64 z ∧ z * fact8 k = fact8 n ∧ 1 ≤ z ∧ z ≤ 40320) (fun a _ => (intOf a).toNat)
  case atStart => exact ⟨n, by omega, rfl, 1, rfl, by omega, by omega, by omega⟩
  case round =>
    obtain ⟨k, hk, rfl, z, rfl, hz, hz1, hz2⟩ := hrel
    have hk9 : k = 0 ∨ k = 1 ∨ k = 2 ∨ k = 3 ∨ k = 4 ∨ k = 5 ∨ k = 6 ∨ k = 7 ∨ k = 8 := by omega
    by_cases hlt : 1 < k
    · obtain ⟨k', rfl⟩ : ∃ k', k = k' + 1 := ⟨k - 1, by omega⟩
      have e1 : (z * (k' + 1)) * fact8 k' = fact8 n := by rw [← hz]; show _ = z * ((k' + 1) * fact8 k'); rw [Nat.mul_assoc]
      have hb : z * (k' + 1) ≤ 40320 := by
        have h1 : 1 ≤ fact8 k' := by
          have : k' = 1 ∨ k' = 2 ∨ k' = 3 ∨ k' = 4 ∨ k' = 5 ∨ k' = 6 ∨ k' = 7 := by omega
          rcases this with rfl | rfl | rfl | rfl | rfl | rfl | rfl <;> decide
        have h2 : fact8 n ≤ 40320 := by rcases hn9 with rfl | rfl | rfl | rfl | rfl | rfl | rfl | rfl | rfl <;> decide
        have h3 := Nat.le_mul_of_pos_right (z * (k' + 1)) h1
        omega
      have hb1 : 1 ≤ z * (k' + 1) := Nat.mul_pos (by omega) (by omega)
      have hw : IntKind.i64.wrap ((z : Int) * ((k' + 1 : Nat) : Int)) = ((z * (k' + 1) : Nat) : Int) := by
        rw [← Int.natCast_mul]; exact IntWalk.i64_in _ (by omega)
      have hlt' : (1 : Int) < ((k' + 1 : Nat) : Int) := by omega
      have E1 := Lib.hid e1
      clear hz e1 hk9 hn9
      go_wp2_with fail
      exact ⟨⟨k', by omega, by simp, z * (k' + 1), congrArg (Value.int .i64) (by rw [show ((k' : Int) + 1) = ((k' + 1 : Nat) : Int) by omega, ← Int.natCast_mul]; generalize z * (k' + 1) = p at hb hb1; unfold wrap64; omega), E1.out, hb1, hb⟩, by simp [intOf]⟩
    · have e2 : z = fact8 n := by
        have : k = 0 ∨ k = 1 := by omega
        rcases this with rfl | rfl
        · simpa [fact8] using hz
        · simpa [fact8] using hz
      have hlt' : ¬ (1 : Int) < (k : Int) := by omega
      subst e2
      clear hz hk9 hn9
      go_wp2_with fail
      go_ret
      exact ⟨rfl, rfl⟩
set_option maxRecDepth 10000 in
set_option maxHeartbeats 4000000 in
theorem RowOf_any (n k : Nat) (w : World) (h3 : 3 ≤ n) (h8 : n ≤ 8) (hk : k < fact8 n) : Calls Tryz.prog 111 #[.int .i64 n, .int .i64 k] w fun e w' => ∃ r : ByteArray, e = .returned (.tuple #[.string r, .bool true]) ∧ r.size = n ∧ Below w.heap.size w w' := by
  have Hf := Lib.hid (fun (m : Nat) (hm : m ≤ 8) W => l1FactX_any m W hm)
  have hf8 : fact8 n ≤ 40320 := by
    have hn9 : n = 3 ∨ n = 4 ∨ n = 5 ∨ n = 6 ∨ n = 7 ∨ n = 8 := by omega
    rcases hn9 with rfl | rfl | rfl | rfl | rfl | rfl <;> decide
  have hd1 : decide ((3 : Int) ≤ n ∧ (n : Int) ≤ 8) = true := decide_eq_true (by omega)
  have hd2 : decide ((0 : Int) ≤ k ∧ (k : Int) ≤ (fact8 n : Int) - 1) = true := decide_eq_true (by omega)
  have hwf : IntKind.i64.wrap ((fact8 n : Int) - 1) = (fact8 n : Int) - 1 := IntWalk.i64_in _ (by omega)
  have Hk := Lib.hid hk
  clear hk
  go_enter Tryz.func111, Tryz.ntmps111
  go_wp2_with (first | (go_at_call 68; refine (l1In_any _ _ _ _).mono ?_; rintro e w' ⟨rfl, rfl⟩; first | rw [hd1] | rw [hd2]) | (go_at_call 112; refine (Hf.out n h8 _).mono ?_; rintro e w' ⟨rfl, rfl⟩) | (go_at_call 109; refine (l1Rounds_any n _ h8).mono ?_; rintro e w' ⟨rfl, rfl⟩))
  go_loopw [1, 6, 7] (fun s1 s6 s7 wr => ∃ (x y : ByteArray) (j : Nat), s6 = .string x ∧ s7 = .string y ∧ s1 = .int .i64 j ∧ x.size + y.size = n ∧ j < fact8 x.size ∧ Below w.heap.size w wr) (fun _ s6 _ _ => match s6 with | .string x => x.size | _ => 0)
  case atStart => exact ⟨roundsB n, ⟨#[]⟩, k, rfl, rfl, rfl, by rw [rounds_size h8]; rfl, by rw [rounds_size h8]; exact Hk.out, Below.refl _ _⟩
  case round =>
    obtain ⟨x, y, j, rfl, rfl, rfl, hxy, hj, hB⟩ := hrel
    by_cases h0 : x.size = 0
    · have hl : ¬ (0 : Int) < (x.size : Int) := by omega
      go_wp2_with fail
      go_ret2
      exact ⟨y, rfl, by omega, hB⟩
    · obtain ⟨m, hm⟩ : ∃ m, x.size = m + 1 := ⟨x.size - 1, by omega⟩
      have hl : (0 : Int) < (x.size : Int) := by omega
      have hm8 : m ≤ 7 := by omega
      have hwm : IntKind.i64.wrap ((x.size : Int) - 1) = (m : Int) := by rw [hm]; exact (IntWalk.i64_in _ (by omega)).trans (by omega)
      rw [hm] at hj
      obtain ⟨f, hf⟩ : ∃ f, f = fact8 m := ⟨_, rfl⟩
      have hfm : fact8 (m + 1) = (m + 1) * f := by rw [hf]; rfl
      rw [hfm] at hj
      have hf1 : 1 ≤ f := by
        rw [hf]
        have hn9 : m = 0 ∨ m = 1 ∨ m = 2 ∨ m = 3 ∨ m = 4 ∨ m = 5 ∨ m = 6 ∨ m = 7 := by omega
        rcases hn9 with rfl | rfl | rfl | rfl | rfl | rfl | rfl | rfl <;> decide
      have hf2 : f ≤ 5040 := by
        rw [hf]
        have hn9 : m = 0 ∨ m = 1 ∨ m = 2 ∨ m = 3 ∨ m = 4 ∨ m = 5 ∨ m = 6 ∨ m = 7 := by omega
        rcases hn9 with rfl | rfl | rfl | rfl | rfl | rfl | rfl | rfl <;> decide
      have Hfm := Lib.hid (fun W => Hf.out m (by omega) W)
      rw [← hf] at Hfm
      have hi : j / f < m + 1 := Nat.div_lt_of_lt_mul (by rw [Nat.mul_comm]; exact hj)
      have hjf : j % f < f := Nat.mod_lt _ (by omega)
      have hjb : j ≤ 50000 := by
        have h1 : (m + 1) * f ≤ 8 * 5040 := Nat.mul_le_mul (by omega) hf2
        omega
      have hq : Int.tdiv (j : Int) (f : Int) = ((j / f : Nat) : Int) := rfl
      have hr : Int.tmod (j : Int) (f : Int) = ((j % f : Nat) : Int) := rfl
      obtain ⟨i, hid⟩ : ∃ i, i = j / f := ⟨_, rfl⟩
      obtain ⟨r, hrd⟩ : ∃ r, r = j % f := ⟨_, rfl⟩
      rw [← hid] at hi hq
      rw [← hrd] at hjf hr
      have hfz : ¬ ((f : Int) = 0) := by omega
      have hwq : IntKind.i64.wrap (i : Int) = (i : Int) := IntWalk.i64_in _ (by omega)
      have hwr : IntKind.i64.wrap (r : Int) = (r : Int) := IntWalk.i64_in _ (by omega)
      have hwi : IntKind.i64.wrap ((i : Int) + 1) = (i : Int) + 1 := IntWalk.i64_in _ (by omega)
      have hil : i < x.size := by omega
      have hi1 : (i : Int) + 1 ≤ (x.size : Int) := by omega
      have hi0 : (0 : Int) ≤ (i : Int) + 1 := by omega
      have hi2 : i ≤ x.size := by omega
      have hit : ((i : Int) + 1).toNat = i + 1 := by omega
      have hi3 : i + 1 ≤ x.size := by omega
      have b1 : ¬ 9223372036854775807 < y.size + (x.extract i (i + 1)).size := by rw [ByteArray.size_extract]; omega
      have b2 : ¬ 9223372036854775807 < (x.extract 0 i).size + (x.extract (i + 1) x.size).size := by rw [ByteArray.size_extract, ByteArray.size_extract]; omega
      have hz1 : (y ++ x.extract i (i + 1)).size = y.size + 1 := by rw [ByteArray.size_append, ByteArray.size_extract]; omega
      have hz2 : (x.extract 0 i ++ x.extract (i + 1) x.size).size = m := by rw [ByteArray.size_append, ByteArray.size_extract, ByteArray.size_extract]; omega
      have Hz1 := Lib.hid hz1
      have Hz2 := Lib.hid hz2
      have HF := Lib.hid hf
      have HM := Lib.hid hm
      clear hid hrd hf hj hz1 hz2 hfm hm
      go_wp2_with (first | (go_at_call 112; refine (Hfm.out _).mono ?_; rintro e w' ⟨rfl, rfl⟩))
      go_big_quiet (fail)
      go_wp2_with fail
      refine ⟨⟨_, _, r, rfl, rfl, rfl, ?_, ?_, bw_dr hB _⟩, ?_⟩
      · rw [Hz1.out, Hz2.out]; have := HM.out; omega
      · rw [Hz2.out, ← HF.out]; exact hjf
      · show (x.extract 0 i ++ x.extract (i + 1) x.size).size < x.size
        rw [Hz2.out]; have := HM.out; omega
set_option maxHeartbeats 2000000 in
theorem drawRow_any (w : World) (C lim n : Nat) (h : Cur w C lim) (hl : lim ≤ 100000000) (h3 : 3 ≤ n) (h8 : n ≤ 8) : Calls Tryz.prog 78 #[.pointer (some ⟨C, 0, none⟩), .int .i64 n] w (DrewStr w C (lim + 2) fun s => s.size = n) := by
  have H := Lib.hid h
  clear h
  have hf : 1 ≤ fact8 n ∧ fact8 n ≤ 40320 := by
    have hn9 : n = 3 ∨ n = 4 ∨ n = 5 ∨ n = 6 ∨ n = 7 ∨ n = 8 := by omega
    rcases hn9 with rfl | rfl | rfl | rfl | rfl | rfl <;> decide
  go_enter Tryz.func78, Tryz.ntmps78
  go_wp2_with fail
  refine (l1FactX_any n _ h8).mono ?_; rintro e w1 ⟨rfl, rfl⟩
  go_wp2_with fail
  refine (pick_any w C lim (fact8 n) H.out (by omega) (by omega) (by omega)).mono ?_; rintro e w2 ⟨b, rfl, hb, hc2, hg2⟩
  obtain ⟨k, rfl⟩ : ∃ k : Nat, b = k := ⟨b.toNat, by omega⟩
  have Hc2 := Lib.hid hc2
  have Hg2 := Lib.hid hg2
  clear hc2 hg2
  go_wp2_with fail
  refine (RowOf_any n k w2 h3 h8 (by omega)).mono ?_; rintro e w3 ⟨r, rfl, hr, hb3⟩
  have Hc3 := Lib.hid (Hc2.out.to hb3)
  have Hg3 := Lib.hid (gb_to Hg2.out hb3)
  have Hr := Lib.hid hr
  clear hb3 hb hr
  go_wp2_with fail
  go_ret
  exact ⟨r, rfl, Hr.out, Hc3.out, Hg3.out⟩
end Go.Proofs.YtofpjbdelmmclaaGreatDoor

/- Drawn touches; drawn items in rows. -/
namespace Go.Proofs.YtofpjbdelmmclaaGreatDoor
open Go Go.RowKit
set_option linter.unusedVariables false
set_option linter.unusedSimpArgs false

set_option maxRecDepth 10000 in
set_option maxHeartbeats 2000000 in
theorem touchV_any (w : World) (C lim m : Nat) (h : Cur w C lim) (hl : lim ≤ 1000000000) (h1 : 1 ≤ m) (h2 : m ≤ 1000) : Calls Tryz.prog 128 #[.pointer (some ⟨C, 0, none⟩), .int .i64 m] w (DrewStr w C (lim + 10 + 2 * m) fun s => s.size ≤ 4 * m + 4) := by
  have H := Lib.hid h
  clear h
  go_enter Tryz.func128, Tryz.ntmps128
  go_wp2_with fail
  refine (pick_any w C lim m H.out (by omega) (by omega) (by omega)).mono ?_; rintro e w1 ⟨b, rfl, hb, hc1, hg1⟩
  obtain ⟨k0, rfl⟩ : ∃ k : Nat, b = k := ⟨b.toNat, by omega⟩
  have hk0 : k0 < m := by omega
  have Hc1 := Lib.hid hc1
  have Hg1 := Lib.hid hg1
  clear hc1 hg1 hb
  go_wp2_with fail
  go_loopw [5, 6] (fun t i wr => ∃ k : Nat, ∃ s : ByteArray, k ≤ k0 + 1 ∧ i = .int .i64 k ∧ t = .string s ∧ s.size + k ≤ k0 + 1 ∧ Hid (Cur wr C (lim + 2 + 2 * (k0 + 1 - k)) ∧ w.grownBy wr (some C))) (fun _ i _ => (intOf i).toNat)
  case atStart => exact ⟨k0 + 1, ⟨#[]⟩, by omega, by go_num, rfl, by show 0 + _ ≤ _; omega, Lib.hid ⟨Hc1.out.more (by omega), Hg1.out⟩⟩
  case round =>
    obtain ⟨k, s, hk, rfl, rfl, hs, Hc⟩ := hrel
    by_cases hpos : 0 < k
    · have Hof := Lib.hid (of_lit wr C _ 5 [⟨#[112]⟩, ⟨#[112]⟩, ⟨#[98]⟩, ⟨#[115]⟩, ⟨#[98]⟩] Hc.out.1 (by omega) rfl (by omega) (by omega))
      go_wp2_with fail
      refine Hof.out.mono ?_; rintro e w2 ⟨x, rfl, hx, hc2, hg2⟩
      have hxs : x.size = 1 := by
        simp at hx
        rcases hx with rfl | rfl | rfl | rfl | rfl <;> rfl
      have Hc2 := Lib.hid hc2
      have Hg2 := Lib.hid (gb_tr Hc.out.2 hg2)
      clear hc2 hg2 hx
      go_wp2_with fail
      obtain ⟨j, rfl⟩ : ∃ j, k = j + 1 := ⟨k - 1, by omega⟩
      refine ⟨⟨j, _, by omega, by go_num, rfl, by rw [ByteArray.size_append, hxs]; omega, Lib.hid ⟨Hc2.out.more (by omega), Hg2.out⟩⟩, by simp [intOf]⟩
    · obtain rfl : k = 0 := by omega
      go_wp2_with fail
      refine (one_any wr C _ 3 Hc.out.1 (by omega) (by omega) (by omega)).mono ?_; rintro e w2 ⟨x, rfl, hc2, hg2⟩
      have Hc2 := Lib.hid hc2
      have Hg2 := Lib.hid (gb_tr Hc.out.2 hg2)
      clear hc2 hg2
      cases x
      · go_wp2_with fail
        go_ret
        exact ⟨_, rfl, by omega, Hc2.out.more (by omega), Hg2.out⟩
      · go_wp2_with fail
        go_ret
        exact ⟨_, rfl, by show (s ++ s).size ≤ _; rw [ByteArray.size_append]; omega, Hc2.out.more (by omega), Hg2.out⟩
set_option maxRecDepth 10000 in
set_option maxHeartbeats 2000000 in
theorem anyTouch_any (w : World) (C lim : Nat) (h : Cur w C lim) (hl : lim ≤ 100000000) : Calls Tryz.prog 94 #[.pointer (some ⟨C, 0, none⟩)] w (DrewStr w C (lim + 150) fun s => s.size ≤ 62) := by
  have H := Lib.hid h
  clear h
  go_enter Tryz.func94, Tryz.ntmps94
  go_wp2_with fail
  refine (pick_any w C lim 16 H.out (by omega) (by omega) (by omega)).mono ?_; rintro e w1 ⟨b, rfl, hb, hc1, hg1⟩
  have C1 := Lib.hid hc1
  have G1 := Lib.hid hg1
  obtain ⟨b0, b1⟩ := hb
  clear hc1 hg1
  by_cases hb0 : b = 0
  · subst hb0
    go_wp2_with fail
    refine (of_at w1 C _ 4 _ [⟨#[]⟩, ⟨#[120]⟩, ⟨#[112, 66]⟩, ⟨#[112, 32, 98]⟩] (by simp) C1.out (by omega) rfl (by omega) (by omega)).mono ?_; rintro e w2 ⟨x, rfl, hx, hc2, hg2⟩
    have hxs : x.size ≤ 62 := by simp at hx; rcases hx with rfl | rfl | rfl | rfl <;> decide
    have C2 := Lib.hid hc2
    have G2 := Lib.hid (gb_tr G1.out hg2)
    clear hc2 hg2 hx
    go_wp2_with fail
    go_ret
    exact ⟨_, rfl, hxs, C2.out.more (by omega), G2.out⟩
  have hc0 : (b == 0) = false := by simpa using hb0
  by_cases hb1 : b = 1
  · subst hb1
    go_wp2_with fail
    refine (among_at w1 C _ 3 _ [59, 60, 61] (by simp) C1.out (by omega) rfl (by omega) (by omega)).mono ?_; rintro e w2 ⟨z, rfl, hz, hc2, hg2⟩
    have hz1 : 0 ≤ z ∧ z ≤ 61 := by simp at hz; omega
    obtain ⟨n, rfl⟩ : ∃ n : Nat, z = n := ⟨z.toNat, by omega⟩
    have hn : n ≤ 61 := by omega
    have C2 := Lib.hid hc2
    have G2 := Lib.hid (gb_tr G1.out hg2)
    clear hc2 hg2 hz hz1
    go_wp2_with fail
    go_loopw [3, 4] (fun t i wr => ∃ k : Nat, ∃ s : ByteArray, k ≤ n ∧ i = .int .i64 k ∧ t = .string s ∧ s.size + k ≤ n ∧ Hid (Cur wr C (lim + 4 + 2 * (n - k)) ∧ w.grownBy wr (some C))) (fun _ i _ => (intOf i).toNat)
    case atStart => exact ⟨n, ⟨#[]⟩, by omega, rfl, rfl, by show 0 + _ ≤ _; omega, Lib.hid ⟨C2.out.more (by omega), G2.out⟩⟩
    case round =>
      obtain ⟨k, s, hk, rfl, rfl, hs, Hc⟩ := hrel
      by_cases hpos : 0 < k
      · have Hof := Lib.hid (of_lit wr C _ 3 [⟨#[112]⟩, ⟨#[98]⟩, ⟨#[115]⟩] Hc.out.1 (by omega) rfl (by omega) (by omega))
        go_wp2_with fail
        refine Hof.out.mono ?_; rintro e w2 ⟨x, rfl, hx, hc2, hg2⟩
        have hxs : x.size = 1 := by
          simp at hx
          rcases hx with rfl | rfl | rfl <;> rfl
        have Hc2 := Lib.hid hc2
        have Hg2 := Lib.hid (gb_tr Hc.out.2 hg2)
        clear hc2 hg2 hx
        go_wp2_with fail
        obtain ⟨j, rfl⟩ : ∃ j, k = j + 1 := ⟨k - 1, by omega⟩
        refine ⟨⟨j, _, by omega, by go_num, rfl, by rw [ByteArray.size_append, hxs]; omega, Lib.hid ⟨Hc2.out.more (by omega), Hg2.out⟩⟩, by simp [intOf]⟩
      · obtain rfl : k = 0 := by omega
        go_wp2_with fail
        go_ret
        exact ⟨_, rfl, by omega, Hc.out.1.more (by omega), Hc.out.2⟩
  have hc1 : (b == 1) = false := by simpa using hb1
  go_wp2_with fail
  refine (touchV_any w1 C _ 9 C1.out (by omega) (by omega) (by omega)).mono ?_; rintro e w2 ⟨x, rfl, hx, hc2, hg2⟩
  have C2 := Lib.hid hc2
  have G2 := Lib.hid (gb_tr G1.out hg2)
  clear hc2 hg2
  go_wp2_with fail
  go_ret
  exact ⟨_, rfl, by omega, C2.out.more (by omega), G2.out⟩
end Go.Proofs.YtofpjbdelmmclaaGreatDoor

/- Appends of a whole slice, copies of rows whose elements have more than one cell, a row with an element put in. -/
namespace Go.Proofs.YtofpjbdelmmclaaGreatDoor
open Go Go.RowKit
set_option linter.unusedVariables false
set_option linter.unusedSimpArgs false

/-- A slice without an array has no room. -/
def NilOk (v : Value) : Prop := ∀ n c, v = .slice none n c → n = 0 ∧ c = 0
theorem nilok_own {w : World} {base : Nat} {e : TypeId} {size n : Nat} {v : Value} {xs : List Value} (h : w.ownsRow base e size v n xs) : NilOk v := by
  intro n' c' hv
  rcases h.2 with ⟨rfl, _⟩ | ⟨g, cap, cur, rfl, _⟩
  · injection hv with _ h1 h2; exact ⟨h1.symm, h2.symm⟩
  · injection hv with h0 _ _; cases h0
/-- 'append(v, x...)', v a row of the call's own, x any slice that can be read. -/
theorem wpList_app_sl {P : Program} (w : World) {ops : Array Oper} {rest : List Oper} {o : Oper} {a : Act} {Q : Exit → Act → World → Prop} (hgd : o.guard = none) (s x : Operand) (t : TypeId)
    (ho : o.op = .call { callee := .builtin .append, args := #[s, x], argTypes := #[t, t] })
    (base : Nat) (e : TypeId) (z : Value) (size bytes : Nat) (ht : P.underlying t = some (.slice e)) (hinfo : (P.info? e).map (fun i => (i.zero, i.size, i.bytes)) = some (some z, size, bytes))
    (hzs : z.cells.size = size) (hsz : 0 < size) {v : Value} {n : Nat} {xs : List Value} (hown : w.ownsRow base e size v n xs) (hs : a.eval s = v)
    {vx : Value} {m : Nat} {news : List Value} (hsl : Sl w size vx m news) (hnil : NilOk vx) (hx : a.eval x = vx) (h1 : ∀ u ∈ news, u.oneCell' = true) (hby : bytes ≤ 1024) (hn : n + m ≤ 100000000) (hbase : base ≤ w.heap.size)
    (h : ∀ v' w', w'.ownsRow base e size v' (n + m) (xs ++ news) → Below base w w' → w.grownBy w' v.ownBlock → (v'.ownBlock = v.ownBlock ∨ ∀ g, v'.ownBlock = some g → w.heap.size ≤ g) → wpList P ops Q rest (a.put o.dst v') w') :
    wpList P ops Q (o :: rest) a w := by
  obtain ⟨i0, hi, hz, hsi, hbi⟩ := info_parts hinfo
  obtain ⟨A, c, rfl, hmc, hc, hr⟩ := hsl
  refine wpList_plain hgd fun K hK => ?_
  cases A with
  | none =>
    obtain ⟨rfl, rfl⟩ := hnil m c rfl
    have hnews : news = [] := List.eq_nil_of_length_eq_zero (by simpa using hr.1)
    subst hnews
    have hrun := run_append_owned_none (P := P) w base t o.type e i0 size ht hi _ n xs hown
    unfold Oper.wp execOp
    simp only [ho, resolve, invoke, builtin, Sem.run_bind, Sem.run_pure, Result.andThen_ok, List.map_toArray, List.map_cons, List.map_nil, hs, hx, hrun]
    exact hK _ _ (h v w (by simpa using hown) (Below.refl _ _) (World.grownBy.refl _ _) (.inl rfl))
  | some ad =>
    have hcell : ∀ j u, news[j]? = some u → w.cell? (ad.add j) = some u := by
      intro j u hu
      have hm : 0 < m := by
        rcases Nat.eq_zero_or_pos m with h0 | h0
        · subst h0
          have := (List.getElem?_eq_some_iff.1 hu).1
          have := hr.1
          omega
        · exact h0
      obtain ⟨ad', e', _, hcc⟩ := hr.2 hm
      cases e'
      exact hcc j u hu
    obtain ⟨v', w', hrun, h2, h3, _, h5⟩ := run_append_own_at (P := P) w base t o.type e i0 z size bytes ht hi hz hsi hbi hzs hsz v n xs hown ad m c news hr.1 hcell h1
      (by unfold maxLen; omega) (Nat.le_trans (Nat.mul_le_mul_left _ hby) (by omega)) hbase
    unfold Oper.wp execOp
    simp only [ho, resolve, invoke, builtin, Sem.run_bind, Sem.run_pure, Result.andThen_ok, List.map_toArray, List.map_cons, List.map_nil, hs, hx, hrun]
    refine hK _ _ (h v' w' h2 ((Below.refl _ _).grown h3 hbase (fun k hk => (hown.lt k hk).1)) h3 ?_)
    rcases h5 with h5 | h5
    · exact .inl h5
    · exact .inr fun g hg' => by rw [h5] at hg'; injection hg' with hg'; omega
theorem strs_one (ss : List ByteArray) : ∀ u ∈ ss.map Value.string, u.oneCell' = true := by
  intro u hu; obtain ⟨s, _, rfl⟩ := List.mem_map.1 hu; rfl
theorem wp_app_sl {P : Program} (w : World) {o : Oper} {a : Act} {K : Act → World → Prop} {Q : Exit → Act → World → Prop} (s x : Operand) (t : TypeId)
    (ho : o.op = .call { callee := .builtin .append, args := #[s, x], argTypes := #[t, t] })
    (base : Nat) (e : TypeId) (z : Value) (size bytes : Nat) (ht : P.underlying t = some (.slice e)) (hinfo : (P.info? e).map (fun i => (i.zero, i.size, i.bytes)) = some (some z, size, bytes))
    (hzs : z.cells.size = size) (hsz : 0 < size) {v : Value} {n : Nat} {xs : List Value} (hown : w.ownsRow base e size v n xs) (hs : a.eval s = v)
    {vx : Value} {m : Nat} {news : List Value} (hsl : Sl w size vx m news) (hnil : NilOk vx) (hx : a.eval x = vx) (h1 : ∀ u ∈ news, u.oneCell' = true) (hby : bytes ≤ 1024) (hn : n + m ≤ 100000000) (hbase : base ≤ w.heap.size)
    (N : Nat) (hN : n + m = N) (h : ∀ A c w', w'.ownsRow base e size (.slice A N c) N (xs ++ news) → Below base w w' → w.grownBy w' v.ownBlock → K (a.put o.dst (.slice A N c)) w') : o.wp P a w K Q := by
  subst hN
  obtain ⟨i0, hi, hz, hsi, hbi⟩ := info_parts hinfo
  obtain ⟨A, c, rfl, hmc, hc, hr⟩ := hsl
  have fin : ∀ v' w', w'.ownsRow base e size v' (n + m) (xs ++ news) → Below base w w' → w.grownBy w' v.ownBlock → K (a.put o.dst v') w' := by
    intro v' w' ho' hb' hg'
    obtain ⟨A', c', e', _⟩ := sl_of_own ho'
    subst e'
    exact h A' c' w' ho' hb' hg'
  cases A with
  | none =>
    obtain ⟨rfl, rfl⟩ := hnil m c rfl
    have hnews : news = [] := List.eq_nil_of_length_eq_zero (by simpa using hr.1)
    subst hnews
    have hrun := run_append_owned_none (P := P) w base t o.type e i0 size ht hi _ n xs hown
    unfold Oper.wp execOp
    simp only [ho, resolve, invoke, builtin, Sem.run_bind, Sem.run_pure, Result.andThen_ok, List.map_toArray, List.map_cons, List.map_nil, hs, hx, hrun]
    exact fin v w (by simpa using hown) (Below.refl _ _) (World.grownBy.refl _ _)
  | some ad =>
    have hcell : ∀ j u, news[j]? = some u → w.cell? (ad.add j) = some u := by
      intro j u hu
      have hm : 0 < m := by
        rcases Nat.eq_zero_or_pos m with h0 | h0
        · subst h0
          have := (List.getElem?_eq_some_iff.1 hu).1
          have := hr.1
          omega
        · exact h0
      obtain ⟨ad', e', _, hcc⟩ := hr.2 hm
      cases e'
      exact hcc j u hu
    obtain ⟨v', w', hrun, h2, h3, _, h5⟩ := run_append_own_at (P := P) w base t o.type e i0 z size bytes ht hi hz hsi hbi hzs hsz v n xs hown ad m c news hr.1 hcell h1
      (by unfold maxLen; omega) (Nat.le_trans (Nat.mul_le_mul_left _ hby) (by omega)) hbase
    unfold Oper.wp execOp
    simp only [ho, resolve, invoke, builtin, Sem.run_bind, Sem.run_pure, Result.andThen_ok, List.map_toArray, List.map_cons, List.map_nil, hs, hx, hrun]
    exact fin v' w' h2 ((Below.refl _ _).grown h3 hbase (fun k hk => (hown.lt k hk).1)) h3
/-- 'append(v, x...)' at a step of a region that draws its order. -/
theorem step_app_sl {P : Program} (w : World) {ops : Array Oper} {o : Oper} {a : Act} {K : Act → World → Prop} {Q : Exit → Act → World → Prop} {E : Prop} (hgd : o.guard = none) (s x : Operand) (t : TypeId)
    (ho : o.op = .call { callee := .builtin .append, args := #[s, x], argTypes := #[t, t] })
    (base : Nat) (e : TypeId) (z : Value) (size bytes : Nat) (ht : P.underlying t = some (.slice e)) (hinfo : (P.info? e).map (fun i => (i.zero, i.size, i.bytes)) = some (some z, size, bytes))
    (hzs : z.cells.size = size) (hsz : 0 < size) {v : Value} {n : Nat} {xs : List Value} (hown : w.ownsRow base e size v n xs) (hs : a.eval s = v)
    {vx : Value} {m : Nat} {news : List Value} (hsl : Sl w size vx m news) (hnil : NilOk vx) (hx : a.eval x = vx) (h1 : ∀ u ∈ news, u.oneCell' = true) (hby : bytes ≤ 1024) (hn : n + m ≤ 100000000) (hbase : base ≤ w.heap.size)
    (N : Nat) (hN : n + m = N) (h : ∀ A c w', w'.ownsRow base e size (.slice A N c) N (xs ++ news) → Below base w w' → w.grownBy w' v.ownBlock → K (a.put o.dst (.slice A N c)) w') :
    if Region.wanted o (yielded ops a.tmps) = true then Oper.wp P o a w K Q else E := by
  have hw : Region.wanted o (yielded ops a.tmps) = true := by simp [Region.wanted, hgd]
  rw [if_pos hw]
  exact wp_app_sl w s x t ho base e z size bytes ht hinfo hzs hsz hown hs hsl hnil hx h1 hby hn hbase N hN h
theorem run_copy_rowN {P : Program} (w : World) (dT sT ty elem : TypeId) (sz g o dLen dCap : Nat) (a : Addr) (sLen sCap : Nat) (cur : Array Value) (t : TypeId) (cs : List Value)
    (hu : P.underlying dT = some (.slice elem)) (hs : (P.info? elem).map (·.size) = some sz)
    (hg : w.heap[g]? = some (.cells cur t (0, 0))) (hn : cs.length = Nat.min sLen dLen * sz)
    (hsrc : ∀ j v, cs[j]? = some v → w.cell? (a.add j) = some v) (hfit : o + cs.length ≤ cur.size) (h1 : ∀ v ∈ cs, v.oneCell' = true) :
    (Builtin.copy_ #[dT, sT] ty #[.slice (some ⟨g, o, none⟩) dLen dCap, .slice (some a) sLen sCap]).run P w =
      .ok (goInt (Nat.min sLen dLen)) (w.setRow g (cur.toList.take o ++ cs ++ cur.toList.drop (o + cs.length)).toArray) := by
  have hl := run_loadCells_list (P := P) w a cs hsrc
  have hst := run_storeCells_at P g o t cs 0 cur w hg (by simpa using hfit) h1
  rw [hn] at hl
  cases hq : P.info? elem with
  | none => simp [hq] at hs
  | some i =>
    have hi : i.size = sz := by simpa [hq] using hs
    simp [Builtin.copy_, run_underlying hu, Builtin.lenOf, Builtin.firstCells, sizeOf, typeInfo, hq, hi, hl, hst]
theorem bw_setRow {a w : World} {B g : Nat} (h : Below B a w) (hg : B ≤ g) (cs : Array Value) : Below B a (w.setRow g cs) := below_setRow h hg cs
/-- A row of an own block, whole. -/
theorem own_form {w : World} {base : Nat} {e : TypeId} {size n g c : Nat} {xs : List Value} (h : w.ownsRow base e size (.slice (some ⟨g, 0, none⟩) n c) n xs) :
    base ≤ g ∧ n ≤ c ∧ c ≤ maxLen ∧ ∃ cur : List Value, w.heap[g]? = some (.cells cur.toArray e (0, 0)) ∧ cur.length = c * size ∧ cur.take (n * size) = xs := by
  rcases h.2 with ⟨h', _⟩ | ⟨g', cap', cur, h', hb, hg, hnc, hcm, hcs, htake⟩
  · simp at h'
  · simp only [Value.slice.injEq, Option.some.injEq, Addr.mk.injEq, and_true, true_and] at h'
    obtain ⟨rfl, rfl⟩ := h'
    exact ⟨hb, hnc, hcm, cur.toList, by simpa using hg, by simpa using hcs, htake⟩
theorem own_mk {w : World} {base : Nat} {e : TypeId} {size n g c : Nat} {xs cur : List Value} (hb : base ≤ g) (hnc : n ≤ c) (hcm : c ≤ maxLen) (hg : w.heap[g]? = some (.cells cur.toArray e (0, 0))) (hc : cur.length = c * size) (ht : cur.take (n * size) = xs) (hx : xs.length = n * size) :
    w.ownsRow base e size (.slice (some ⟨g, 0, none⟩) n c) n xs :=
  ⟨hx, .inr ⟨g, c, cur.toArray, rfl, hb, hg, hnc, hcm, by simpa using hc, by simpa using ht⟩⟩
/-- Two splices that make room in a row and fill it. -/
theorem ins_splice {cur xs vs : List Value} {i n m : Nat} (hi : i ≤ n) (hm : vs.length = m) (hl : n + m ≤ cur.length) (hx : cur.take n = xs) :
    (splice (splice cur (i + m) (xs.drop i)) i vs).take (n + m) = xs.take i ++ vs ++ xs.drop i ∧ (splice (splice cur (i + m) (xs.drop i)) i vs).length = cur.length := by
  have hxl : xs.length = n := by rw [← hx]; simp; omega
  have hd : (xs.drop i).length = n - i := by rw [List.length_drop, hxl]
  have e1 : (splice cur (i + m) (xs.drop i)).length = cur.length := length_splice _ _ _ (by rw [hd]; omega)
  refine ⟨?_, by rw [length_splice _ _ _ (by rw [e1, hm]; omega), e1]⟩
  subst hm
  have hci : cur.take i = xs.take i := by rw [← hx, List.take_take]; congr 1; omega
  have hL : (cur.take (i + vs.length)).length = i + vs.length := by simp; omega
  have a1 : (splice cur (i + vs.length) (xs.drop i)).take i = xs.take i := by
    unfold splice
    rw [List.take_append_of_le_length (by omega), List.take_take, Nat.min_eq_left (by omega), hci]
  have a2 : (splice cur (i + vs.length) (xs.drop i)).drop (i + vs.length) = xs.drop i ++ cur.drop (i + vs.length + (xs.drop i).length) := by
    unfold splice
    rw [List.drop_append_of_le_length (by omega), List.drop_of_length_le (by omega), List.nil_append]
  obtain ⟨S, hS⟩ : ∃ S, S = splice cur (i + vs.length) (xs.drop i) := ⟨_, rfl⟩
  rw [← hS] at a1 a2 ⊢
  unfold splice
  rw [a1, a2, ← List.append_assoc, ← List.append_assoc, List.take_append_of_le_length (by simp; omega), List.take_of_length_le (by simp; omega)]
end Go.Proofs.YtofpjbdelmmclaaGreatDoor

/- A row drawn; a text spoilt. -/
import Derived.Test.YtheppimoncokcaaGreatPk2
import Derived.Test.YtheppimoncokcaaGreatPk11
namespace Go.Proofs.YtheppimoncokcaaGreat
open Go Go.RowKit
set_option linter.unusedVariables false
set_option linter.unusedSimpArgs false

theorem byte_oneX {P : Program} {src dst e : TypeId} (hs : P.underlying src = some (.slice e)) (he : P.underlying e = some (.int .u8)) (hd : P.underlying dst = some .string) (W : World) (g : Nat) (c : UInt8) (hg : W.heap[g]? = some (.cells #[.int .u8 (c.toNat : Int)] e (0, 0))) :
    (convert src dst (.slice (some ⟨g, 0, none⟩) 1 1)).run P W = .ok (.string ⟨#[c]⟩) W := by
  refine run_convert_bytes_back W src dst e ⟨g, 0, none⟩ 1 [c] hs he hd (fun j hj => ?_)
  have : j = 0 := by simpa using hj
  subst this
  rw [Addr.add_lit, heap_cell hg]
  simp
theorem spoil_sizeX {t : ByteArray} {i : Nat} (c : UInt8) (h : i < t.size) : (t.extract 0 i ++ ⟨#[c]⟩ ++ t.extract i t.size).size = t.size + 1 ∧ (t.extract 0 i ++ ⟨#[c]⟩ ++ t.extract (i + 1) t.size).size = t.size ∧ (t.extract 0 i ++ t.extract (i + 1) t.size).size = t.size - 1 := by
  have e : (⟨#[c]⟩ : ByteArray).size = 1 := rfl
  simp only [ByteArray.size_append, ByteArray.size_extract, e]
  omega
set_option maxRecDepth 10000 in
set_option maxHeartbeats 4000000 in
theorem spoiltX_any (w : World) (C lim : Nat) (t q : ByteArray) (h : Cur w C lim) (hl : lim ≤ 100000000) (ht : t.size ≤ 1000000) (hq0 : 1 ≤ q.size) (hq : q.size ≤ 1000) : Calls Tryz.prog 115 #[.pointer (some ⟨C, 0, none⟩), .string t, .string q] w fun e w' =>
    ∃ u : ByteArray, e = .returned (.string u) ∧ u.size ≤ t.size + 2 ∧ Cur w' C (lim + 30) ∧ w.grownBy w' (some C) := by
  have H := Lib.hid h
  clear h
  go_enter Tryz.func115, Tryz.ntmps115
  go_wp2_with fail
  refine (pick_any _ C lim 2 H.out (by omega) (by omega) (by omega)).mono ?_; rintro e w1 ⟨z, rfl, hz, hc1, hg1⟩
  have C1 := Lib.hid hc1
  have G1 := Lib.hid hg1
  have hw1 : IntKind.i64.wrap (1 + z) = 1 + z := IntWalk.i64_in _ (by omega)
  clear hc1 hg1
  go_wp2_with fail
  go_loopw [1, 7] (fun s n wr => ∃ (k : Nat) (u : ByteArray), k ≤ 2 ∧ n = .int .i64 k ∧ s = .string u ∧ u.size + k ≤ t.size + 2 ∧ Cur wr C (lim + 20 - 6 * k) ∧ w.grownBy wr (some C)) (fun _ n _ => (intOf n).toNat)
  case atStart => exact ⟨(1 + z).toNat, t, by omega, congrArg (Value.int .i64) (by omega), rfl, by omega, C1.out.more (by omega), G1.out⟩
  case round =>
    obtain ⟨k, u, hk, rfl, rfl, hu, hc, hg⟩ := hrel
    have HC := Lib.hid hc
    have HG := Lib.hid hg
    clear hc hg
    by_cases hk0 : k = 0
    · subst hk0
      go_wp2_with fail
      go_ret
      exact ⟨u, rfl, by omega, HC.out.more (by omega), HG.out⟩
    have hkp : 0 < k := by omega
    by_cases hs0 : u.size = 0
    · go_wp2_with fail
      go_ret
      exact ⟨u, rfl, by omega, HC.out.more (by omega), HG.out⟩
    have hsp : 0 < u.size := by omega
    go_wp2_with fail
    refine (pick_any _ C _ u.size HC.out (by omega) (by omega) (by omega)).mono ?_; rintro e w2 ⟨i, rfl, hi, hc2, hg2⟩
    obtain ⟨i, rfl⟩ : ∃ i' : Nat, i = i' := ⟨i.toNat, by omega⟩
    have C2 := Lib.hid hc2
    have G2 := Lib.hid (gb_tr HG.out hg2)
    clear hc2 hg2
    go_wp2_with fail
    refine (pick_any _ C _ q.size C2.out (by omega) (by omega) (by omega)).mono ?_; rintro e w3 ⟨j, rfl, hj, hc3, hg3⟩
    obtain ⟨j, rfl⟩ : ∃ i' : Nat, j = i' := ⟨j.toNat, by omega⟩
    have C3 := Lib.hid hc3
    have G3 := Lib.hid (gb_tr G2.out hg3)
    clear hc3 hg3
    have hjl : j < q.size := by omega
    have hcv := fun W : World => byte_oneX Tryz.underlying22 Tryz.underlying5 Tryz.underlying9 (W.alloc (.cells #[.int .u8 (q[j].toNat : Int)] 5)) W.heap.size q[j] (heap_new W _)
    go_wp2_with fail
    refine (pick_any _ C _ 3 (C3.out.al _) (by omega) (by omega) (by omega)).mono ?_; rintro e w4 ⟨d, rfl, hd, hc4, hg4⟩
    have C4 := Lib.hid hc4
    have G4 := Lib.hid (gb_tr (gb_al G3.out _) hg4)
    have hil : i < u.size := by omega
    obtain ⟨z1, z2, z3⟩ := spoil_sizeX q[j] hil
    have b1 : ¬ 9223372036854775807 < (u.extract 0 i).size + (⟨#[q[j]]⟩ : ByteArray).size := by
      have e : (⟨#[q[j]]⟩ : ByteArray).size = 1 := rfl
      rw [e, ByteArray.size_extract]; omega
    have b2 : ¬ 9223372036854775807 < (u.extract 0 i ++ ⟨#[q[j]]⟩).size + (u.extract i u.size).size := by rw [← ByteArray.size_append]; omega
    have b3 : ¬ 9223372036854775807 < (u.extract 0 i ++ ⟨#[q[j]]⟩).size + (u.extract (i + 1) u.size).size := by rw [← ByteArray.size_append]; omega
    have b4 : ¬ 9223372036854775807 < (u.extract 0 i).size + (u.extract (i + 1) u.size).size := by rw [← ByteArray.size_append]; omega
    have hw2 : IntKind.i64.wrap ((i : Int) + 1) = (i : Int) + 1 := IntWalk.i64_in _ (by omega)
    have hw3 : IntKind.i64.wrap ((k : Int) - 1) = (k : Int) - 1 := IntWalk.i64_in _ (by omega)
    have hi1 : (i : Int) + 1 ≤ (u.size : Int) := by omega
    have hi0 : (0 : Int) ≤ (i : Int) + 1 := by omega
    have hi2 : i ≤ u.size := by omega
    have hit : ((i : Int) + 1).toNat = i + 1 := by omega
    have hi3 : i + 1 ≤ u.size := by omega
    clear hcv hc4 hg4
    have hd3 : d = 0 ∨ d = 1 ∨ d = 2 := by omega
    rcases hd3 with rfl | rfl | rfl
    · go_wp2_with fail
      go_big_quiet (fail)
      go_wp2_with fail
      exact ⟨⟨k - 1, _, by omega, congrArg (Value.int .i64) (by omega), rfl, by omega, (C4.out.to (bw_dr (Below.refl _ _) nq)).more (by omega), gb_dr G4.out nq⟩, by simp [intOf]; omega⟩
    · go_wp2_with fail
      go_big_quiet (fail)
      go_wp2_with fail
      exact ⟨⟨k - 1, _, by omega, congrArg (Value.int .i64) (by omega), rfl, by omega, (C4.out.to (bw_dr (Below.refl _ _) nq)).more (by omega), gb_dr G4.out nq⟩, by simp [intOf]; omega⟩
    · go_wp2_with fail
      go_big_quiet (fail)
      go_wp2_with fail
      exact ⟨⟨k - 1, _, by omega, congrArg (Value.int .i64) (by omega), rfl, by omega, (C4.out.to (bw_dr (Below.refl _ _) nq)).more (by omega), gb_dr G4.out nq⟩, by simp [intOf]; omega⟩
theorem stage_any (w : World) (C lim : Nat) (h : Cur w C lim) (hl : lim ≤ 100000000) : Calls Tryz.prog 114 #[.pointer (some ⟨C, 0, none⟩)] w (DrewInt w C (lim + 2) fun b => 3 ≤ b ∧ b ≤ 8) := by
  have H := Lib.hid h
  clear h
  go_enter Tryz.func114, Tryz.ntmps114
  go_wp2_with fail
  refine (among_at w C lim 9 _ [4, 4, 5, 5, 6, 6, 3, 7, 8] (by simp) H.out (by omega) rfl (by omega) (by omega)).mono ?_; rintro e w1 ⟨z, rfl, hz, hc1, hg1⟩
  have hz2 : 3 ≤ z ∧ z ≤ 8 := by simp at hz; rcases hz with rfl | rfl | rfl | rfl | rfl | rfl <;> decide
  have Hc1 := Lib.hid hc1
  have Hg1 := Lib.hid hg1
  clear hz hc1 hg1
  go_wp2_with fail
  go_ret
  exact ⟨z, rfl, hz2, Hc1.out, Hg1.out⟩
def fact8 : Nat → Nat
  | 0 => 1
  | n + 1 => (n + 1) * fact8 n
theorem l1FactX_any (n : Nat) (w : World) (hn : n ≤ 8) : Calls Tryz.prog 129 #[.int .i64 n] w fun e w' => e = .returned (.int .i64 (fact8 n)) ∧ w = w' := by
  go_enter Tryz.func129, Tryz.ntmps129
  go_wp2_with fail
  have hn9 : n = 0 ∨ n = 1 ∨ n = 2 ∨ n = 3 ∨ n = 4 ∨ n = 5 ∨ n = 6 ∨ n = 7 ∨ n = 8 := by omega
  go_loop [0, 3] (fun a f => ∃ k : Nat, k ≤ n ∧ a = .int .i64 k ∧ ∃ z : Nat, f = .int .i64 z ∧ z * fact8 k = fact8 n ∧ 1 ≤ z ∧ z ≤ 40320) (fun a _ => (intOf a).toNat)
  case atStart => exact ⟨n, by omega, rfl, 1, rfl, by omega, by omega, by omega⟩
  case round =>
    obtain ⟨k, hk, rfl, z, rfl, hz, hz1, hz2⟩ := hrel
    have hk9 : k = 0 ∨ k = 1 ∨ k = 2 ∨ k = 3 ∨ k = 4 ∨ k = 5 ∨ k = 6 ∨ k = 7 ∨ k = 8 := by omega
    by_cases hlt : 1 < k
    · obtain ⟨k', rfl⟩ : ∃ k', k = k' + 1 := ⟨k - 1, by omega⟩
      have e1 : (z * (k' + 1)) * fact8 k' = fact8 n := by rw [← hz]; show _ = z * ((k' + 1) * fact8 k'); rw [Nat.mul_assoc]
      have hb : z * (k' + 1) ≤ 40320 := by
        have h1 : 1 ≤ fact8 k' := by
          have : k' = 1 ∨ k' = 2 ∨ k' = 3 ∨ k' = 4 ∨ k' = 5 ∨ k' = 6 ∨ k' = 7 := by omega
          rcases this with rfl | rfl | rfl | rfl | rfl | rfl | rfl <;> decide
        have h2 : fact8 n ≤ 40320 := by rcases hn9 with rfl | rfl | rfl | rfl | rfl | rfl | rfl | rfl | rfl <;> decide
        have h3 := Nat.le_mul_of_pos_right (z * (k' + 1)) h1
        omega
      have hb1 : 1 ≤ z * (k' + 1) := Nat.mul_pos (by omega) (by omega)
      have hw : IntKind.i64.wrap ((z : Int) * ((k' + 1 : Nat) : Int)) = ((z * (k' + 1) : Nat) : Int) := by
        rw [← Int.natCast_mul]; exact IntWalk.i64_in _ (by omega)
      have hlt' : (1 : Int) < ((k' + 1 : Nat) : Int) := by omega
      have E1 := Lib.hid e1
      clear hz e1 hk9 hn9
      go_wp2_with fail
      exact ⟨⟨k', by omega, by simp, z * (k' + 1), congrArg (Value.int .i64) (by rw [show ((k' : Int) + 1) = ((k' + 1 : Nat) : Int) by omega, ← Int.natCast_mul]; generalize z * (k' + 1) = p at hb hb1; unfold wrap64; omega), E1.out, hb1, hb⟩, by simp [intOf]⟩
    · have e2 : z = fact8 n := by
        have : k = 0 ∨ k = 1 := by omega
        rcases this with rfl | rfl
        · simpa [fact8] using hz
        · simpa [fact8] using hz
      have hlt' : ¬ (1 : Int) < (k : Int) := by omega
      subst e2
      clear hz hk9 hn9
      go_wp2_with fail
      go_ret
      exact ⟨rfl, rfl⟩
set_option maxRecDepth 10000 in
set_option maxHeartbeats 4000000 in
theorem RowOf_any (n k : Nat) (w : World) (h3 : 3 ≤ n) (h8 : n ≤ 8) (hk : k < fact8 n) : Calls Tryz.prog 135 #[.int .i64 n, .int .i64 k] w fun e w' => ∃ r : ByteArray, e = .returned (.tuple #[.string r, .bool true]) ∧ r.size = n ∧ Below w.heap.size w w' := by
  have Hf := Lib.hid (fun (m : Nat) (hm : m ≤ 8) W => l1FactX_any m W hm)
  have hf8 : fact8 n ≤ 40320 := by
    have hn9 : n = 3 ∨ n = 4 ∨ n = 5 ∨ n = 6 ∨ n = 7 ∨ n = 8 := by omega
    rcases hn9 with rfl | rfl | rfl | rfl | rfl | rfl <;> decide
  have hd1 : decide ((3 : Int) ≤ n ∧ (n : Int) ≤ 8) = true := decide_eq_true (by omega)
  have hd2 : decide ((0 : Int) ≤ k ∧ (k : Int) ≤ (fact8 n : Int) - 1) = true := decide_eq_true (by omega)
  have hwf : IntKind.i64.wrap ((fact8 n : Int) - 1) = (fact8 n : Int) - 1 := IntWalk.i64_in _ (by omega)
  have Hk := Lib.hid hk
  clear hk
  go_enter Tryz.func135, Tryz.ntmps135
  go_wp2_with (first | (go_at_call 154; refine (l1In_any _ _ _ _).mono ?_; rintro e w' ⟨rfl, rfl⟩; first | rw [hd1] | rw [hd2]) | (go_at_call 129; refine (Hf.out n h8 _).mono ?_; rintro e w' ⟨rfl, rfl⟩) | (go_at_call 127; refine (l1Rounds_any n _ h8).mono ?_; rintro e w' ⟨rfl, rfl⟩))
  go_loopw [1, 6, 7] (fun s1 s6 s7 wr => ∃ (x y : ByteArray) (j : Nat), s6 = .string x ∧ s7 = .string y ∧ s1 = .int .i64 j ∧ x.size + y.size = n ∧ j < fact8 x.size ∧ Below w.heap.size w wr) (fun _ s6 _ _ => match s6 with | .string x => x.size | _ => 0)
  case atStart => exact ⟨roundsB n, ⟨#[]⟩, k, rfl, rfl, rfl, by rw [rounds_size h8]; rfl, by rw [rounds_size h8]; exact Hk.out, Below.refl _ _⟩
  case round =>
    obtain ⟨x, y, j, rfl, rfl, rfl, hxy, hj, hB⟩ := hrel
    by_cases h0 : x.size = 0
    · have hl : ¬ (0 : Int) < (x.size : Int) := by omega
      go_wp2_with fail
      go_ret2
      exact ⟨y, rfl, by omega, hB⟩
    · obtain ⟨m, hm⟩ : ∃ m, x.size = m + 1 := ⟨x.size - 1, by omega⟩
      have hl : (0 : Int) < (x.size : Int) := by omega
      have hm8 : m ≤ 7 := by omega
      have hwm : IntKind.i64.wrap ((x.size : Int) - 1) = (m : Int) := by rw [hm]; exact (IntWalk.i64_in _ (by omega)).trans (by omega)
      rw [hm] at hj
      obtain ⟨f, hf⟩ : ∃ f, f = fact8 m := ⟨_, rfl⟩
      have hfm : fact8 (m + 1) = (m + 1) * f := by rw [hf]; rfl
      rw [hfm] at hj
      have hf1 : 1 ≤ f := by
        rw [hf]
        have hn9 : m = 0 ∨ m = 1 ∨ m = 2 ∨ m = 3 ∨ m = 4 ∨ m = 5 ∨ m = 6 ∨ m = 7 := by omega
        rcases hn9 with rfl | rfl | rfl | rfl | rfl | rfl | rfl | rfl <;> decide
      have hf2 : f ≤ 5040 := by
        rw [hf]
        have hn9 : m = 0 ∨ m = 1 ∨ m = 2 ∨ m = 3 ∨ m = 4 ∨ m = 5 ∨ m = 6 ∨ m = 7 := by omega
        rcases hn9 with rfl | rfl | rfl | rfl | rfl | rfl | rfl | rfl <;> decide
      have Hfm := Lib.hid (fun W => Hf.out m (by omega) W)
      rw [← hf] at Hfm
      have hi : j / f < m + 1 := Nat.div_lt_of_lt_mul (by rw [Nat.mul_comm]; exact hj)
      have hjf : j % f < f := Nat.mod_lt _ (by omega)
      have hjb : j ≤ 50000 := by
        have h1 : (m + 1) * f ≤ 8 * 5040 := Nat.mul_le_mul (by omega) hf2
        omega
      have hq : Int.tdiv (j : Int) (f : Int) = ((j / f : Nat) : Int) := rfl
      have hr : Int.tmod (j : Int) (f : Int) = ((j % f : Nat) : Int) := rfl
      obtain ⟨i, hid⟩ : ∃ i, i = j / f := ⟨_, rfl⟩
      obtain ⟨r, hrd⟩ : ∃ r, r = j % f := ⟨_, rfl⟩
      rw [← hid] at hi hq
      rw [← hrd] at hjf hr
      have hfz : ¬ ((f : Int) = 0) := by omega
      have hwq : IntKind.i64.wrap (i : Int) = (i : Int) := IntWalk.i64_in _ (by omega)
      have hwr : IntKind.i64.wrap (r : Int) = (r : Int) := IntWalk.i64_in _ (by omega)
      have hwi : IntKind.i64.wrap ((i : Int) + 1) = (i : Int) + 1 := IntWalk.i64_in _ (by omega)
      have hil : i < x.size := by omega
      have hi1 : (i : Int) + 1 ≤ (x.size : Int) := by omega
      have hi0 : (0 : Int) ≤ (i : Int) + 1 := by omega
      have hi2 : i ≤ x.size := by omega
      have hit : ((i : Int) + 1).toNat = i + 1 := by omega
      have hi3 : i + 1 ≤ x.size := by omega
      have b1 : ¬ 9223372036854775807 < y.size + (x.extract i (i + 1)).size := by rw [ByteArray.size_extract]; omega
      have b2 : ¬ 9223372036854775807 < (x.extract 0 i).size + (x.extract (i + 1) x.size).size := by rw [ByteArray.size_extract, ByteArray.size_extract]; omega
      have hz1 : (y ++ x.extract i (i + 1)).size = y.size + 1 := by rw [ByteArray.size_append, ByteArray.size_extract]; omega
      have hz2 : (x.extract 0 i ++ x.extract (i + 1) x.size).size = m := by rw [ByteArray.size_append, ByteArray.size_extract, ByteArray.size_extract]; omega
      have Hz1 := Lib.hid hz1
      have Hz2 := Lib.hid hz2
      have HF := Lib.hid hf
      have HM := Lib.hid hm
      clear hid hrd hf hj hz1 hz2 hfm hm
      go_wp2_with (first | (go_at_call 129; refine (Hfm.out _).mono ?_; rintro e w' ⟨rfl, rfl⟩))
      go_big_quiet (fail)
      go_wp2_with fail
      refine ⟨⟨_, _, r, rfl, rfl, rfl, ?_, ?_, bw_dr hB _⟩, ?_⟩
      · rw [Hz1.out, Hz2.out]; have := HM.out; omega
      · rw [Hz2.out, ← HF.out]; exact hjf
      · show (x.extract 0 i ++ x.extract (i + 1) x.size).size < x.size
        rw [Hz2.out]; have := HM.out; omega
set_option maxHeartbeats 2000000 in
theorem drawRow_any (w : World) (C lim n : Nat) (h : Cur w C lim) (hl : lim ≤ 100000000) (h3 : 3 ≤ n) (h8 : n ≤ 8) : Calls Tryz.prog 113 #[.pointer (some ⟨C, 0, none⟩), .int .i64 n] w (DrewStr w C (lim + 2) fun s => s.size = n) := by
  have H := Lib.hid h
  clear h
  have hf : 1 ≤ fact8 n ∧ fact8 n ≤ 40320 := by
    have hn9 : n = 3 ∨ n = 4 ∨ n = 5 ∨ n = 6 ∨ n = 7 ∨ n = 8 := by omega
    rcases hn9 with rfl | rfl | rfl | rfl | rfl | rfl <;> decide
  go_enter Tryz.func113, Tryz.ntmps113
  go_wp2_with fail
  refine (l1FactX_any n _ h8).mono ?_; rintro e w1 ⟨rfl, rfl⟩
  go_wp2_with fail
  refine (pick_any w C lim (fact8 n) H.out (by omega) (by omega) (by omega)).mono ?_; rintro e w2 ⟨b, rfl, hb, hc2, hg2⟩
  obtain ⟨k, rfl⟩ : ∃ k : Nat, b = k := ⟨b.toNat, by omega⟩
  have Hc2 := Lib.hid hc2
  have Hg2 := Lib.hid hg2
  clear hc2 hg2
  go_wp2_with fail
  refine (RowOf_any n k w2 h3 h8 (by omega)).mono ?_; rintro e w3 ⟨r, rfl, hr, hb3⟩
  have Hc3 := Lib.hid (Hc2.out.to hb3)
  have Hg3 := Lib.hid (gb_to Hg2.out hb3)
  have Hr := Lib.hid hr
  clear hb3 hb hr
  go_wp2_with fail
  go_ret
  exact ⟨r, rfl, Hr.out, Hc3.out, Hg3.out⟩
set_option maxHeartbeats 2000000 in
theorem anyRow_any (w : World) (C lim : Nat) (h : Cur w C lim) (hl : lim ≤ 10000000) : Calls Tryz.prog 85 #[.pointer (some ⟨C, 0, none⟩)] w (DrewStr w C (lim + 60) fun s => s.size ≤ 20) := by
  have H := Lib.hid h
  clear h
  go_enter Tryz.func85, Tryz.ntmps85
  go_wp2_with fail
  refine (stage_any w C lim H.out (by omega)).mono ?_; rintro e w1 ⟨z, rfl, hz, hc1, hg1⟩
  obtain ⟨n, rfl⟩ : ∃ n : Nat, z = n := ⟨z.toNat, by omega⟩
  have hn8 : n ≤ 8 := by omega
  have hn3 : 3 ≤ n := by omega
  have Hc1 := Lib.hid hc1
  have Hg1 := Lib.hid hg1
  clear hc1 hg1 hz
  go_wp2_with fail
  refine (drawRow_any w1 C _ n Hc1.out (by omega) hn3 hn8).mono ?_; rintro e w2 ⟨r, rfl, hr, hc2, hg2⟩
  have Hc2 := Lib.hid hc2
  have Hg2 := Lib.hid (gb_tr Hg1.out hg2)
  have hr8 : r.size ≤ 8 := by omega
  clear hc2 hg2 hr
  go_wp2_with fail
  refine (one_any w2 C _ 12 Hc2.out (by omega) (by omega) (by omega)).mono ?_; rintro e w3 ⟨b, rfl, hc3, hg3⟩
  have Hc3 := Lib.hid hc3
  have Hg3 := Lib.hid (gb_tr Hg2.out hg3)
  clear hc3 hg3
  cases b
  · go_wp2_with fail
    go_ret
    exact ⟨r, rfl, by omega, Hc3.out.more (by omega), Hg3.out⟩
  · go_wp2_with fail
    refine (spoiltX_any w3 C _ r ⟨#[49, 50, 57, 48]⟩ Hc3.out (by omega) (by omega) (by decide) (by decide)).mono ?_; rintro e w4 ⟨u, rfl, hu, hc4, hg4⟩
    have Hc4 := Lib.hid hc4
    have Hg4 := Lib.hid (gb_tr Hg3.out hg4)
    have hu8 : u.size ≤ 20 := by omega
    clear hc4 hg4 hu
    go_wp2_with fail
    go_ret
    exact ⟨u, rfl, hu8, Hc4.out.more (by omega), Hg4.out⟩
end Go.Proofs.YtheppimoncokcaaGreat

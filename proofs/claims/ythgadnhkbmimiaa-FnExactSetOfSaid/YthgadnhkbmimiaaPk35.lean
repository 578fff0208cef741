/- impl.leftTimes, impl.sorted, impl.blocks.setOf. -/
import Derived.Test.YthgadnhkbmimiaaPk34
import Derived.Test.YthgadnhkbmimiaaPk23
import Derived.Test.YthgadnhkbmimiaaPk13
namespace Go.Proofs.Ythgadnhkbmimiaa
open Go Go.RowKit
set_option linter.unusedVariables false
set_option linter.unusedSimpArgs false

theorem nilOk_own {w : World} {base n c : Nat} {e : TypeId} {A : Option Addr} {xs : List Value} (h : w.ownsRow base e 1 (.slice A n c) n xs) (hn : 1 ≤ n) : NilOk (.slice A n c) := by
  obtain ⟨g, rfl, _⟩ := own_ptr h hn
  intro a b hh
  cases hh
theorem strs_own_n {w : World} {base n q : Nat} {A : Option Addr} {l : List ByteArray} (hl : l.length = n) (h : w.ownsRow base 9 1 (.slice A n q) n (l.map Value.string)) : Strs w (.slice A n q) l := by
  subst hl; exact strs_of_own h
set_option maxRecDepth 10000 in
set_option maxHeartbeats 2000000 in
theorem leftTimes_any (a : ByteArray) (V : Value) (l : List ByteArray) (w : World) (ha : a.size ≤ 1048576) (hV : Strs w V l) (hl : l.length ≤ 100000000) (hin : ∀ b ∈ l, b.size ≤ 1048576 ∧ ∀ i (h : i < b.size), 49 ≤ b[i].toNat ∧ b[i].toNat < 49 + a.size) : Calls Try.prog 101 #[.string a, V] w fun e w' =>
    ∃ A q, e = .returned (.slice A l.length q) ∧ w'.ownsRow w.heap.size 9 1 (.slice A l.length q) l.length ((l.map (timesB a)).map Value.string) ∧ Below w.heap.size w w' := by
  obtain ⟨A, c, rfl, h1, h2, hrd⟩ := hV
  unfold maxLen at h2
  have Htm := Lib.hid (fun b (hb : b ∈ l) W => times_any a b W ha (hin b hb).1 (hin b hb).2)
  clear hin
  go_enter Try.func101, Try.ntmps101
  go_wp2_with fail
  refine box1 (C := fun W => Code.wp _ _ _ _ W) ?_
  intro wb hw k1 hB0
  have hown0 : wb.ownsRow w.heap.size 9 1 (.slice (some ⟨w.heap.size, 0, none⟩) 0 0) 0 [] := own_of_heap k1 (Nat.le_refl _) (by unfold maxLen; omega) rfl
  clear k1
  go_loopw [5, 11] (fun o i wr => ∃ (k : Nat) (A' : Option Addr) (q : Nat), k ≤ l.length ∧ i = .int .i64 k ∧ o = .slice A' k q ∧ wr.ownsRow w.heap.size 9 1 (.slice A' k q) k (((l.take k).map (timesB a)).map Value.string) ∧ Below w.heap.size w wr) (fun _ i _ => l.length - (intOf i).toNat)
  case atStart => exact ⟨0, _, 0, by omega, rfl, rfl, hown0, hw⟩
  case round =>
    obtain ⟨k, A', q, hk, rfl, rfl, hown, hB⟩ := hrel
    by_cases hlt : k < l.length
    · obtain ⟨ad, rfl, hC⟩ := strs_el hrd hlt
      have hC0 := hC wr hB
      have Hs : Hid ((l.take (k + 1)).map (timesB a) = (l.take k).map (timesB a) ++ [timesB a l[k]]) := Lib.hid (by rw [List.take_succ_eq_append_getElem hlt, List.map_append]; rfl)
      have Ht := Lib.hid (Htm.out l[k] (List.getElem_mem hlt))
      obtain ⟨c', hc'⟩ : ∃ c, c = l[k] := ⟨_, rfl⟩
      rw [← hc'] at hC0 Hs Ht
      clear hC hc'
      go_wp2_with fail
      refine (Ht.out _).mono ?_; rintro e w2 ⟨rfl, hb2⟩
      have hown2 := own_to hown hb2
      have hB2 := bw_to hB hb2
      obtain ⟨y, hy⟩ : ∃ y, y = timesB a c' := ⟨_, rfl⟩
      rw [← hy] at Hs ⊢
      clear hy
      go_wp2_with (at_builtin; go_must (refine wpList_app _ rfl _ _ _ rfl w.heap.size 9 _ 1 16 Try.underlying22 info_str rfl (by omega) hown2 [.string y] rfl rfl rfl (one_mem rfl) (by omega) (by omega) hB2.size ?_); intro v2 w3 hown3 hb3 hg3 _)
      obtain ⟨A2, q2, e2, _⟩ := sl_of_own hown3
      subst e2
      refine ⟨⟨k + 1, A2, q2, by omega, by go_num, rfl, ?_, hB2.trans hb3⟩, by simp [intOf]; omega⟩
      rw [← str_snoc Hs.out]
      exact hown3
    · obtain rfl : k = l.length := by omega
      rw [List.take_length] at hown
      go_wp2_with fail
      go_ret
      exact ⟨_, _, rfl, hown, hB⟩
set_option maxHeartbeats 2000000 in
theorem sorted_any (V : Value) (l : List ByteArray) (w : World) (hV : Strs w V l) (hN : NilOk V) (h1 : 1 ≤ l.length) (hl : l.length ≤ 20000000) : Calls Try.prog 100 #[V] w fun e w' =>
    ∃ A q, e = .returned (.slice A l.length q) ∧ w'.ownsRow w.heap.size 9 1 (.slice A l.length q) l.length ((sortB l).map Value.string) ∧ Below w.heap.size w w' := by
  have Hc := Lib.hid (cloneStr_any V l w hV hN hl)
  clear hV
  go_enter Try.func100, Try.ntmps100
  go_wp2_with fail
  refine Hc.out.mono ?_; rintro e w1 ⟨r, rfl, hown, hb1⟩
  obtain ⟨A, c, rfl, _⟩ := sl_of_own hown
  obtain ⟨g, rfl, hg⟩ := own_ptr hown (by omega)
  have Hs := Lib.hid (sortS_any g l.length c w.heap.size l w1 hown (by omega))
  clear hown
  go_wp2_with fail
  refine Hs.out.mono ?_; rintro e w2 ⟨rfl, hown2, hb2, hz⟩
  go_wp2_with fail
  go_ret
  exact ⟨_, _, rfl, hown2, bw_tr hb1 hb2 (Nat.le_refl _)⟩
set_option maxHeartbeats 2000000 in
theorem setOfI_any (n K : Nat) (P B Q h : ByteArray) (gv : Value) (w : World) (hn : n ≤ 8) (hQ : RowIn n Q) (hh : RowIn n h) (hK : IsOrd n Q K) (hKb : K ≤ 16777216) (hf : ∃ A l c, gv = .slice A l c) : Calls Try.prog 57 #[.agg #[.string P, .string B, gv, .string Q], .string h] w fun e w' =>
    ∃ A q, e = .returned (.slice A K q) ∧ w'.ownsRow w.heap.size 9 1 (.slice A K q) K ((sortB (setB n Q h K)).map Value.string) ∧ Below w.heap.size w w' := by
  have hK1 := hK.1
  have Hp := Lib.hid (fun W => powers_any Q n K W hn hQ hK (by omega))
  have Hl := Lib.hid (fun V W (hV : Strs W V (powL n Q K)) => leftTimes_any h V (powL n Q K) W (by rw [hh.1]; omega) hV (by rw [powL_len]; omega) (fun b hb => by
    obtain ⟨j, _, rfl⟩ := List.mem_map.1 hb
    exact ⟨by rw [(pow_in hn hQ j).1]; omega, row_hin hh.1 (pow_in hn hQ j)⟩))
  have Hs := Lib.hid (fun V W (hV : Strs W V (setB n Q h K)) (hN : NilOk V) => sorted_any V (setB n Q h K) W hV hN (by rw [setB_len]; omega) (by rw [setB_len]; omega))
  rw [powL_len] at Hl
  rw [setB_len] at Hs
  obtain ⟨A, l, c, rfl⟩ := hf
  clear hK hQ hh
  go_enter Try.func57, Try.ntmps57
  go_wp2_with fail
  refine box1 (C := fun W => Calls _ _ _ W _) ?_
  intro wb hw k1 hB0
  clear k1
  refine (Hp.out _).mono ?_; rintro e w1 ⟨A1, q1, rfl, hown1, hb1⟩
  have hB1 := bw_to hw hb1
  have S1 := strs_own_n (powL_len n Q K) hown1
  go_wp2_with fail
  refine (Hl.out _ _ S1).mono ?_; rintro e w2 ⟨A2, q2, rfl, hown2, hb2⟩
  have hB2 := bw_to hB1 hb2
  have S2 : Strs w2 (.slice A2 K q2) (setB n Q h K) := strs_own_n (setB_len n Q h K) hown2
  have hN := nilOk_own hown2 hK1
  clear hown1 S1 hown2
  go_wp2_with fail
  refine (Hs.out _ _ S2 hN).mono ?_; rintro e w3 ⟨A3, q3, rfl, hown3, hb3⟩
  go_wp2_with fail
  go_ret
  exact ⟨_, _, rfl, own_base hown3 hB2.size, bw_to hB2 hb3⟩
end Go.Proofs.Ythgadnhkbmimiaa

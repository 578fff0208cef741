/- Contracts: a block and its mirror image; a notation's block as a row of blocks. -/
import Derived.Test.YtenhnloljdfjhaaDoorPk33
import Derived.Test.YtenhnloljdfjhaaDoorPk9
namespace Go.Proofs.YtenhnloljdfjhaaDoor
open Go Go.RowKit
set_option linter.unusedVariables false
set_option linter.unusedSimpArgs false

/-- The block and the first m of its mirror image. -/
def mirT (l : List ByteArray) (m : Nat) : List ByteArray := l ++ l.dropLast.reverse.take m
theorem mirT_zero (l : List ByteArray) : mirT l 0 = l := by simp [mirT]
theorem mirT_end {l : List ByteArray} {m : Nat} (h : l.length ≤ m + 1) : mirT l m = mirL l := by
  unfold mirT mirL
  rw [List.take_of_length_le (by simp; omega)]
theorem mirT_len {l : List ByteArray} {m : Nat} (h : m + 1 ≤ l.length) : (mirT l m).length = l.length + m := by
  unfold mirT; simp; omega
theorem mirT_succ {l : List ByteArray} {m : Nat} (h : m + 2 ≤ l.length) : mirT l (m + 1) = mirT l m ++ [l[l.length - 2 - m]'(by omega)] := by
  unfold mirT
  rw [List.take_succ_eq_append_getElem (by simp; omega), ← List.append_assoc]
  congr 2
  rw [List.getElem_reverse, List.getElem_dropLast]
  congr 1
  simp
  omega
theorem mirL_len (l : List ByteArray) : (mirL l).length = l.length + (l.length - 1) := by simp [mirL]
def MirPost (w : World) (l : List ByteArray) (e : Ending) (w' : World) : Prop := ∃ A c, e = .returned (.slice A (mirL l).length c) ∧ w'.ownsRow w.heap.size 9 1 (.slice A (mirL l).length c) (mirL l).length ((mirL l).map Value.string) ∧ Below w.heap.size w w'
set_option maxRecDepth 100000 in
set_option maxHeartbeats 4000000 in
theorem mirrored_any (v : Value) (l : List ByteArray) (w : World) (h : Strs w v l) (hn : NilOk v) (hlen : l.length ≤ 10000000) : Calls Tryd.prog 33 #[v] w (MirPost w l) := by
  have Hcl := Lib.hid (cloneStr_any v l w h hn (by omega))
  obtain ⟨A, c, rfl, h1, h2, hr⟩ := h
  unfold maxLen at h2
  have HR := Lib.hid hr
  clear hr
  have hw1 : IntKind.i64.wrap ((l.length : Int) - 2) = (l.length : Int) - 2 := IntWalk.i64_in _ ⟨by omega, by omega⟩
  go_enter Tryd.func33, Tryd.ntmps33
  go_wp2_with fail
  refine Hcl.out.mono ?_; rintro e w1 ⟨r, rfl, hown, hb1⟩
  obtain ⟨A1, c1, rfl⟩ := nb_slice hown
  go_wp2_with fail
  go_loopw [3, 4] (fun v i wr => ∃ (m : Nat) (A1 : Option Addr) (c1 : Nat), (m = 0 ∨ m + 1 ≤ l.length) ∧ v = .slice A1 (l.length + m) c1 ∧ i = .int .i64 ((l.length : Int) - 2 - m) ∧ Below w.heap.size w wr ∧ wr.ownsRow w.heap.size 9 1 (.slice A1 (l.length + m) c1) (l.length + m) ((mirT l m).map Value.string)) (fun _ i _ => ((match i with | .int _ z => z + 1 | _ => 0) : Int).toNat)
  case atStart => exact ⟨0, A1, c1, .inl rfl, rfl, by simp, hb1, by rw [mirT_zero]; exact hown⟩
  case round =>
    obtain ⟨m, A2, c2, hm, rfl, rfl, hB, ho⟩ := hrel
    have Ho := Lib.hid ho
    clear ho
    by_cases hlt : m + 2 ≤ l.length
    · have hk : l.length - 2 - m < l.length := by omega
      have he : (l.length : Int) - 2 - m = ((l.length - 2 - m : Nat) : Int) := by omega
      obtain ⟨ad, hA, hC⟩ := strs_el HR.out hk
      subst hA
      have q := hC wr hB
      have Hs := Lib.hid (mirT_succ hlt)
      obtain ⟨x, hx⟩ : ∃ x, x = l[l.length - 2 - m] := ⟨_, rfl⟩
      rw [← hx] at q Hs
      rw [he]
      obtain ⟨k, hk2⟩ : ∃ k, k = l.length - 2 - m := ⟨_, rfl⟩
      rw [← hk2] at q hk ⊢
      have hw2 : IntKind.i64.wrap ((k : Int) - 1) = (k : Int) - 1 := IntWalk.i64_in _ ⟨by omega, by omega⟩
      have Hk2 := Lib.hid hk2
      clear hx hC he hk2
      go_wp2_with (at_builtin; go_must (refine wpList_app _ rfl _ _ _ rfl w.heap.size 9 _ 1 16 Tryd.underlying28 info_str rfl (by omega) Ho.out [.string x] rfl rfl rfl (one_mem rfl) (by omega) (by omega) hB.size ?_); intro v2 w3 hown3 hb3 hg3 _; (obtain ⟨A3, q3, rfl⟩ := nb_slice hown3); (have Hown3 := Lib.hid hown3); (have Hb3 := Lib.hid hb3); clear hown3 hb3 hg3)
      have hml := mirT_len (l := l) (m := m) (by omega)
      refine ⟨⟨m + 1, A3, q3, .inr (by omega), rfl, ?_, hB.trans Hb3.out, ?_⟩, ?_⟩
      · have h := Hk2.out
        congr 1
        omega
      · rw [Hs.out, List.map_append]
        exact Hown3.out
      · have h := Hk2.out
        show ((k : Int) - 1 + 1).toNat < ((k : Int) + 1).toNat
        omega
    · have hz : decide ((0 : Int) ≤ (l.length : Int) - 2 - m) = false := decide_eq_false (by omega)
      have e := Lib.hid (mirT_end (l := l) (m := m) (by omega))
      have hml : (mirL l).length = l.length + m := by rw [mirL_len]; omega
      have Hml := Lib.hid hml
      clear hml
      go_wp2_with fail
      go_ret
      refine ⟨A2, c2, by rw [Hml.out]; rfl, ?_, hB⟩
      rw [Hml.out, ← e.out]
      exact Ho.out
set_option maxRecDepth 100000 in
set_option maxHeartbeats 4000000 in
theorem l3Mirror_any (v : Value) (l : List ByteArray) (w : World) (h : Strs w v l) (hn : NilOk v) (hlen : l.length ≤ 10000000) : Calls Tryd.prog 26 #[v] w (MirPost w l) := by
  have Hcl := Lib.hid (l1OwnS_any v l w h hn (by omega))
  obtain ⟨A, c, rfl, h1, h2, hr⟩ := h
  unfold maxLen at h2
  have HR := Lib.hid hr
  clear hr
  have hw1 : IntKind.i64.wrap ((l.length : Int) - 2) = (l.length : Int) - 2 := IntWalk.i64_in _ ⟨by omega, by omega⟩
  go_enter Tryd.func26, Tryd.ntmps26
  go_wp2_with fail
  refine Hcl.out.mono ?_; rintro e w1 ⟨r, rfl, hown, hb1⟩
  obtain ⟨A1, c1, rfl⟩ := nb_slice hown
  go_wp2_with fail
  go_loopw [3, 4] (fun v i wr => ∃ (m : Nat) (A1 : Option Addr) (c1 : Nat), (m = 0 ∨ m + 1 ≤ l.length) ∧ v = .slice A1 (l.length + m) c1 ∧ i = .int .i64 ((l.length : Int) - 2 - m) ∧ Below w.heap.size w wr ∧ wr.ownsRow w.heap.size 9 1 (.slice A1 (l.length + m) c1) (l.length + m) ((mirT l m).map Value.string)) (fun _ i _ => ((match i with | .int _ z => z + 1 | _ => 0) : Int).toNat)
  case atStart => exact ⟨0, A1, c1, .inl rfl, rfl, by simp, hb1, by rw [mirT_zero]; exact hown⟩
  case round =>
    obtain ⟨m, A2, c2, hm, rfl, rfl, hB, ho⟩ := hrel
    have Ho := Lib.hid ho
    clear ho
    by_cases hlt : m + 2 ≤ l.length
    · have hk : l.length - 2 - m < l.length := by omega
      have he : (l.length : Int) - 2 - m = ((l.length - 2 - m : Nat) : Int) := by omega
      obtain ⟨ad, hA, hC⟩ := strs_el HR.out hk
      subst hA
      have q := hC wr hB
      have Hs := Lib.hid (mirT_succ hlt)
      obtain ⟨x, hx⟩ : ∃ x, x = l[l.length - 2 - m] := ⟨_, rfl⟩
      rw [← hx] at q Hs
      rw [he]
      obtain ⟨k, hk2⟩ : ∃ k, k = l.length - 2 - m := ⟨_, rfl⟩
      rw [← hk2] at q hk ⊢
      have hw2 : IntKind.i64.wrap ((k : Int) - 1) = (k : Int) - 1 := IntWalk.i64_in _ ⟨by omega, by omega⟩
      have Hk2 := Lib.hid hk2
      clear hx hC he hk2
      go_wp2_with (at_builtin; go_must (refine wpList_app _ rfl _ _ _ rfl w.heap.size 9 _ 1 16 Tryd.underlying28 info_str rfl (by omega) Ho.out [.string x] rfl rfl rfl (one_mem rfl) (by omega) (by omega) hB.size ?_); intro v2 w3 hown3 hb3 hg3 _; (obtain ⟨A3, q3, rfl⟩ := nb_slice hown3); (have Hown3 := Lib.hid hown3); (have Hb3 := Lib.hid hb3); clear hown3 hb3 hg3)
      have hml := mirT_len (l := l) (m := m) (by omega)
      refine ⟨⟨m + 1, A3, q3, .inr (by omega), rfl, ?_, hB.trans Hb3.out, ?_⟩, ?_⟩
      · have h := Hk2.out
        congr 1
        omega
      · rw [Hs.out, List.map_append]
        exact Hown3.out
      · have h := Hk2.out
        show ((k : Int) - 1 + 1).toNat < ((k : Int) + 1).toNat
        omega
    · have hz : decide ((0 : Int) ≤ (l.length : Int) - 2 - m) = false := decide_eq_false (by omega)
      have e := Lib.hid (mirT_end (l := l) (m := m) (by omega))
      have hml : (mirL l).length = l.length + m := by rw [mirL_len]; omega
      have Hml := Lib.hid hml
      clear hml
      go_wp2_with fail
      go_ret
      refine ⟨A2, c2, by rw [Hml.out]; rfl, ?_, hB⟩
      rw [Hml.out, ← e.out]
      exact Ho.out
end Go.Proofs.YtenhnloljdfjhaaDoor

/- Contracts: the text of changes; lists that read the same both ways. -/
import Derived.Test.YtenhnloljdfjhaaDoorPk10
import Derived.Test.YtenhnloljdfjhaaDoorPk21
namespace Go.Proofs.YtenhnloljdfjhaaDoor
open Go Go.RowKit
set_option linter.unusedVariables false
set_option linter.unusedSimpArgs false

def dashT : ByteArray := ⟨#[45]⟩
/-- The text of the first k changes. -/
def txTo (l : List ByteArray) : Nat → ByteArray
  | 0 => ⟨#[]⟩
  | k + 1 => (if 0 < k ∧ ¬ l.getD k dashT = dashT ∧ ¬ l.getD (k - 1) dashT = dashT then txTo l k ++ ⟨#[46]⟩ else txTo l k) ++ l.getD k dashT
def txt (l : List ByteArray) : ByteArray := txTo l l.length
theorem txTo_dot {l : List ByteArray} {k : Nat} {x y : ByteArray} (hx : l.getD k dashT = x) (hy : l.getD (k - 1) dashT = y) (h : 0 < k) (h1 : ¬ x = dashT) (h2 : ¬ y = dashT) : txTo l (k + 1) = txTo l k ++ ⟨#[46]⟩ ++ x := by
  rw [txTo, hx, hy, if_pos ⟨h, h1, h2⟩]
theorem txTo_no {l : List ByteArray} {k : Nat} {x y : ByteArray} (hx : l.getD k dashT = x) (hy : l.getD (k - 1) dashT = y) (h : ¬ (0 < k ∧ ¬ x = dashT ∧ ¬ y = dashT)) : txTo l (k + 1) = txTo l k ++ x := by
  rw [txTo, hx, hy, if_neg h]
theorem txTo_size {l : List ByteArray} {B : Nat} (h : ∀ x ∈ l, x.size ≤ B) : ∀ k, k ≤ l.length → (txTo l k).size ≤ (B + 1) * k := by
  intro k
  induction k with
  | zero => intro _; exact Nat.zero_le _
  | succ k ih =>
    intro hk
    have ih' := ih (by omega)
    have hx : (l.getD k dashT).size ≤ B := by
      rw [List.getD_eq_getElem?_getD, List.getElem?_eq_getElem (by omega)]
      exact h _ (List.getElem_mem _)
    have h1 : (⟨#[46]⟩ : ByteArray).size = 1 := rfl
    rw [txTo, Nat.mul_succ]
    split
    · rw [ByteArray.size_append, ByteArray.size_append]; omega
    · rw [ByteArray.size_append]; omega
theorem dash_eq (x : ByteArray) : (x.toList == [45]) = true ↔ x = dashT := by
  rw [beq_iff_eq, bytes_toList]
  constructor
  · intro h
    apply ByteArray.ext
    exact Array.toList_inj.1 h
  · rintro rfl; rfl
def pal (l : List ByteArray) : Bool := (List.range l.length).all fun i => decide (l.getD i dashT = l.getD (l.length - 1 - i) dashT)
theorem getD_of {l : List ByteArray} {k : Nat} (h : k < l.length) : l.getD k dashT = l[k] := by
  rw [List.getD_eq_getElem?_getD, List.getElem?_eq_getElem h]; rfl
set_option maxRecDepth 10000 in
set_option maxHeartbeats 2000000 in
theorem notationText_any (v : Value) (l : List ByteArray) (w : World) (h : Strs w v l) (hf : ∀ x ∈ l, x.size ≤ 1048576) (hlen : l.length ≤ 1000) : Calls Tryd.prog 54 #[v] w fun e w' => e = .returned (.string (txt l)) ∧ w = w' := by
  obtain ⟨A, c, rfl, h1, h2, hr⟩ := h
  unfold maxLen at h2
  have Hsz := Lib.hid (txTo_size hf)
  have Hf := Lib.hid hf
  have hB := Below.refl w.heap.size w
  clear hf
  go_enter Tryd.func54, Tryd.ntmps54
  go_wp2_with fail
  go_loop [3, 8] (fun z i => ∃ (k : Nat) (s : ByteArray), k ≤ l.length ∧ i = .int .i64 k ∧ z = .string s ∧ s = txTo l k) (fun _ i => l.length - (intOf i).toNat)
  case atStart => exact ⟨0, _, by omega, rfl, rfl, rfl⟩
  case round =>
    obtain ⟨k, s, hk, rfl, rfl, hs⟩ := hrel
    have hss := Hsz.out k hk
    rw [← hs] at hss
    have Hs := Lib.hid hs
    clear hs
    by_cases hlt : k < l.length
    · obtain ⟨ad, rfl, hC⟩ := strs_el hr hlt
      have c0 := hC w hB
      have hxs := Hf.out l[k] (List.getElem_mem hlt)
      have Hx := Lib.hid (getD_of hlt)
      obtain ⟨x, ex⟩ : ∃ x, x = l[k] := ⟨_, rfl⟩
      rw [← ex] at c0 hxs Hx
      by_cases hk0 : 0 < k
      · obtain ⟨ad', e', hC'⟩ := strs_el hr (k := k - 1) (by omega)
        cases e'
        have c1 := hC' w hB
        have Hy := Lib.hid (getD_of (l := l) (k := k - 1) (by omega))
        obtain ⟨y, ey⟩ : ∃ y, y = l[k - 1] := ⟨_, rfl⟩
        rw [← ey] at c1 Hy
        have hw1 : IntKind.i64.wrap ((k : Int) - 1) = (k : Int) - 1 := IntWalk.i64_in _ (by omega)
        have hi0 : (0 : Int) ≤ (k : Int) - 1 := by omega
        have hi1 : ((k : Int) - 1).toNat = k - 1 := by omega
        have hi2 : (k : Int) - 1 < l.length := by omega
        have hd : (0 : Int) < (k : Int) := by omega
        have o1 : s.size + 1 + x.size ≤ 9223372036854775807 := by omega
        have o2 : s.size + 1 ≤ 9223372036854775807 := by omega
        have o3 : s.size + x.size ≤ 9223372036854775807 := by omega
        clear hC hC' ex ey hr
        have Ex := Lib.hid (dash_eq x)
        have Ey := Lib.hid (dash_eq y)
        cases hx1 : (x.toList == [45])
        · have hx2 : ¬ x.toList = [45] := by rw [beq_eq_false_iff_ne] at hx1; exact hx1
          have Hxn : Hid (¬ x = dashT) := Lib.hid (fun h => hx2 (eq_of_beq (Ex.out.2 h)))
          cases hy1 : (y.toList == [45])
          · have hy2 : ¬ y.toList = [45] := by rw [beq_eq_false_iff_ne] at hy1; exact hy1
            have Hyn : Hid (¬ y = dashT) := Lib.hid (fun h => hy2 (eq_of_beq (Ey.out.2 h)))
            have Hn := Lib.hid (txTo_dot Hx.out Hy.out hk0 Hxn.out Hyn.out)
            go_wp2_with fail
            exact ⟨⟨k + 1, _, by omega, by go_num, rfl, by rw [Hn.out, ← Hs.out]⟩, by simp [intOf]; omega⟩
          · have hy2 : y.toList = [45] := eq_of_beq hy1
            have Hn := Lib.hid (txTo_no Hx.out Hy.out (fun h => h.2.2 (Ey.out.1 hy1)))
            go_wp2_with fail
            exact ⟨⟨k + 1, _, by omega, by go_num, rfl, by rw [Hn.out, ← Hs.out]⟩, by simp [intOf]; omega⟩
        · have hx2 : x.toList = [45] := eq_of_beq hx1
          have Hn := Lib.hid (txTo_no Hx.out Hy.out (fun h => h.2.1 (Ex.out.1 hx1)))
          go_wp2_with fail
          exact ⟨⟨k + 1, _, by omega, by go_num, rfl, by rw [Hn.out, ← Hs.out]⟩, by simp [intOf]; omega⟩
      · have hk00 : k = 0 := by omega
        have Hn := Lib.hid (txTo_no (y := l.getD (k - 1) dashT) Hx.out rfl (fun h => hk0 h.1))
        subst hk00
        rw [add_zero'] at c0
        have o3 : s.size + x.size ≤ 9223372036854775807 := by omega
        clear hC ex hr hk0
        go_wp2_with fail
        exact ⟨⟨1, _, by omega, by go_num, rfl, by rw [Hn.out, ← Hs.out]⟩, by simp [intOf]; omega⟩
    · obtain rfl : k = l.length := by omega
      go_wp2_with fail
      go_ret
      exact ⟨by rw [Hs.out]; rfl, rfl⟩
set_option maxRecDepth 10000 in
set_option maxHeartbeats 2000000 in
theorem l3Text_any (v : Value) (l : List ByteArray) (w : World) (h : Strs w v l) (hf : ∀ x ∈ l, x.size ≤ 1048576) (hlen : l.length ≤ 1000) : Calls Tryd.prog 44 #[v] w fun e w' => e = .returned (.string (txt l)) ∧ w = w' := by
  obtain ⟨A, c, rfl, h1, h2, hr⟩ := h
  unfold maxLen at h2
  have Hsz := Lib.hid (txTo_size hf)
  have Hf := Lib.hid hf
  have hB := Below.refl w.heap.size w
  clear hf
  go_enter Tryd.func44, Tryd.ntmps44
  go_wp2_with fail
  go_loop [3, 8] (fun z i => ∃ (k : Nat) (s : ByteArray), k ≤ l.length ∧ i = .int .i64 k ∧ z = .string s ∧ s = txTo l k) (fun _ i => l.length - (intOf i).toNat)
  case atStart => exact ⟨0, _, by omega, rfl, rfl, rfl⟩
  case round =>
    obtain ⟨k, s, hk, rfl, rfl, hs⟩ := hrel
    have hss := Hsz.out k hk
    rw [← hs] at hss
    have Hs := Lib.hid hs
    clear hs
    by_cases hlt : k < l.length
    · obtain ⟨ad, rfl, hC⟩ := strs_el hr hlt
      have c0 := hC w hB
      have hxs := Hf.out l[k] (List.getElem_mem hlt)
      have Hx := Lib.hid (getD_of hlt)
      obtain ⟨x, ex⟩ : ∃ x, x = l[k] := ⟨_, rfl⟩
      rw [← ex] at c0 hxs Hx
      by_cases hk0 : 0 < k
      · obtain ⟨ad', e', hC'⟩ := strs_el hr (k := k - 1) (by omega)
        cases e'
        have c1 := hC' w hB
        have Hy := Lib.hid (getD_of (l := l) (k := k - 1) (by omega))
        obtain ⟨y, ey⟩ : ∃ y, y = l[k - 1] := ⟨_, rfl⟩
        rw [← ey] at c1 Hy
        have hw1 : IntKind.i64.wrap ((k : Int) - 1) = (k : Int) - 1 := IntWalk.i64_in _ (by omega)
        have hi0 : (0 : Int) ≤ (k : Int) - 1 := by omega
        have hi1 : ((k : Int) - 1).toNat = k - 1 := by omega
        have hi2 : (k : Int) - 1 < l.length := by omega
        have hd : (0 : Int) < (k : Int) := by omega
        have o1 : s.size + 1 + x.size ≤ 9223372036854775807 := by omega
        have o2 : s.size + 1 ≤ 9223372036854775807 := by omega
        have o3 : s.size + x.size ≤ 9223372036854775807 := by omega
        clear hC hC' ex ey hr
        have Ex := Lib.hid (dash_eq x)
        have Ey := Lib.hid (dash_eq y)
        cases hx1 : (x.toList == [45])
        · have hx2 : ¬ x.toList = [45] := by rw [beq_eq_false_iff_ne] at hx1; exact hx1
          have Hxn : Hid (¬ x = dashT) := Lib.hid (fun h => hx2 (eq_of_beq (Ex.out.2 h)))
          cases hy1 : (y.toList == [45])
          · have hy2 : ¬ y.toList = [45] := by rw [beq_eq_false_iff_ne] at hy1; exact hy1
            have Hyn : Hid (¬ y = dashT) := Lib.hid (fun h => hy2 (eq_of_beq (Ey.out.2 h)))
            have Hn := Lib.hid (txTo_dot Hx.out Hy.out hk0 Hxn.out Hyn.out)
            go_wp2_with fail
            exact ⟨⟨k + 1, _, by omega, by go_num, rfl, by rw [Hn.out, ← Hs.out]⟩, by simp [intOf]; omega⟩
          · have hy2 : y.toList = [45] := eq_of_beq hy1
            have Hn := Lib.hid (txTo_no Hx.out Hy.out (fun h => h.2.2 (Ey.out.1 hy1)))
            go_wp2_with fail
            exact ⟨⟨k + 1, _, by omega, by go_num, rfl, by rw [Hn.out, ← Hs.out]⟩, by simp [intOf]; omega⟩
        · have hx2 : x.toList = [45] := eq_of_beq hx1
          have Hn := Lib.hid (txTo_no Hx.out Hy.out (fun h => h.2.1 (Ex.out.1 hx1)))
          go_wp2_with fail
          exact ⟨⟨k + 1, _, by omega, by go_num, rfl, by rw [Hn.out, ← Hs.out]⟩, by simp [intOf]; omega⟩
      · have hk00 : k = 0 := by omega
        have Hn := Lib.hid (txTo_no (y := l.getD (k - 1) dashT) Hx.out rfl (fun h => hk0 h.1))
        subst hk00
        rw [add_zero'] at c0
        have o3 : s.size + x.size ≤ 9223372036854775807 := by omega
        clear hC ex hr hk0
        go_wp2_with fail
        exact ⟨⟨1, _, by omega, by go_num, rfl, by rw [Hn.out, ← Hs.out]⟩, by simp [intOf]; omega⟩
    · obtain rfl : k = l.length := by omega
      go_wp2_with fail
      go_ret
      exact ⟨by rw [Hs.out]; rfl, rfl⟩
end Go.Proofs.YtenhnloljdfjhaaDoor

/- Plain facts: the least turn does not see how a touch is turned or reversed. -/
import Derived.Test.YtamneiffhohleaaU3
namespace Go.Proofs.Ytamneiffhohleaa
open Go Go.RowKit
set_option linter.unusedVariables false
set_option linter.unusedSimpArgs false

theorem ba_ext {a b : ByteArray} (h : a.data.toList = b.data.toList) : a = b := ByteArray.ext (Array.toList_inj.1 h)
def leBA (a b : ByteArray) : Prop := ¬ b.data.toList < a.data.toList
theorem leBA_refl (a : ByteArray) : leBA a a := List.lt_irrefl _
theorem leBA_trans {a b c : ByteArray} (h : leBA a b) (h' : leBA b c) : leBA a c := by
  unfold leBA at *
  exact List.not_lt.2 (List.le_trans (List.not_lt.1 h) (List.not_lt.1 h'))
theorem leBA_anti {a b : ByteArray} (h : leBA a b) (h' : leBA b a) : a = b := ba_ext (List.le_antisymm (List.not_lt.1 h) (List.not_lt.1 h'))
theorem minS_or (a b : ByteArray) : Lib.minS a b = a ∨ Lib.minS a b = b := by unfold Lib.minS; split <;> simp
theorem minS_le1 (a b : ByteArray) : leBA (Lib.minS a b) a := by
  unfold Lib.minS
  split
  · exact leBA_refl a
  · rename_i h
    intro h'
    exact h (.inl h')
theorem minS_le2 (a b : ByteArray) : leBA (Lib.minS a b) b := by
  unfold Lib.minS
  split
  · rename_i h
    intro h'
    rcases h with h | h
    · exact absurd (List.lt_trans h h') (List.lt_irrefl _)
    · rw [h] at h'; exact absurd h' (List.lt_irrefl _)
  · exact leBA_refl b
/-- m is the least of a set. -/
def Least (S : ByteArray → Prop) (m : ByteArray) : Prop := S m ∧ ∀ x, S x → leBA m x
theorem least_uniq {S : ByteArray → Prop} {m m' : ByteArray} (h : Least S m) (h' : Least S m') : m = m' := leBA_anti (h.2 _ h'.1) (h'.2 _ h.1)
def Rots (s : ByteArray) (x : ByteArray) : Prop := ∃ k, k < s.size ∧ x = rotT s k
theorem split_at {α : Type} (l : List α) {n : Nat} (h : n ≤ l.length) : ∃ a b, l = a ++ b ∧ a.length = n := ⟨l.take n, l.drop n, (List.take_append_drop n l).symm, by simp; omega⟩
theorem rl_app {α : Type} (a b : List α) {n : Nat} (h : a.length = n) : (a ++ b).drop n ++ (a ++ b).take n = b ++ a := by subst h; simp
theorem rot_list {s : ByteArray} {k : Nat} (h : k ≤ s.size) : (rotT s k).data.toList = s.data.toList.drop k ++ s.data.toList.take k := by
  unfold rotT
  rw [ByteArray.data_append, Array.toList_append, ext_list, ext_list]
  simp only [List.drop_zero, Nat.sub_zero]
  congr 1
  exact List.take_of_length_le (by simp)
theorem rot_zero (s : ByteArray) : rotT s 0 = s := by
  apply ba_ext
  rw [rot_list (by omega)]
  simp
theorem leastTo_in (s : ByteArray) : ∀ k, k ≤ s.size → (leastTo s k = s ∨ ∃ j, j < k ∧ leastTo s k = rotT s j)
  | 0, _ => .inl rfl
  | k + 1, h => by
    rw [leastTo_succ]
    rcases minS_or (leastTo s k) (rotT s k) with e | e
    · rw [e]
      rcases leastTo_in s k (by omega) with e' | ⟨j, hj, e'⟩
      · exact .inl e'
      · exact .inr ⟨j, by omega, e'⟩
    · exact .inr ⟨k, by omega, e⟩
theorem leastTo_le (s : ByteArray) : ∀ k j, j < k → leBA (leastTo s k) (rotT s j)
  | 0, j, h => absurd h (by omega)
  | k + 1, j, h => by
    rw [leastTo_succ]
    rcases Nat.lt_or_ge j k with hlt | hge
    · exact leBA_trans (minS_le1 _ _) (leastTo_le s k j hlt)
    · obtain rfl : j = k := by omega
      exact minS_le2 _ _
theorem leastT_least {s : ByteArray} (h1 : 1 ≤ s.size) : Least (Rots s) (leastT s) := by
  refine ⟨?_, fun x ⟨k, hk, e⟩ => by rw [e]; exact leastTo_le s s.size k hk⟩
  rcases leastTo_in s s.size (Nat.le_refl _) with e | ⟨j, hj, e⟩
  · exact ⟨0, h1, by unfold leastT; rw [e, rot_zero]⟩
  · exact ⟨j, hj, e⟩
/-- Turning turns among the same. -/
theorem rot_rot {s : ByteArray} {n k : Nat} (hn : n < s.size) (hk : k < s.size) : ∃ j, j < s.size ∧ rotT (rotT s n) k = rotT s j := by
  have hsz : (rotT s n).size = s.size := rot_size (by omega)
  have hL := bytes_len s
  by_cases h : n + k < s.size
  · refine ⟨n + k, h, ba_ext ?_⟩
    rw [rot_list (by omega), rot_list (by omega), rot_list (by omega)]
    obtain ⟨a, r, e1, ha⟩ := split_at s.data.toList (n := n) (by omega)
    rw [e1] at hL ⊢
    rw [List.length_append] at hL
    obtain ⟨b, c, rfl, hb⟩ := split_at r (n := k) (by omega)
    rw [rl_app a _ ha, List.append_assoc, rl_app b _ hb, ← List.append_assoc, rl_app (a ++ b) c (by rw [List.length_append]; omega), List.append_assoc]
  · refine ⟨n + k - s.size, by omega, ba_ext ?_⟩
    rw [rot_list (by omega), rot_list (by omega), rot_list (by omega)]
    obtain ⟨a, r, e1, ha⟩ := split_at s.data.toList (n := n) (by omega)
    rw [e1] at hL ⊢
    rw [List.length_append] at hL
    obtain ⟨a1, a2, rfl, hb⟩ := split_at a (n := n + k - s.size) (by omega)
    rw [rl_app _ r ha, ← List.append_assoc, rl_app (r ++ a1) a2 (by rw [List.length_append]; omega), List.append_assoc a1, rl_app a1 _ hb]
    simp
theorem rot_back {s : ByteArray} {n : Nat} (hn : n < s.size) : ∃ j, j < s.size ∧ rotT (rotT s n) j = s := by
  have hsz : (rotT s n).size = s.size := rot_size (by omega)
  have hL := bytes_len s
  rcases Nat.eq_zero_or_pos n with h0 | h0
  · subst h0; exact ⟨0, hn, by rw [rot_zero, rot_zero]⟩
  · refine ⟨s.size - n, by omega, ba_ext ?_⟩
    rw [rot_list (by omega), rot_list (by omega)]
    obtain ⟨a, r, e1, ha⟩ := split_at s.data.toList (n := n) (by omega)
    rw [e1] at hL ⊢
    rw [List.length_append] at hL
    rw [rl_app a r ha, rl_app r a (by omega)]
theorem rots_rot {s : ByteArray} {n : Nat} (hn : n < s.size) (x : ByteArray) : Rots (rotT s n) x ↔ Rots s x := by
  have hsz : (rotT s n).size = s.size := rot_size (by omega)
  constructor
  · rintro ⟨k, hk, rfl⟩
    exact rot_rot hn (by omega)
  · rintro ⟨k, hk, rfl⟩
    obtain ⟨j, hj, e⟩ := rot_back hn
    obtain ⟨i, hi, e'⟩ := rot_rot (s := rotT s n) (n := j) (k := k) (by omega) (by omega)
    rw [e] at e'
    exact ⟨i, hi, e'⟩
theorem leastT_rot {s : ByteArray} {n : Nat} (hn : n < s.size) : leastT (rotT s n) = leastT s := by
  have hsz : (rotT s n).size = s.size := rot_size (by omega)
  have h := leastT_least (s := rotT s n) (by omega)
  have h' := leastT_least (s := s) (by omega)
  exact least_uniq (S := Rots s) ⟨(rots_rot hn _).1 h.1, fun x hx => h.2 x ((rots_rot hn x).2 hx)⟩ h'
theorem revTo_list (s : ByteArray) : ∀ k, k ≤ s.size → (revTo s k).data.toList = (s.data.toList.take k).reverse
  | 0, _ => rfl
  | k + 1, h => by
    have hk : k < s.data.toList.length := by rw [bytes_len]; omega
    rw [revTo, ByteArray.data_append, Array.toList_append, ext_list, revTo_list s k (by omega), Nat.add_sub_cancel_left, List.drop_eq_getElem_cons hk]
    rw [show (s.data.toList.take (k + 1)).reverse = (s.data.toList.take k ++ [s.data.toList[k]]).reverse by rw [List.take_succ_eq_append_getElem hk]]
    simp
theorem revT_list {s : ByteArray} (h : 1 ≤ s.size) : (revT s).data.toList = (s.data.toList.take (s.size - 1)).reverse ++ s.data.toList.drop (s.size - 1) := by
  unfold revT
  rw [ByteArray.data_append, Array.toList_append, revTo_list s _ (by omega), ext_list]
  congr 1
  exact List.take_of_length_le (by simp)
theorem revL_eq {a : List UInt8} {b : UInt8} {m : Nat} (h : m = a.length) : ((a ++ [b]).take m).reverse ++ (a ++ [b]).drop m = a.reverse ++ [b] := by
  subst h; simp
theorem last_of {α : Type} {l : List α} (h : 1 ≤ l.length) : ∃ a b, l = a ++ [b] ∧ a.length = l.length - 1 := by
  rcases List.eq_nil_or_concat l with e | ⟨a, b, e⟩
  · subst e; simp at h
  · rw [List.concat_eq_append] at e
    exact ⟨a, b, e, by rw [e]; simp⟩
theorem revT_revT {s : ByteArray} (h : 1 ≤ s.size) : revT (revT s) = s := by
  apply ba_ext
  have hz := rev_size h
  have hL := bytes_len s
  rw [revT_list (by omega), hz, revT_list h]
  obtain ⟨a, b, e, ha⟩ := last_of (l := s.data.toList) (by omega)
  rw [e] at hL ⊢
  simp only [List.length_append, List.length_singleton] at hL
  rw [revL_eq (by omega), revL_eq (by simp; omega), List.reverse_reverse]
/-- The reversal of a turned touch is a turn of the reversal. -/
theorem rev_rot {s : ByteArray} {n : Nat} (hn : n < s.size) : ∃ j, j < s.size ∧ revT (rotT s n) = rotT (revT s) j := by
  have hz := rev_size (s := s) (by omega)
  have hsz : (rotT s n).size = s.size := rot_size (by omega)
  rcases Nat.eq_zero_or_pos n with h0 | h0
  · subst h0; exact ⟨0, hn, by rw [rot_zero, rot_zero]⟩
  · refine ⟨s.size - n, by omega, ba_ext ?_⟩
    have hL := bytes_len s
    rw [revT_list (by omega), hsz, rot_list (by omega), rot_list (by omega), revT_list (by omega)]
    obtain ⟨a, r, e1, ha⟩ := split_at s.data.toList (n := n) (by omega)
    rw [e1] at hL ⊢
    rw [List.length_append] at hL
    obtain ⟨x, e, rfl, hx⟩ := last_of (l := a) (by omega)
    obtain ⟨y, f, rfl, hy⟩ := last_of (l := r) (by omega)
    simp only [List.length_append, List.length_singleton] at ha hL
    rw [rl_app _ _ (by simpa using ha), show y ++ [f] ++ (x ++ [e]) = (y ++ [f] ++ x) ++ [e] by simp, revL_eq (by simp; omega), show x ++ [e] ++ (y ++ [f]) = (x ++ [e] ++ y) ++ [f] by simp, revL_eq (by simp; omega)]
    rw [show (x ++ [e] ++ y).reverse ++ [f] = (y.reverse ++ [e]) ++ (x.reverse ++ [f]) by simp, rl_app _ _ (by simp; omega)]
    simp
theorem leastT_rev_rot {s : ByteArray} {n : Nat} (hn : n < s.size) : leastT (revT (rotT s n)) = leastT (revT s) := by
  obtain ⟨j, hj, e⟩ := rev_rot hn
  rw [e, leastT_rot (by rw [rev_size (by omega)]; exact hj)]
theorem minS_comm {a b : ByteArray} : Lib.minS a b = Lib.minS b a := by
  refine leBA_anti ?_ ?_
  · rcases minS_or b a with e | e <;> rw [e]
    · exact minS_le2 _ _
    · exact minS_le1 _ _
  · rcases minS_or a b with e | e <;> rw [e]
    · exact minS_le2 _ _
    · exact minS_le1 _ _
theorem leastB_turned {s : ByteArray} {n : Nat} (hn : n < s.size) : leastB (rotT (revT s) n) true = leastB s true := by
  have hz := rev_size (s := s) (by omega)
  unfold leastB
  rw [if_pos rfl, if_pos rfl, leastT_rot (by omega), leastT_rev_rot (by omega), revT_revT (by omega)]
  exact minS_comm
end Go.Proofs.Ytamneiffhohleaa

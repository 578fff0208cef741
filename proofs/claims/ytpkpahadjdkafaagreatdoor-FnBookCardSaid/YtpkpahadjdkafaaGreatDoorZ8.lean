/- Books, a plain account: a text is read back; a cut text gives its whole lines. -/
import Derived.Test.YtpkpahadjdkafaaGreatDoorZ4
namespace Go.Proofs.YtpkpahadjdkafaaGreatDoor
open Go Go.RowKit
set_option linter.unusedVariables false
set_option linter.unusedSimpArgs false

def lineL (x : Rc) : List UInt8 := (lineT x).data.toList
def textL (xs : List Rc) : List UInt8 := xs.flatMap lineL
theorem textL_cons (x : Rc) (t : List Rc) : textL (x :: t) = lineL x ++ textL t := List.flatMap_cons
theorem booksT_list (xs : List Rc) : ∀ k, k ≤ xs.length → (booksT xs k).data.toList = textL (xs.take k) := by
  intro k
  induction k with
  | zero => intro _; rfl
  | succ k ih =>
    intro h
    have e : (booksT xs (k + 1)).data.toList = (booksT xs k).data.toList ++ lineL xs[k] := by
      rw [booksT_succ (by omega), ByteArray.data_append, Array.toList_append]; rfl
    rw [e, ih (by omega), List.take_succ_eq_append_getElem (by omega)]
    unfold textL
    rw [List.flatMap_append]; simp
theorem noteC_ne {c : UInt8} (h : noteC c = true) : c ≠ 10 := by rintro rfl; revert h; decide
/-- A line without its end. -/
def bodyL (x : Rc) : List UInt8 := (recT x).data.toList ++ 32 :: (sumT x).data.toList
theorem lineL_body (x : Rc) : lineL x = bodyL x ++ [10] := by
  unfold lineL bodyL
  rw [line_list]; simp
theorem num_ne10 {n : Int} (h0 : 0 ≤ n) : ∀ b ∈ (numT n).data.toList, b ≠ 10 := by
  obtain ⟨u, rfl⟩ : ∃ u : Nat, n = u := ⟨n.toNat, by omega⟩
  rw [numT_list]
  intro b hb e
  subst e
  have := List.all_eq_true.1 (dec_all u) _ hb
  revert this; decide
theorem rec_words10 {r : Rc} (h : recB r = true) : (∀ b ∈ r.meth.data.toList, b ≠ 10) ∧ (∀ b ∈ r.touch.data.toList, b ≠ 10) ∧ ∀ b ∈ r.note.data.toList, b ≠ 10 := by
  unfold recB wordB touchB noteB at h
  simp only [Bool.and_eq_true] at h
  refine ⟨fun b hb e => ?_, fun b hb e => ?_, fun b hb e => ?_⟩
  · subst e; have := List.all_eq_true.1 h.2.1.1 _ hb; revert this; decide
  · subst e; have := List.all_eq_true.1 h.2.2.1.1 _ hb; revert this; decide
  · subst e; have := List.all_eq_true.1 h.2.2.2.2.1 _ hb; revert this; decide
theorem body_ne {x : Rc} (h : recB x = true) : ∀ b ∈ bodyL x, b ≠ 10 := by
  obtain ⟨h1, h2, h3, h4, _⟩ := rec_bd h
  obtain ⟨w1, w2, w3⟩ := rec_words10 h
  have n1 := num_ne10 (n := x.day) h1
  have n2 := num_ne10 (n := x.rows) (by omega)
  have n3 := num_ne10 (n := (sumL (recT x).data.toList : Nat)) (by omega)
  have h32 : (32 : UInt8) ≠ 10 := by decide
  unfold bodyL
  rw [rec_list]
  intro b hb
  simp only [List.mem_append, List.mem_cons] at hb
  rcases hb with hb | rfl | hb | rfl | hb | rfl | hb | rfl | hb | rfl | hb
  · exact n1 b hb
  · exact h32
  · exact w1 b hb
  · exact h32
  · exact w2 b hb
  · exact h32
  · exact n2 b hb
  · exact h32
  · exact w3 b hb
  · exact h32
  · exact n3 b hb
theorem lines_none {l : List UInt8} (h : ∀ b ∈ l, b ≠ 10) : linesL l = [] := by
  unfold linesL
  rw [split_one 10 l h]; rfl
theorem lines_cons {l t : List UInt8} (h : ∀ b ∈ l, b ≠ 10) : linesL (l ++ 10 :: t) = (⟨l.toArray⟩ : ByteArray) :: linesL t := by
  unfold linesL
  rw [split_app 10 l t h, List.map_cons, List.dropLast_cons_of_ne_nil]
  intro e
  exact splitL_ne 10 t (List.map_eq_nil_iff.1 e)
theorem body_line (x : Rc) : (⟨(bodyL x).toArray⟩ : ByteArray) ++ nl = lineT x := by
  apply ByteArray.ext
  apply Array.toList_inj.1
  have := lineL_body x
  unfold lineL at this
  rw [this]
  simp [nl, ByteArray.data_append]
theorem book_cut : ∀ (xs acc : List Rc) (a cut : Nat), (∀ x ∈ xs, recB x = true) → (∀ j, j ≤ xs.length → bookB (acc ++ xs.take j) = true) → cut ≤ (textL xs).length →
    ∃ j, j ≤ xs.length ∧ bookOf (linesL ((textL xs).take cut)) acc a = (acc ++ xs.take j, a + (textL (xs.take j)).length) ∧ (textL (xs.take j)).length ≤ cut ∧ (cut = (textL xs).length → j = xs.length)
  | [], acc, a, cut, _, _, _ => by
    refine ⟨0, Nat.le_refl _, ?_, by simp [textL], fun _ => rfl⟩
    have e : (textL []).take cut = [] := by simp [textL]
    rw [e, lines_none (fun b hb => by cases hb)]
    simp [bookOf, textL]
  | x :: t, acc, a, cut, hr, hb, hc => by
    have hx := hr x (by simp)
    have hlen : (lineL x).length = (bodyL x).length + 1 := by rw [lineL_body]; simp
    rw [textL_cons, List.length_append] at hc
    by_cases hlt : cut < (lineL x).length
    · refine ⟨0, Nat.zero_le _, ?_, by simp [textL], fun e => by rw [textL_cons, List.length_append] at e; omega⟩
      have e : (textL (x :: t)).take cut = (bodyL x).take cut := by
        rw [textL_cons, lineL_body, List.append_assoc, List.take_append_of_le_length (by omega)]
      rw [e, lines_none (fun b hb => body_ne hx b (List.mem_of_mem_take hb))]
      simp [bookOf, textL]
    · have e : (textL (x :: t)).take cut = bodyL x ++ 10 :: (textL t).take (cut - (lineL x).length) := by
        rw [textL_cons, List.take_append, List.take_of_length_le (by omega)]
        rw [lineL_body, List.append_assoc]; rfl
      have h1 : bookB (acc ++ [x]) = true := by have := hb 1 (by simp); simpa using this
      obtain ⟨j, hj, e2, h3, h4⟩ := book_cut t (acc ++ [x]) (a + (lineL x).length) (cut - (lineL x).length) (fun y hy => hr y (by simp [hy]))
        (fun j hj => by have := hb (j + 1) (by simpa using hj); rw [List.take_succ_cons] at this; simpa using this) (by omega)
      refine ⟨j + 1, by simpa using hj, ?_, ?_, fun e => ?_⟩
      · rw [e, lines_cons (body_ne hx), book_more (r := x) (by rw [body_line]; exact read_line hx) h1]
        have e5 : a + (⟨(bodyL x).toArray⟩ : ByteArray).size + 1 = a + (lineL x).length := by
          rw [hlen]
          show a + (bodyL x).toArray.size + 1 = _
          rw [List.size_toArray]; omega
        rw [e5, e2, List.take_succ_cons, textL_cons, List.length_append]
        simp [Nat.add_assoc]
      · rw [List.take_succ_cons, textL_cons, List.length_append]; omega
      · rw [textL_cons, List.length_append] at e
        have := h4 (by omega)
        simp [this]
theorem book_pre {xs : List Rc} (h : bookB xs = true) (j : Nat) : bookB (xs.take j) = true := by
  obtain ⟨h1, h2, h3, h4⟩ := (bookB_iff xs).1 h
  exact (bookB_iff _).2 ⟨by rw [List.length_take]; omega, fun x hx => h2 x (List.mem_of_mem_take hx), h3.sublist (List.take_sublist j xs), h4.sublist (List.take_sublist j xs)⟩
theorem bookT_list {xs : List Rc} (h : bookB xs = true) : (bookT xs).data.toList = textL xs := by
  rw [bookT_yes h, booksT_list xs _ (Nat.le_refl _), List.take_length]
/-- What a cut text of a book gives. -/
theorem read_cut {xs : List Rc} {cut : Nat} (h : bookB xs = true) (hc : cut ≤ (bookT xs).size) :
    ∃ j n, j ≤ xs.length ∧ n ≤ cut ∧ bookOf (linesL ((bookT xs).data.toList.take cut)) [] 0 = (xs.take j, n) := by
  rw [bookT_list h]
  obtain ⟨j, hj, e, h3, _⟩ := book_cut xs [] 0 cut ((bookB_iff xs).1 h).2.1 (fun j _ => by rw [List.nil_append]; exact book_pre h j) (by rw [← bookT_list h, bytes_len]; exact hc)
  exact ⟨j, _, hj, h3, by rw [e, List.nil_append, Nat.zero_add]⟩
/-- A book's text is read back whole. -/
theorem read_back {xs : List Rc} (h : bookB xs = true) : bookOf (linesL (bookT xs).data.toList) [] 0 = (xs, (bookT xs).size) := by
  have hl : (bookT xs).size = (textL xs).length := by rw [← bookT_list h, bytes_len]
  obtain ⟨j, hj, e, h3, h4⟩ := book_cut xs [] 0 (textL xs).length ((bookB_iff xs).1 h).2.1 (fun j _ => by rw [List.nil_append]; exact book_pre h j) (Nat.le_refl _)
  have := h4 rfl
  subst this
  rw [List.take_length, List.take_length] at e
  rw [bookT_list h, e, hl, List.nil_append, Nat.zero_add]
end Go.Proofs.YtpkpahadjdkafaaGreatDoor

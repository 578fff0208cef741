/- Plain facts: a record put into a book. -/
import Derived.Test.YtpkpahadjdkafaaGreatDoorV3
namespace Go.Proofs.YtpkpahadjdkafaaGreatDoor
open Go Go.RowKit
set_option linter.unusedVariables false
set_option linter.unusedSimpArgs false

def insR (xs : List Rc) (k : Nat) (r : Rc) : List Rc := xs.take k ++ ([r] ++ xs.drop k)
def IsPos (xs : List Rc) (r : Rc) (k : Nat) : Prop := k ≤ xs.length ∧ (∀ x ∈ xs.take k, x.day ≤ r.day) ∧ (∀ x ∈ xs.drop k, r.day < x.day)
theorem mem_take_at {α : Type} {xs : List α} {j k : Nat} (hj : j < xs.length) (h : j < k) : xs[j] ∈ xs.take k := by
  rw [List.mem_iff_getElem]; exact ⟨j, by simp; omega, by simp⟩
theorem mem_drop_at {α : Type} {xs : List α} {j k : Nat} (hj : j < xs.length) (h : k ≤ j) : xs[j] ∈ xs.drop k := by
  rw [List.mem_iff_getElem]; exact ⟨j - k, by simp; omega, by simp; congr 1; omega⟩
theorem pos_le {xs : List Rc} {r : Rc} {k k' : Nat} (h : IsPos xs r k) (h' : IsPos xs r k') : k' ≤ k := by
  rcases Nat.lt_or_ge k k' with hlt | hge
  · have hkx : k < xs.length := by have := h'.1; omega
    have h1 := h'.2.1 _ (mem_take_at hkx hlt)
    have h2 := h.2.2 _ (mem_drop_at hkx (Nat.le_refl _))
    omega
  · exact hge
theorem pos_uniq {xs : List Rc} {r : Rc} {k k' : Nat} (h : IsPos xs r k) (h' : IsPos xs r k') : k = k' := Nat.le_antisymm (pos_le h' h) (pos_le h h')
open Classical in
noncomputable def posR (xs : List Rc) (r : Rc) : Nat := if h : ∃ k, IsPos xs r k then Classical.choose h else 0
theorem posR_eq {xs : List Rc} {r : Rc} {k : Nat} (h : IsPos xs r k) : posR xs r = k := by
  unfold posR
  rw [dif_pos ⟨k, h⟩]
  exact pos_uniq (Classical.choose_spec (⟨k, h⟩ : ∃ k, IsPos xs r k)) h
theorem insR_len {xs : List Rc} {k : Nat} (hk : k ≤ xs.length) (r : Rc) : (insR xs k r).length = xs.length + 1 := by unfold insR; simp; omega
theorem insR_book {xs : List Rc} {r : Rc} {k : Nat} (hb : BookP xs) (hr : recB r = true) (hp : IsPos xs r k) (ha : xs.any (alikeP r.meth r.touch) = false) : BookP (insR xs k r) := by
  obtain ⟨h1, h2, h3⟩ := hb
  have hsplit := List.take_append_drop k xs
  rw [← hsplit] at h2 h3
  obtain ⟨d1, d2, d3⟩ := List.pairwise_append.1 h2
  obtain ⟨a1, a2, a3⟩ := List.pairwise_append.1 h3
  rw [List.any_eq_false] at ha
  have hno : ∀ x ∈ xs, alikeP r.meth r.touch x = false := fun x hx => by simpa using ha x hx
  unfold insR
  refine ⟨fun x hx => ?_, List.pairwise_append.2 ⟨d1, List.pairwise_cons.2 ⟨fun b hb => by have := hp.2.2 b hb; omega, d2⟩, fun a ha b hb => ?_⟩, List.pairwise_append.2 ⟨a1, List.pairwise_cons.2 ⟨fun b hb => ?_, a2⟩, fun a ha' b hb => ?_⟩⟩
  · rcases List.mem_append.1 hx with hx | hx
    · exact h1 x (List.mem_of_mem_take hx)
    · rcases List.mem_append.1 hx with hx | hx
      · rw [List.mem_singleton.1 hx]; exact hr
      · exact h1 x (List.mem_of_mem_drop hx)
  · rcases List.mem_append.1 hb with hb | hb
    · rw [List.mem_singleton.1 hb]; exact hp.2.1 a ha
    · exact d3 a ha b hb
  · rw [alikeP_symm]; exact hno b (List.mem_of_mem_drop hb)
  · rcases List.mem_append.1 hb with hb | hb
    · rw [List.mem_singleton.1 hb]; exact hno a (List.mem_of_mem_take ha')
    · exact a3 a ha' b hb
def hasA (xs : List Rc) (r : Rc) : Bool := xs.any (alikeP r.meth r.touch)
noncomputable def addL (xs : List Rc) (r : Rc) : List Rc := if hasA xs r then xs else if xs.length + 1 ≤ 20 then insR xs (posR xs r) r else []
def addF (xs : List Rc) (r : Rc) : Bool := !(hasA xs r) && decide (xs.length + 1 ≤ 20)
def addO (xs : List Rc) (r : Rc) : Bool := hasA xs r || decide (xs.length + 1 ≤ 20)
theorem add_has {xs : List Rc} {r : Rc} (h : hasA xs r = true) : addL xs r = xs ∧ addF xs r = false ∧ addO xs r = true := by unfold addL addF addO; rw [h]; exact ⟨rfl, rfl, rfl⟩
theorem add_new {xs : List Rc} {r : Rc} {k : Nat} (h : hasA xs r = false) (hp : IsPos xs r k) (hl : xs.length + 1 ≤ 20) : addL xs r = insR xs k r ∧ addF xs r = true ∧ addO xs r = true := by
  unfold addL addF addO; rw [h, if_pos hl, posR_eq hp, decide_eq_true hl]; exact ⟨rfl, rfl, rfl⟩
theorem add_full {xs : List Rc} {r : Rc} (h : hasA xs r = false) (hl : ¬ xs.length + 1 ≤ 20) : addL xs r = [] ∧ addF xs r = false ∧ addO xs r = false := by
  unfold addL addF addO; rw [h, if_neg hl, decide_eq_false hl]; exact ⟨rfl, rfl, rfl⟩
theorem insR_bookB {xs : List Rc} {r : Rc} {k : Nat} (hb : bookB xs = true) (hr : recB r = true) (hp : IsPos xs r k) (ha : hasA xs r = false) : bookB (insR xs k r) = decide (xs.length + 1 ≤ 20) := by
  have hbk := insR_book ((bookB_iff xs).1 hb).2 hr hp ha
  rw [Bool.eq_iff_iff, bookB_iff, insR_len hp.1, decide_eq_true_eq]
  exact ⟨fun h => h.1, fun h => ⟨h, hbk⟩⟩
/-- The walk up: all ahead of k are no later; k is the end or later. -/
theorem pos_up {xs : List Rc} {r : Rc} {k : Nat} (hb : bookB xs = true) (hk : k ≤ xs.length) (h1 : ∀ x ∈ xs.take k, x.day ≤ r.day) (h2 : ∀ h : k < xs.length, r.day < (xs[k]'h).day) : IsPos xs r k := by
  refine ⟨hk, h1, fun x hx => ?_⟩
  obtain ⟨j, hj, rfl⟩ := List.mem_iff_getElem.1 hx
  simp only [List.length_drop] at hj
  rw [List.getElem_drop]
  have hk2 : k < xs.length := by omega
  have := h2 hk2
  rcases Nat.eq_zero_or_pos j with h0 | h0
  · subst h0; exact this
  · have hp := List.pairwise_iff_getElem.1 ((bookB_iff xs).1 hb).2.2.1 k (k + j) hk2 (by omega) (by omega)
    omega
/-- The walk down: all from k on are later; k is the start or what stands ahead of it is no later. -/
theorem pos_down {xs : List Rc} {r : Rc} {k : Nat} (hb : bookB xs = true) (hk : k ≤ xs.length) (h1 : ∀ x ∈ xs.drop k, r.day < x.day) (h2 : ∀ (h : 0 < k), (xs[k - 1]'(by omega)).day ≤ r.day) : IsPos xs r k := by
  refine ⟨hk, fun x hx => ?_, h1⟩
  obtain ⟨j, hj, rfl⟩ := List.mem_iff_getElem.1 hx
  simp only [List.length_take] at hj
  rw [List.getElem_take]
  have h0 : 0 < k := by omega
  have := h2 h0
  rcases Nat.lt_or_ge j (k - 1) with hlt | hge
  · have hp := List.pairwise_iff_getElem.1 ((bookB_iff xs).1 hb).2.2.1 j (k - 1) (by omega) (by omega) hlt
    omega
  · have e : j = k - 1 := by omega
    subst e; exact this
theorem drop_more {xs : List Rc} {r : Rc} {k : Nat} (hk : k < xs.length) (h : ∀ x ∈ xs.drop (k + 1), r.day < x.day) (h1 : r.day < (xs[k]'hk).day) : ∀ x ∈ xs.drop k, r.day < x.day := by
  intro x hx
  rw [List.drop_eq_getElem_cons hk] at hx
  rcases List.mem_cons.1 hx with hx | hx
  · rw [hx]; exact h1
  · exact h x hx
theorem flat_cut (xs : List Rc) (k : Nat) : (xs.flatMap Rc.cells).take (k * 5) = (xs.take k).flatMap Rc.cells ∧ (xs.flatMap Rc.cells).drop (k * 5) = (xs.drop k).flatMap Rc.cells := by
  induction xs generalizing k with
  | nil => simp
  | cons x t ih =>
    cases k with
    | zero => simp
    | succ k =>
      have hl : x.cells.length = 5 := rfl
      rw [List.flatMap_cons, List.take_succ_cons, List.drop_succ_cons, List.flatMap_cons, show (k + 1) * 5 = 5 + k * 5 by omega]
      rw [List.take_append, List.drop_append, hl, List.take_of_length_le (by omega), List.drop_of_length_le (by omega)]
      rw [show 5 + k * 5 - 5 = k * 5 by omega, (ih k).1, (ih k).2]
      exact ⟨rfl, rfl⟩
theorem insR_cells (xs : List Rc) (k : Nat) (r : Rc) : (xs.flatMap Rc.cells).take (k * 5) ++ r.cells ++ (xs.flatMap Rc.cells).drop (k * 5) = (insR xs k r).flatMap Rc.cells := by
  rw [(flat_cut xs k).1, (flat_cut xs k).2]
  unfold insR
  simp [List.flatMap_append]
theorem hasA_ix (xs : List Rc) (r : Rc) : hasA xs r = decide (0 ≤ ixR (alikeP r.meth r.touch) 0 xs) := any_ixR _ _ _
theorem insR_fit {xs : List Rc} {r : Rc} {k : Nat} (hs : AllFit xs) (hr : RcFit r) : AllFit (insR xs k r) := by
  intro x hx
  unfold insR at hx
  rcases List.mem_append.1 hx with hx | hx
  · exact hs x (List.mem_of_mem_take hx)
  · rcases List.mem_append.1 hx with hx | hx
    · rw [List.mem_singleton.1 hx]; exact hr
    · exact hs x (List.mem_of_mem_drop hx)
end Go.Proofs.YtpkpahadjdkafaaGreatDoor
